/- Prices: two solutions agree; the depths of a breadth-first tree are one. space.Steps: what its first loop knows. The queue's heap: what the slice of entries reads as; Less, Swap, Len walked. Costs in plain words: two solutions agree; the search that corrects costs. breadth.limited and breadth.Plan. strips.StateFault, breadth.Reach. The example task of the laws; breadth's example. breadth: the law that Plan is the reference's. space.Distances, space.Optimal. strips: sets, states and plans in plain words. Plans and the table of costs, in plain words. The least price of a plan, in plain Lean: what a search for best plans must find. A search from both ends, in plain Lean: what its two sides know, and that they have met on a best way when it ends. A map with words as keys, as a function that is not defined everywhere. A search from both ends, in plain Lean: the way back from a state, the measure of the search, its start, and the best plan at its end. bothends: a side in memory, and (*side).back. bothends: the closure that notes where the sides meet (meet$1). space.Path along a chain of parents that may have changed on the way. A search from both ends, in plain Lean: the state in the middle, and the costs of both parts. A search from both ends, in plain Lean: the arcs of both sides. astar: what a best-first search with an admissible heuristic finds, in plain Lean. bothends: both sides in memory, apart from each other, and what one call of advance leaves of them. bothends: both sides in memory as meet has made them. astar: what a best-first search has in memory, and a heuristic as a function value. astar.Best: what the search has in memory between its steps. deepening: a search with a bound, and the searches with rising bounds, in plain Lean. 'range' over a map with words as keys, in whatever order: its step, for a round that leaves the map as it is. No condition beyond what each theorem says. -/
import Derived.Test.YtkjmgafnaddhkaaGreatJ4
import Derived.Test.YtkjmgafnaddhkaaGreatProg
import Derived.Test.YtkjmgafnaddhkaaGreatJ1
import Derived.Deep.RegionLaw
import Derived.Sort.LoopGhostIn
import Derived.IntWalk
import Derived.Lib.SlicesCompact
import Derived.Maps.RangeRun

namespace Go.Proofs.YtkjmgafnaddhkaaGreat

theorem PriOk.walk {A : List Arc} {wt : Arc → Int} {n s : Nat} {d : List Int} (h : PriOk A wt n s d) (hA : ∀ a ∈ A, 0 ≤ wt a) {i : Nat} {c : Int} (hw : WalkA A wt s i c) : 0 ≤ c ∧ ∃ x, d[i]? = some x ∧ 0 ≤ x ∧ x ≤ c := by
  induction hw with
  | nil => exact ⟨Int.le_refl _, 0, h.start, Int.le_refl _, Int.le_refl _⟩
  | snoc _ ha ih =>
    obtain ⟨h0, x, hx, hx0, hxc⟩ := ih
    have hc := hA _ ha
    obtain ⟨y, hy, hy0, hyx⟩ := h.relax _ ha x hx hx0
    exact ⟨by omega, y, hy, hy0, by omega⟩

/-! ### depths -/
end Go.Proofs.YtkjmgafnaddhkaaGreat

namespace Go.Proofs.YtkjmgafnaddhkaaGreat
open Go.RowKit Go.Shelf

theorem ex_fnD {p : (Nat → Value) → Act} {a : Act} (h : a = p (fun k => a.tmps.getD k undef)) : ∃ u, a = p u := ⟨_, h⟩

section
variable {w0 : World} {b1 b2 b3 : Nat} {T : List Ent} {q : List Nat} {vl : Value} {W : World}
end

end Go.Proofs.YtkjmgafnaddhkaaGreat

namespace Go.Proofs.YtkjmgafnaddhkaaGreat.U
open Go.RowKit

structure Ent where
  blk : Nat
  item : Int
  key : Int
  time : Int

/-! ### Swap -/
end Go.Proofs.YtkjmgafnaddhkaaGreat.U

namespace Go.Proofs.YtkjmgafnaddhkaaGreat

/-! ### a map of costs -/
/-! ### the queue as a list of items and keys -/
end Go.Proofs.YtkjmgafnaddhkaaGreat

/- A map whose values own rows apart from each other (m[k] = append(m[k], x)). Nothing here speaks of one program. -/
namespace Go.Proofs.YtkjmgafnaddhkaaGreat
open Go.RowKit

section
variable {α : Type} {B : Nat} {T : TypeId} {sz mb : Nat} {cell : α → List Value} {f : Nat → List α} {F : Nat → Prop} {W : World}

end

end Go.Proofs.YtkjmgafnaddhkaaGreat

/- space.Costs: what its loops know. -/
namespace Go.Proofs.YtkjmgafnaddhkaaGreat
open Go.RowKit Go.Shelf

/-! ### the arcs into each state -/
/-! ### the state of the walk -/
section
variable {w0 : World} {b5 mb bo Q : Nat} {f : Nat → List (Nat × Int)} {L : List Nat} {D : Nat → Int} {A : List (Int × Int)} {t : Int} {F G : Nat → Prop} {W W' : World}
end

theorem ownsRow_formN {w : World} {base size n : Nat} {e : TypeId} {v : Value} {xs : List Value} (h : w.ownsRow base e size v n xs) : ∃ ao cap, v = .slice ao n cap := by
  rcases h.2 with ⟨hv, h0⟩ | ⟨g, cap, cur, hv, _⟩
  · exact ⟨none, 0, by rw [hv, h0]⟩
  · exact ⟨_, cap, hv⟩
theorem drop_getS {α : Type} {l : List α} {n : Nat} {k : α} (h : l[n]? = some k) : l.drop n = k :: l.drop (n + 1) := by
  obtain ⟨hl, he⟩ := List.getElem?_eq_some_iff.1 h
  rw [List.drop_eq_getElem_cons hl, he]
end Go.Proofs.YtkjmgafnaddhkaaGreat

namespace Go.Proofs.YtkjmgafnaddhkaaGreat
open Go.RowKit

/-- Whether a word holds all facts of a goal. -/
def goalB (g x : Nat) : Bool := x &&& g == g

theorem goal_bits {x g : Nat} (hx : x < 4294967296) (hg : g < 4294967296) : (bits .and .u32 (x : Int) (g : Int) == (g : Int)) = goalB g x := by
  rw [(u32_bits hx hg).1]
  unfold goalB
  cases h : x &&& g == g with
  | true => rw [beq_iff_eq] at h ⊢; exact_mod_cast h
  | false => rw [beq_eq_false_iff_ne] at h ⊢; intro e; exact h (by exact_mod_cast e)

def fltV (c i : Int) : Value := .agg #[.int .i64 c, .int .i64 i]

end Go.Proofs.YtkjmgafnaddhkaaGreat

namespace Go.Proofs.YtkjmgafnaddhkaaGreat
open Go.RowKit

def stateFault (t : Tsk) (s : List Int) : Int × Int := if (taskFault t).1 = 0 then (if isSetB s t.n = true then (0, 0) else (5, -4)) else taskFault t

set_option maxHeartbeats 1000000 in
theorem stateFault_any (w : World) (vi vg vo vs : Value) (t : Tsk) (s : List Int) (h : TaskAt w vi vg vo t) (hs : Ints w vs s) :
    Calls Tryz.prog 103 #[.agg #[.int .i64 t.n, vi, vg, vo], vs] w fun e w' => e = .returned (.agg #[.int .i64 (stateFault t s).1, .int .i64 (stateFault t s).2]) ∧ Keeps (fun _ => False) w w' := by
  obtain ⟨ai, ci, h1, _⟩ := h.init.form
  obtain ⟨ag, cg, h2, _⟩ := h.goal.form
  obtain ⟨ao, co, h3, hmo⟩ := h.ops.form
  obtain ⟨aa, cs, h4, _⟩ := hs.form
  subst h1 h2 h3 h4
  have K1 := (Keeps.refl (fun _ => False) w).alloc (.cells #[.int .i64 t.n, .slice ai t.init.length ci, .slice ag t.goal.length cg, .slice ao t.ops.length co] 25)
  have HT := h.keeps0 (K1.alloc (.cells #[.int .i64 0, .int .i64 0] 31))
  have HSS : Ints _ _ s := hs.keeps0 (K1.alloc (.cells #[.int .i64 0, .int .i64 0] 31))
  have HB := (Four.new w (.int .i64 t.n) (.slice ai t.init.length ci) (.slice ag t.goal.length cg) (.slice ao t.ops.length co) 25).keeps0 ((Keeps.refl _ _).alloc (.cells #[.int .i64 0, .int .i64 0] 31))
  have HF : Flt w ((w.alloc (.cells #[.int .i64 t.n, .slice ai t.init.length ci, .slice ag t.goal.length cg, .slice ao t.ops.length co] 25)).alloc (.cells #[.int .i64 0, .int .i64 0] 31)) (w.heap.size + 1) 31 :=
    ⟨by have := heap_alloc_new (w.alloc (.cells #[.int .i64 t.n, .slice ai t.init.length ci, .slice ag t.goal.length cg, .slice ao t.ops.length co] 25)) (.cells #[.int .i64 0, .int .i64 0] 31); rwa [World.size_alloc] at this, by omega, K1.alloc _⟩
  replace HT := Lib.hid HT; replace HB := Lib.hid HB; replace HF := Lib.hid HF; replace HSS := Lib.hid HSS
  clear h hs K1
  go_enter Tryz.func103, Tryz.ntmps103
  go_upto_region 1 with fail
  generalize ((w.alloc (.cells #[.int .i64 t.n, .slice ai t.init.length ci, .slice ag t.goal.length cg, .slice ao t.ops.length co] 25)).alloc (.cells #[.int .i64 0, .int .i64 0] 31)) = w1 at HT HB HF HSS ⊢
  have hbx := HB.out.lt
  obtain ⟨d0, d1, d2, d3⟩ := HB.out
  go_wp2_with fail
  refine (validate_any _ _ _ _ t HT.out).mono ?_; rintro e w2 ⟨rfl, hk⟩
  have HF2 := Lib.hid (HF.out.keeps0 hk)
  have HB2 := HB.out.keeps0 hk
  have hbx2 := HB2.lt
  have KA := (Keeps.refl (fun _ => False) w2).alloc (.cells #[.int .i64 (taskFault t).1, .int .i64 (taskFault t).2] 31)
  have HF3 := Lib.hid (HF2.out.keeps0 KA)
  have HS3 := Lib.hid ((HSS.out.keeps0 hk : Ints w2 _ s).keeps0 KA)
  clear d0 d1 d2 d3 hk
  obtain ⟨d0, d1, d2, d3⟩ := HB2.keeps0 KA
  obtain ⟨e0, e1, z0, z1, hF⟩ := HF3.out.cells
  clear KA HB2
  by_cases hc : (taskFault t).1 = 0
  · have hok := taskFault_zero.1 hc
    have hft := taskFault_ok hok
    rw [hft] at HF3 HS3 d0 d1 d2 d3 e0 e1 z0 z1 hF ⊢
    cases b1 : isSetB s t.n with
    | true =>
      have HP : Hid (stateFault t s = (0, 0)) := by unfold Hid stateFault; rw [if_pos hc, if_pos b1]
      have B1 := Lib.hid b1
      clear hc hft hok b1
      go_wp2_with fail
      refine (sIsSet_val HS3.out B1.out).mono ?_; rintro e w5 ⟨rfl, rfl⟩
      go_wp2_with fail
      refine bodyPost_ret (results_cell_row rfl _ _ (w.heap.size + 1) 31 _ (0, 0) _ rfl (HF3.out.set (.int .i64 0) (.int .i64 0)).1 Tryz.underlying31 rfl (by kernel_rfl)) rfl ?_
      exact ⟨by rw [HP.out], (HF3.out.set _ _).2⟩
    | false =>
      have HP : Hid (stateFault t s = (5, -4)) := by unfold Hid stateFault; rw [if_pos hc, if_neg (by simp [b1])]
      have B1 := Lib.hid b1
      clear hc hft hok b1
      go_wp2_with fail
      refine (sIsSet_val HS3.out B1.out).mono ?_; rintro e w5 ⟨rfl, rfl⟩
      go_wp2_with fail
      refine bodyPost_ret (results_cell_row rfl _ _ (w.heap.size + 1) 31 _ (0, 0) _ rfl (HF3.out.set (.int .i64 5) (.int .i64 (-4))).1 Tryz.underlying31 rfl (by kernel_rfl)) rfl ?_
      exact ⟨by rw [HP.out], (HF3.out.set _ _).2⟩
  · have HP : Hid (stateFault t s = taskFault t) := by unfold Hid stateFault; rw [if_neg hc]
    have hc2 : ((taskFault t).1 == 0) = false := by simpa using hc
    clear hc
    generalize hfe : taskFault t = f at hc2 HP HF3 HS3 d0 d1 d2 d3 e0 e1 z0 z1 hF ⊢
    clear hfe
    go_wp2_with fail
    refine bodyPost_ret (results_cell_row rfl _ _ (w.heap.size + 1) 31 _ (0, 0) _ rfl (HF3.out.set (.int .i64 f.1) (.int .i64 f.2)).1 Tryz.underlying31 rfl (by kernel_rfl)) rfl ?_
    exact ⟨by rw [HP.out], (HF3.out.set _ _).2⟩

/-! ### breadth.Reach -/
end Go.Proofs.YtkjmgafnaddhkaaGreat

namespace Go.Proofs.YtkjmgafnaddhkaaGreat
open Go.RowKit

def stepT : Tsk := ⟨1, [], [0], [⟨[], [0], [], 3⟩]⟩

theorem Ints.nil (w : World) : Ints w (.slice none 0 0) [] := ⟨none, 0, rfl, by simp, fun h => by simp at h⟩
theorem Ints.one {w : World} {b : Nat} {x : Int} {T : TypeId} (h : w.heap[b]? = some (.cells #[.int .i64 x] T (0, 0))) : Ints w (.slice (some ⟨b, 0, none⟩) 1 1) [x] := by
  refine ⟨_, _, rfl, by simp [maxLen], fun _ => ⟨b, 0, rfl, fun j y hj => ?_⟩⟩
  rw [Nat.zero_add, cell_of_blk h]
  cases j with
  | zero => simpa using hj
  | succ j => simp at hj

set_option maxRecDepth 100000 in
theorem step_any (w : World) : Calls Tryz.prog 43 #[] w fun e w' => ∃ vi vg vo, e = .returned (.agg #[.int .i64 1, vi, vg, vo]) ∧ TaskAt w' vi vg vo stepT ∧ Keeps (fun _ => False) w w' := by
  go_enter Tryz.func43, Tryz.ntmps43
  go_wp2_with fail
  generalize hw1 : w.alloc (Obj.cells #[.int .i64 1, .slice none 0 0, .slice (some ⟨w.heap.size + 1, 0, none⟩) 1 1, .slice (some ⟨w.heap.size + 1 + 1 + 1, 0, none⟩) 1 1] 25) = w1
  have s1 : w1.heap.size = w.heap.size + 1 := by rw [← hw1]; simp
  have k1 : Keeps (fun _ => False) w w1 := by rw [← hw1]; exact (Keeps.refl _ _).alloc _
  have b1 : w1.heap[w.heap.size]? = some (.cells #[.int .i64 1, .slice none 0 0, .slice (some ⟨w.heap.size + 1, 0, none⟩) 1 1, .slice (some ⟨w.heap.size + 1 + 1 + 1, 0, none⟩) 1 1] 25 (0, 0)) := by rw [← hw1]; exact heap_alloc_new _ _
  clear hw1
  have b2 := heap_alloc_new w1 (.cells #[.int .i64 0] 3)
  have k2 := (Keeps.refl (fun _ => False) w1).alloc (.cells #[.int .i64 0] 3)
  have s2 : (w1.alloc (.cells #[.int .i64 0] 3)).heap.size = w1.heap.size + 1 := by simp
  generalize w1.alloc (.cells #[.int .i64 0] 3) = w2 at b2 k2 s2 ⊢
  have b3 := heap_alloc_new w2 (.cells #[.int .i64 0] 3)
  have k3 := (Keeps.refl (fun _ => False) w2).alloc (.cells #[.int .i64 0] 3)
  have s3 : (w2.alloc (.cells #[.int .i64 0] 3)).heap.size = w2.heap.size + 1 := by simp
  generalize w2.alloc (.cells #[.int .i64 0] 3) = w3 at b3 k3 s3 ⊢
  have b4 := heap_alloc_new w3 (.cells #[.slice none 0 0, .slice (some ⟨w.heap.size + 1 + 1, 0, none⟩) 1 1, .slice none 0 0, .int .i64 3] 109)
  have k4 := (Keeps.refl (fun _ => False) w3).alloc (.cells #[.slice none 0 0, .slice (some ⟨w.heap.size + 1 + 1, 0, none⟩) 1 1, .slice none 0 0, .int .i64 3] 109)
  generalize w3.alloc (.cells #[.slice none 0 0, .slice (some ⟨w.heap.size + 1 + 1, 0, none⟩) 1 1, .slice none 0 0, .int .i64 3] 109) = w4 at b4 k4 ⊢
  have k14 := k2.trans (k3.trans k4)
  refine bodyPost_ret (results_cell_row rfl _ _ w.heap.size 25 _ (0, 0) _ rfl (k14.heap b1 (fun h => h)) Tryz.underlying25 rfl (by kernel_rfl)) rfl ?_
  have e1 : w1.heap.size = w.heap.size + 1 := s1
  have e2 : w2.heap.size = w.heap.size + 1 + 1 := by omega
  have e3 : w3.heap.size = w.heap.size + 1 + 1 + 1 := by omega
  rw [e1] at b2; rw [e2] at b3; rw [e3] at b4
  refine ⟨_, _, _, rfl, ⟨Ints.nil _, Ints.one ((k3.trans k4).heap b2 (fun h => h)), ⟨_, _, rfl, by simp [maxLen, stepT], fun _ => ⟨_, 0, rfl, fun i o ho => ?_⟩⟩⟩, k1.trans k14⟩
  cases i with
  | zero =>
    simp [stepT] at ho; subst ho
    refine ⟨.slice none 0 0, .slice (some ⟨w.heap.size + 1 + 1, 0, none⟩) 1 1, .slice none 0 0, ?_, ?_, ?_, ?_, Ints.nil _, Ints.one (k4.heap b3 (fun h => h)), Ints.nil _⟩
    all_goals (rw [cell_of_blk b4]; rfl)
  | succ i => simp [stepT] at ho

theorem stepT_ok : taskFault stepT = (0, 0) := by decide
theorem stepT_reached : explored stepT = some [0, 1] := reached_of_end (i := 2) (by decide) rfl
end Go.Proofs.YtkjmgafnaddhkaaGreat

namespace Go.Proofs.YtkjmgafnaddhkaaGreat
open Go.RowKit

theorem goalW_goalB {t : Tsk} (ok : t.Ok) {x : Nat} (hx : Good t.n x) : goalW t x = goalB (wd t.goal) x := by
  have h := appL_word (n := t.n) (o := ⟨t.goal, [], [], 0⟩) ⟨ok.goal, by rfl, by rfl, by rfl, by simp, by simp⟩ hx.1
  rw [hx.2] at h
  exact h

theorem good_next_mem {t : Tsk} (ok : t.Ok) {x y : Nat} (hx : Good t.n x) (hy : y ∈ nexts (wordsOf t.ops) x) : Good t.n y := by
  unfold nexts at hy
  obtain ⟨wo, hwo, rfl⟩ := List.mem_map.1 hy
  have hm := (List.mem_filter.1 hwo).1
  unfold wordsOf at hm
  obtain ⟨o, ho, rfl⟩ := List.mem_map.1 hm
  exact (good_next (by have := ok.n1; omega) (ok.ops o ho) hx).2.2
theorem good_reach {t : Tsk} (ok : t.Ok) {s x : Nat} (hs : Good t.n s) (h : Reach (wordsOf t.ops) s x) : Good t.n x := by
  induction h with
  | refl => exact hs
  | step _ hy ih => exact good_next_mem ok ih hy
theorem good_explored {t : Tsk} (ok : t.Ok) {L : List Nat} (h : explored t = some L) : ∀ x ∈ L, Good t.n x := by
  intro x hx
  exact good_reach ok (good_wd (by have := ok.n1; omega) ok.init) (((reached_some h).2.2.2 x).1 hx)
theorem goals_eq {t : Tsk} (ok : t.Ok) {L : List Nat} (h : ∀ x ∈ L, Good t.n x) : L.map (goalW t) = L.map (goalB (wd t.goal)) := by
  apply List.map_congr_left
  intro x hx
  exact goalW_goalB ok (h x hx)

end Go.Proofs.YtkjmgafnaddhkaaGreat

namespace Go.Proofs.YtkjmgafnaddhkaaGreat
open Go.RowKit

/-- What Costs asks for. -/
theorem costs_need {t : Tsk} (ok : t.Ok) {l ws : List Nat} (hx : explored t = some l) (hp : ws.Perm l) :
    wd t.init < 4294967296 ∧ wd t.goal < 4294967296 ∧ (wordsOf t.ops).length ≤ 40 ∧ Shut (wordsOf t.ops) ws ∧ ws.length ≤ 2000 ∧ (∀ x ∈ ws, x < 4294967296) ∧ (∀ o ∈ wordsOf t.ops, 0 ≤ o.cost ∧ o.cost ≤ 1000000) ∧ wd t.init ∈ ws := by
  have hs32 : wd t.init < 4294967296 := wd_lt32 (by have := ok.n1; omega : t.n ≤ 32) ok.init
  have hg32 : wd t.goal < 4294967296 := wd_lt32 (by have := ok.n1; omega : t.n ≤ 32) ok.goal
  have hsh := shut_reached (ops := wordsOf t.ops) (s := wd t.init) (L := l) hx
  have hr := reached_some (ops := wordsOf t.ops) (s := wd t.init) (l := l) hx
  refine ⟨hs32, hg32, by unfold wordsOf; rw [List.length_map]; exact ok.few, ⟨hp.nodup_iff.2 hsh.1, fun x h o ho hc => hp.mem_iff.2 (hsh.2 x (hp.mem_iff.1 h) o ho hc)⟩, by rw [hp.length_eq]; exact hr.2.1, fun x h => reach_small (wops_ok ok) hs32 ((hr.2.2.2 x).1 (hp.mem_iff.1 h)), fun o ho => ?_, hp.mem_iff.2 (List.mem_of_getElem? hr.2.2.1)⟩
  unfold wordsOf at ho
  obtain ⟨o', ho', rfl⟩ := List.mem_map.1 ho
  have h := ok.ops o' ho'
  have hc : o'.word.cost = o'.cost := rfl
  rw [hc]
  exact ⟨h.cost0, by have := h.cost1; omega⟩

end Go.Proofs.YtkjmgafnaddhkaaGreat

/- space's example. -/
namespace Go.Proofs.YtkjmgafnaddhkaaGreat
open Go.RowKit

theorem Ints.two {w : World} {b : Nat} {x y : Int} {T : TypeId} (h : w.heap[b]? = some (.cells #[.int .i64 x, .int .i64 y] T (0, 0))) : Ints w (.slice (some ⟨b, 0, none⟩) 2 2) [x, y] := by
  refine ⟨_, 2, rfl, by unfold maxLen; simp, fun _ => ⟨b, 0, rfl, fun i z hz => ?_⟩⟩
  match i, hz with
  | 0, hz => simp at hz; subst hz; rw [cell_of_blk h]; rfl
  | 1, hz => simp at hz; subst hz; rw [cell_of_blk h]; rfl
end Go.Proofs.YtkjmgafnaddhkaaGreat

/- space: the law that the functions are the reference's. -/
namespace Go.Proofs.YtkjmgafnaddhkaaGreat
open Go.RowKit

theorem exp_cases (t : Tsk) : (∃ c i, c ≠ 0 ∧ expF t = (c, i)) ∨ (t.Ok ∧ ∃ l, explored t = some l ∧ expF t = (0, 0)) := by
  unfold expF
  by_cases h : (taskFault t).1 = 0
  · rw [if_pos h]
    cases hx : explored t with
    | none => exact .inl ⟨10, -7, by decide, rfl⟩
    | some l => exact .inr ⟨taskFault_zero.1 h, l, rfl, rfl⟩
  · rw [if_neg h]
    exact .inl ⟨_, _, h, rfl⟩
section
variable {w : World} {vi vg vo : Value} {t : Tsk}
end

end Go.Proofs.YtkjmgafnaddhkaaGreat

/- space: SpaceFunctionsMatchSpec walked. -/
namespace Go.Proofs.YtkjmgafnaddhkaaGreat
open Go.RowKit

end Go.Proofs.YtkjmgafnaddhkaaGreat

namespace Go.Proofs.YtkjmgafnaddhkaaGreat

/-! ### sets -/
theorem compact_sorted (d : Array Int) (hs : ∀ i j, i ≤ j → j < d.size → d[i]! ≤ d[j]!) : ∀ m, m ≤ d.size →
    (Lib.compactUpTo d m).Pairwise (· < ·) ∧ (∀ x, x ∈ Lib.compactUpTo d m ↔ ∃ j, j < m ∧ d[j]! = x)
  | 0, _ => ⟨by simp [Lib.compactUpTo], fun x => by simp [Lib.compactUpTo]⟩
  | m + 1, hm => by
    obtain ⟨h1, h2⟩ := compact_sorted d hs m (by omega)
    rw [Lib.compactUpTo_succ]
    by_cases hk : Lib.keeps d m = true
    · rw [if_pos hk]
      have hlt : ∀ x ∈ Lib.compactUpTo d m, x < d[m]! := fun x hx => by
        obtain ⟨j, hj, rfl⟩ := (h2 x).1 hx
        have e1 := hs j (m - 1) (by omega) (by omega)
        have e2 := hs (m - 1) m (by omega) (by omega)
        have e3 : d[m]! ≠ d[m - 1]! := by
          unfold Lib.keeps at hk
          rcases of_decide_eq_true hk with h | h
          · omega
          · exact h
        omega
      refine ⟨List.pairwise_append.2 ⟨h1, by simp, fun a ha b hb => by rw [List.mem_singleton] at hb; subst hb; exact hlt a ha⟩, fun x => ?_⟩
      rw [List.mem_append, h2, List.mem_singleton]
      constructor
      · rintro (⟨j, hj, e⟩ | h)
        · exact ⟨j, by omega, e⟩
        · exact ⟨m, by omega, h.symm⟩
      · rintro ⟨j, hj, e⟩
        by_cases hjm : j = m
        · subst hjm; exact .inr e.symm
        · exact .inl ⟨j, by omega, e⟩
    · have hk' : m ≠ 0 ∧ d[m]! = d[m - 1]! := by
        unfold Lib.keeps at hk
        rw [decide_eq_true_eq] at hk
        exact ⟨fun h => hk (.inl h), Decidable.byContradiction fun h => hk (.inr h)⟩
      rw [if_neg hk, List.append_nil]
      refine ⟨h1, fun x => ?_⟩
      rw [h2]
      constructor
      · rintro ⟨j, hj, e⟩; exact ⟨j, by omega, e⟩
      · rintro ⟨j, hj, e⟩
        by_cases hjm : j = m
        · subst hjm; exact ⟨j - 1, by omega, by rw [← hk'.2]; exact e⟩
        · exact ⟨j, by omega, e⟩

theorem compact_list {l : List Int} (hs : l.Pairwise (· ≤ ·)) : (Lib.compact l).Pairwise (· < ·) ∧ ∀ x, x ∈ Lib.compact l ↔ x ∈ l := by
  have hs' : ∀ i j, i ≤ j → j < l.toArray.size → l.toArray[i]! ≤ l.toArray[j]! := fun i j hij hj => by
    have hj' : j < l.length := by simpa using hj
    rw [getElem!_pos l.toArray i (by simp; omega), getElem!_pos l.toArray j hj]
    simp only [List.getElem_toArray]
    rcases Nat.lt_or_ge i j with h | h
    · exact List.pairwise_iff_getElem.1 hs i j (by omega) hj' h
    · have : i = j := by omega
      subst this; exact Int.le_refl _
  obtain ⟨h1, h2⟩ := compact_sorted l.toArray hs' l.length (by simp)
  have e : Lib.compact l = Lib.compactUpTo l.toArray l.length := by unfold Lib.compact; simp
  rw [e]
  refine ⟨h1, fun x => ?_⟩
  rw [h2]
  constructor
  · rintro ⟨j, hj, rfl⟩
    rw [getElem!_pos l.toArray j (by simpa using hj)]
    simp
  · intro h
    obtain ⟨j, hj, e⟩ := List.mem_iff_getElem.1 h
    exact ⟨j, hj, by rw [getElem!_pos l.toArray j (by simpa using hj)]; simpa using e⟩

def preL (s add del : List Int) : List Int := (s.filter fun x => !decide (x ∈ del)) ++ add
def updL (s add del : List Int) : List Int := Lib.compact ((preL s add del).mergeSort fun x y => decide (x ≤ y))
theorem sort_sorted (l : List Int) : (l.mergeSort fun x y => decide (x ≤ y)).Pairwise (· ≤ ·) := by
  have := List.pairwise_mergeSort (le := fun x y : Int => decide (x ≤ y)) (fun a b c h1 h2 => by simp at *; omega) (fun a b => by simp; omega) l
  exact this.imp (fun h => by simpa using h)
theorem updL_spec (s add del : List Int) : (updL s add del).Pairwise (· < ·) ∧ ∀ x, x ∈ updL s add del ↔ (x ∈ s ∧ x ∉ del) ∨ x ∈ add := by
  obtain ⟨h1, h2⟩ := compact_list (sort_sorted (preL s add del))
  refine ⟨h1, fun x => ?_⟩
  unfold updL
  rw [h2, List.mem_mergeSort, preL, List.mem_append, List.mem_filter]
  simp
theorem preL_len (s add del : List Int) : (preL s add del).length ≤ s.length + add.length := by
  unfold preL; rw [List.length_append]
  have := List.length_filter_le (fun x => !decide (x ∈ del)) s
  omega

/-! ### plans -/
end Go.Proofs.YtkjmgafnaddhkaaGreat

namespace Go.Proofs.YtkjmgafnaddhkaaGreat

def costN (ops : List Wop) : List Nat → Int
  | [] => 0
  | a :: r => ((ops[a]?.map Wop.cost).getD 0) + costN ops r
theorem costN_bound {ops : List Wop} (h : ∀ o ∈ ops, 0 ≤ o.cost ∧ o.cost ≤ 100) : ∀ p : List Nat, 0 ≤ costN ops p ∧ costN ops p ≤ 100 * (p.length : Int)
  | [] => by simp [costN]
  | a :: r => by
    have h2 := costN_bound h r
    rw [costN]
    cases ho : ops[a]? with
    | none => simp; omega
    | some o =>
      have h1 := h o (List.mem_of_getElem? ho)
      simp; omega

section
variable {ops : List Wop} {L : List Nat} {acc : Nat → Bool} {D : Nat → Int}
/-! ### the finite costs are small -/
def below (L : List Nat) (D : Nat → Int) (z : Int) : Nat := (L.filter fun y => decide (D y < z)).length
end

end Go.Proofs.YtkjmgafnaddhkaaGreat

namespace Go.Proofs.YtkjmgafnaddhkaaGreat

/-- k for each cost, st for each step. -/
def wayN (k st : Int) (ops : List Wop) (p : List Nat) : Int := k * costN ops p + st * (p.length : Int)
theorem wayN_nil (k st : Int) (ops : List Wop) : wayN k st ops [] = 0 := by unfold wayN costN; simp
theorem costN_append (ops : List Wop) : ∀ p q : List Nat, costN ops (p ++ q) = costN ops p + costN ops q
  | [], q => by simp [costN]
  | a :: p, q => by rw [List.cons_append, costN, costN, costN_append ops p q]; omega
theorem wayN_append (k st : Int) (ops : List Wop) (p q : List Nat) : wayN k st ops (p ++ q) = wayN k st ops p + wayN k st ops q := by
  unfold wayN
  rw [costN_append, List.length_append, Int.natCast_add, Int.mul_add, Int.mul_add]; omega
theorem wayN_one {k st : Int} {ops : List Wop} {a : Nat} {o : Wop} (h : ops[a]? = some o) : wayN k st ops [a] = k * o.cost + st := by
  unfold wayN; simp [costN, h]
/-- A way of the arcs is a run of the operators, and the other way round. -/
theorem run_of_walk {ops : List Wop} {L : List Nat} {k st : Int} {s i : Nat} {c : Int} (h : WalkA (arcs ops L) (fun a => k * a.cost + st) s i c) {x : Nat} (hx : L[s]? = some x) : ∃ p y, L[i]? = some y ∧ runOps ops x p = some y ∧ wayN k st ops p = c := by
  induction h with
  | nil => exact ⟨[], x, hx, rfl, wayN_nil _ _ _⟩
  | @snoc a _ _ ha ih =>
    obtain ⟨p, y, hy, hr, hc⟩ := ih
    obtain ⟨y', o, h1, h2, h3, h4, h5⟩ := mem_arcs.1 ha
    rw [h1] at hy; cases hy
    refine ⟨p ++ [a.op], _, h5, ?_, ?_⟩
    · rw [runOps_append, hr]; simp [runOps, h2, h3]
    · rw [wayN_append, hc, wayN_one h2, ← h4]
theorem walk_of_run {ops : List Wop} {L : List Nat} (hsh : Shut ops L) {k st : Int} {s : Nat} : ∀ {p : List Nat} {x y i : Nat} {c : Int}, WalkA (arcs ops L) (fun a => k * a.cost + st) s i c → L[i]? = some x → runOps ops x p = some y → ∃ j, L[j]? = some y ∧ WalkA (arcs ops L) (fun a => k * a.cost + st) s j (c + wayN k st ops p)
  | [], x, y, i, c, hw, hi, hr => by cases hr; exact ⟨i, hi, by rw [wayN_nil, Int.add_zero]; exact hw⟩
  | a :: p, x, y, i, c, hw, hi, hr => by
    rw [runOps] at hr
    cases ho : ops[a]? with
    | none => rw [ho] at hr; cases hr
    | some o =>
      rw [ho] at hr; simp only at hr
      by_cases hc : o.can x = true
      · rw [if_pos hc] at hr
        have hm := hsh.2 x (List.mem_of_getElem? hi) o (List.mem_of_getElem? ho) hc
        obtain ⟨j, hj⟩ := List.mem_iff_getElem?.1 hm
        have hd := WalkA.snoc (a := ⟨i, j, a, o.cost⟩) hw (mem_arcs.2 ⟨x, o, hi, ho, hc, rfl, hj⟩)
        obtain ⟨m, hm, hz⟩ := walk_of_run hsh hd hj hr
        refine ⟨m, hm, ?_⟩
        rw [show a :: p = [a] ++ p from rfl, wayN_append, wayN_one ho, ← Int.add_assoc]
        exact hz
      · rw [if_neg hc] at hr; cases hr

/-- b is the least price of a plan, or -1 where there is none. -/
def LeastOf (k st : Int) (ops : List Wop) (s : Nat) (acc : Nat → Bool) (b : Int) : Prop :=
  (b = -1 ∧ ∀ p y, runOps ops s p = some y → acc y = false) ∨
  (0 ≤ b ∧ (∃ p y, runOps ops s p = some y ∧ acc y = true ∧ wayN k st ops p = b) ∧ ∀ p y, runOps ops s p = some y → acc y = true → b ≤ wayN k st ops p)
theorem LeastOf.unique {k st : Int} {ops : List Wop} {s : Nat} {acc : Nat → Bool} {b b' : Int} (h : LeastOf k st ops s acc b) (h' : LeastOf k st ops s acc b') : b = b' := by
  rcases h with ⟨h1, h2⟩ | ⟨h1, ⟨p, y, hp, hy, hb⟩, h3⟩ <;> rcases h' with ⟨g1, g2⟩ | ⟨g1, ⟨q, z, hq, hz, hc⟩, g3⟩
  · rw [h1, g1]
  · rw [h2 q z hq] at hz; cases hz
  · rw [g2 p y hp] at hy; cases hy
  · have := h3 q z hq hz; have := g3 p y hp hy; omega

/-- The least price of the first i places that are goals, or -1. -/
def bestTo (d : List Int) (g : List Bool) : Nat → Int
  | 0 => -1
  | i + 1 => if g[i]? = some true ∧ (bestTo d g i < 0 ∨ d[i]?.getD 0 < bestTo d g i) then d[i]?.getD 0 else bestTo d g i
/-- It is one of the prices, and none is less. -/
theorem bestTo_spec {d : List Int} {g : List Bool} (hl : d.length = g.length) (h : ∀ x ∈ d, 0 ≤ x) : ∀ i, i ≤ d.length →
    (bestTo d g i = -1 ∧ ∀ j, j < i → g[j]? ≠ some true) ∨ (0 ≤ bestTo d g i ∧ (∃ j, j < i ∧ g[j]? = some true ∧ d[j]? = some (bestTo d g i)) ∧ ∀ j x, j < i → g[j]? = some true → d[j]? = some x → bestTo d g i ≤ x)
  | 0, _ => .inl ⟨rfl, fun j hj => by omega⟩
  | i + 1, hi => by
    have ih := bestTo_spec hl h i (by omega)
    obtain ⟨x, hx⟩ : ∃ x, d[i]? = some x := ⟨_, List.getElem?_eq_getElem (by omega)⟩
    have hx0 := h x (List.mem_of_getElem? hx)
    rw [bestTo, hx]
    simp only [Option.getD_some]
    by_cases hg : g[i]? = some true
    · by_cases hb : bestTo d g i < 0 ∨ x < bestTo d g i
      · rw [if_pos ⟨hg, hb⟩]
        refine .inr ⟨hx0, ⟨i, by omega, hg, hx⟩, fun j y hj hgj hy => ?_⟩
        by_cases hji : j = i
        · subst hji; rw [hx] at hy; cases hy; exact Int.le_refl _
        · rcases ih with ⟨_, h2⟩ | ⟨h1, _, h3⟩
          · exact absurd hgj (h2 j (by omega))
          · have := h3 j y (by omega) hgj hy; omega
      · rw [if_neg (fun e => hb e.2)]
        rcases ih with ⟨h1, _⟩ | ⟨h1, ⟨j, hj, hgj, hdj⟩, h3⟩
        · omega
        · refine .inr ⟨h1, ⟨j, by omega, hgj, hdj⟩, fun j' y hj' hgj' hy => ?_⟩
          by_cases hji : j' = i
          · subst hji; rw [hx] at hy; cases hy; omega
          · exact h3 j' y (by omega) hgj' hy
    · rw [if_neg (fun e => hg e.1)]
      rcases ih with ⟨h1, h2⟩ | ⟨h1, ⟨j, hj, hgj, hdj⟩, h3⟩
      · refine .inl ⟨h1, fun j hj => ?_⟩
        by_cases hji : j = i
        · subst hji; exact hg
        · exact h2 j (by omega)
      · refine .inr ⟨h1, ⟨j, by omega, hgj, hdj⟩, fun j' y hj' hgj' hy => ?_⟩
        by_cases hji : j' = i
        · subst hji; exact absurd hgj' hg
        · exact h3 j' y (by omega) hgj' hy

/-- All reached states have a price. -/
theorem PriOk.low {ops : List Wop} {s : Nat} {L : List Nat} (hsh : Shut ops L) (hr : ∀ x ∈ L, ∃ p, runOps ops s p = some x) {i0 : Nat} (h0 : L[i0]? = some s) {k st : Int} {d : List Int} (hA : ∀ a ∈ arcs ops L, 0 ≤ k * a.cost + st) (h : PriOk (arcs ops L) (fun a => k * a.cost + st) L.length i0 d) : ∀ x ∈ d, 0 ≤ x := by
  intro z hz
  obtain ⟨i, hi⟩ := List.mem_iff_getElem?.1 hz
  have hil : i < L.length := by rw [← h.len]; exact (List.getElem?_eq_some_iff.1 hi).1
  obtain ⟨x, hx⟩ : ∃ x, L[i]? = some x := ⟨_, List.getElem?_eq_getElem hil⟩
  obtain ⟨p, hp⟩ := hr x (List.mem_of_getElem? hx)
  obtain ⟨j, hj, hw⟩ := walk_of_run hsh .nil h0 hp
  obtain rfl : j = i := nodup_ix hsh.1 hj hx
  obtain ⟨_, y, hy, hy0, _⟩ := h.walk hA hw
  rw [hi] at hy; cases hy; exact hy0
/-- The least price over the goals is the least price of a plan. -/
theorem best_of_prices {ops : List Wop} {s : Nat} {L : List Nat} (hsh : Shut ops L) (hr : ∀ x ∈ L, ∃ p, runOps ops s p = some x) {i0 : Nat} (h0 : L[i0]? = some s) {k st : Int} {d : List Int} (hA : ∀ a ∈ arcs ops L, 0 ≤ k * a.cost + st) (h : PriOk (arcs ops L) (fun a => k * a.cost + st) L.length i0 d) (acc : Nat → Bool) :
    LeastOf k st ops s acc (bestTo d (L.map acc) L.length) := by
  have hlow := h.low hsh hr h0 hA
  have hlen : d.length = (L.map acc).length := by rw [List.length_map]; exact h.len
  rcases bestTo_spec hlen hlow L.length (by rw [h.len]; exact Nat.le_refl _) with ⟨h1, h2⟩ | ⟨h1, ⟨j, hj, hg, hd⟩, h3⟩
  · refine .inl ⟨h1, fun p y hp => ?_⟩
    obtain ⟨j, hj, _⟩ := walk_of_run hsh (k := k) (st := st) .nil h0 hp
    have := h2 j (List.getElem?_eq_some_iff.1 hj).1
    rw [List.getElem?_map, hj] at this
    simpa using this
  · refine .inr ⟨h1, ?_, fun p y hp hy => ?_⟩
    · obtain ⟨p, y, hy, hr', hc⟩ := run_of_walk (h.real j _ hd h1) h0
      rw [List.getElem?_map, hy] at hg
      exact ⟨p, y, hr', by simpa using hg, hc⟩
    · obtain ⟨m, hm, hw⟩ := walk_of_run hsh (k := k) (st := st) .nil h0 hp
      obtain ⟨_, x, hx, _, hxc⟩ := h.walk hA hw
      have := h3 m x (List.getElem?_eq_some_iff.1 hm).1 (by rw [List.getElem?_map, hm]; simp [hy]) hx
      omega

end Go.Proofs.YtkjmgafnaddhkaaGreat

namespace Go.Proofs.YtkjmgafnaddhkaaGreat

structure SArc where
  op : Nat
  price : Int
  to : Nat

/-- How many states of L have a price. -/
def knownB (L : List Nat) (P : Nat → Option Int) : Nat := L.countP fun x => (P x).isSome
/-- The prices after one of them is set. -/
def putP {α : Type} (P : Nat → Option α) (x : Nat) (v : α) : Nat → Option α := fun y => if y = x then some v else P y
theorem putP_same {α : Type} (P : Nat → Option α) (x : Nat) (v : α) : putP P x v x = some v := by simp [putP]
theorem putP_other {α : Type} (P : Nat → Option α) {x y : Nat} (v : α) (h : y ≠ x) : putP P x v y = P y := by simp [putP, h]
/-- What stays of a side while arcs of the state s are looked at: the arcs in R are still to do. -/
structure SideI (G : Nat → List SArc) (S0 : Nat → Prop) (L : List Nat) (C : Int) (P : Nat → Option Int) (par : Nat → Option SArc) (A : List (Int × Int)) (s : Nat) (R : List SArc) : Prop where
  dom : ∀ x p, P x = some p → x ∈ L
  lo : ∀ x p, P x = some p → 0 ≤ p ∧ p ≤ C * (knownB L P : Int)
  start : ∀ x, S0 x → P x = some 0 ∧ par x = none
  from_ : ∀ x p, P x = some p → ¬ S0 x → ∃ a, par x = some a ∧ ⟨a.op, a.price, x⟩ ∈ G a.to ∧ ∃ q, P a.to = some q ∧ q + a.price ≤ p
  key : ∀ z ∈ A, ∃ x : Nat, z.1 = (x : Int) ∧ P x = some z.2
  pend : ∀ x p, P x = some p → ((x : Int), p) ∈ A ∨ ∀ a ∈ G x, (∃ q, P a.to = some q ∧ q ≤ p + a.price) ∨ (x = s ∧ a ∈ R)
/-! ### where the sides meet -/
/-! ### the end -/
section
variable {ops : List Wop} {L : List Nat} {Gf Gb : Nat → List SArc} {Sf Sb : Nat → Prop} {C : Int} {F B : Nat → Option Int} {pf pb : Nat → Option SArc} {Af Ab : List (Int × Int)} {sf sb : Nat} {best : Int} {at_ : Nat} {found : Bool}
end

end Go.Proofs.YtkjmgafnaddhkaaGreat

namespace Go.Proofs.YtkjmgafnaddhkaaGreat
open Go.RowKit

def FMap {α : Type} (w : World) (b : Nat) (enc : α → Value) (f : Nat → Option α) : Prop :=
  ∃ l : List (Nat × α), IMap w b .u32 (l.map fun p => ((p.1 : Int), enc p.2)) ∧ (l.map Prod.fst).Nodup ∧ ∀ x v, f x = some v ↔ (x, v) ∈ l

section
variable {α : Type} {w : World} {b : Nat} {enc : α → Value} {f : Nat → Option α}
theorem FMap.keeps {S : Nat → Prop} {w' : World} (h : FMap w b enc f) (hk : Keeps S w w') (hs : ¬ S b) : FMap w' b enc f := by
  obtain ⟨l, h1, h2⟩ := h; exact ⟨l, h1.keeps hk hs, h2⟩
theorem FMap.lt (h : FMap w b enc f) : b < w.heap.size := by obtain ⟨l, h1, _⟩ := h; exact h1.lt
theorem FMap.map_block (h : FMap w b enc f) : ∃ es c, w.heap[b]? = some (.map es c) := by obtain ⟨l, ⟨es, c, hb, _⟩, _⟩ := h; exact ⟨es, c, hb⟩
theorem FMap.ne_cells (h : FMap w b enc f) {g : Nat} {cs : Array Value} {T : TypeId} {fr : Nat × Nat} (hg : w.heap[g]? = some (.cells cs T fr)) : b ≠ g := fun e => by
  obtain ⟨es, c, hb⟩ := h.map_block
  rw [e, hg] at hb; cases hb
theorem FMap.made (w : World) (enc : α → Value) : FMap (w.alloc (.map #[] 0)) w.heap.size enc (fun _ => none) :=
  ⟨[], IMap.made w .u32, by simp, fun x v => by simp⟩
theorem fkeys_nodup {l : List (Nat × α)} (h : (l.map Prod.fst).Nodup) : ((l.map fun p => ((p.1 : Int), enc p.2)).map Prod.fst).Nodup := by
  rw [List.map_map]
  have : (l.map ((Prod.fst : Int × Value → Int) ∘ fun p => ((p.1 : Int), enc p.2))) = (l.map Prod.fst).map fun x : Nat => (x : Int) := by rw [List.map_map]; rfl
  rw [this]
  unfold List.Nodup at h ⊢
  rw [List.pairwise_map]
  exact h.imp fun hne e => hne (by omega)
theorem fkeys_miss {l : List (Nat × α)} (hl : ∀ x v, f x = some v ↔ (x, v) ∈ l) {x : Nat} (hx : f x = none) : ∀ p ∈ l.map (fun p => ((p.1 : Int), enc p.2)), p.1 ≠ (x : Int) := fun p hp e => by
  obtain ⟨q, hq, rfl⟩ := List.mem_map.1 hp
  have : q.1 = x := by simp only at e; omega
  have h2 := (hl q.1 q.2).2 hq
  rw [this, hx] at h2; cases h2
variable {P : Program} {t k e : TypeId}
theorem FMap.look_some (h : FMap w b enc f) (ht : P.underlying t = some (.map k e)) (hk : P.underlying k = some (.int .u32)) {x : Nat} {v : α} (hx : f x = some v) :
    (Instr.lookup t (.map (some b)) (.int .u32 (x : Int)) true).run P w = .ok (.tuple #[enc v, .bool true]) w ∧ (Instr.lookup t (.map (some b)) (.int .u32 (x : Int)) false).run P w = .ok (enc v) w := by
  obtain ⟨l, h1, h2, h3⟩ := h
  exact h1.run_lookup_hit ht hk (fkeys_nodup h2) (List.mem_map.2 ⟨(x, v), (h3 x v).1 hx, rfl⟩)
theorem FMap.look_none (h : FMap w b enc f) (ht : P.underlying t = some (.map k e)) (hk : P.underlying k = some (.int .u32)) {z : Value} (hz : (zeroValue e).run P w = .ok z w) {x : Nat} (hx : f x = none) :
    (Instr.lookup t (.map (some b)) (.int .u32 (x : Int)) true).run P w = .ok (.tuple #[z, .bool false]) w ∧ (Instr.lookup t (.map (some b)) (.int .u32 (x : Int)) false).run P w = .ok z w := by
  obtain ⟨l, h1, _, h3⟩ := h
  exact h1.run_lookup_miss ht hk hz (fkeys_miss h3 hx)
/-- A store. -/
theorem FMap.put (h : FMap w b enc f) (ht : P.underlying t = some (.map k e)) (hk : P.underlying k = some (.int .u32)) (x : Nat) (v : α) :
    ∃ w', (Instr.mapUpdate t (.map (some b)) (.int .u32 (x : Int)) (enc v)).run P w = .ok () w' ∧ FMap w' b enc (putP f x v) ∧ Keeps (fun j => j = b) w w' := by
  obtain ⟨l, h1, h2, h3⟩ := h
  cases hx : f x with
  | none =>
    obtain ⟨w', hr, hi, hk'⟩ := h1.run_update_new ht hk (fkeys_miss h3 hx) (enc v)
    refine ⟨w', hr, ⟨l ++ [(x, v)], by rw [List.map_append]; exact hi, ?_, fun y u => ?_⟩, hk'⟩
    · rw [List.map_append, List.nodup_append]
      refine ⟨h2, by simp, fun a ha c hc hac => ?_⟩
      simp only [List.map_cons, List.map_nil, List.mem_singleton] at hc
      obtain ⟨q, hq, rfl⟩ := List.mem_map.1 ha
      have h4 := (h3 q.1 q.2).2 hq
      rw [hac, hc, hx] at h4; cases h4
    · by_cases hy : y = x
      · subst hy
        rw [putP_same, List.mem_append]
        constructor
        · intro h; cases h; exact .inr (by simp)
        · rintro (h | h)
          · have := (h3 y u).2 h; rw [hx] at this; cases this
          · simp at h; rw [h]
      · rw [putP_other f v hy, h3 y u, List.mem_append]
        constructor
        · exact .inl
        · rintro (h | h)
          · exact h
          · simp at h; exact absurd h.1 hy
  | some u0 =>
    obtain ⟨j, hj⟩ := List.mem_iff_getElem?.1 ((h3 x u0).1 hx)
    obtain ⟨w', hr, hi, hk'⟩ := h1.run_update_old ht hk (fkeys_nodup h2) (x := (x : Int)) (u := enc u0) (j := j) (by rw [List.getElem?_map, hj]; rfl) (enc v)
    have hjl := (List.getElem?_eq_some_iff.1 hj).1
    have hkeys : (l.set j (x, v)).map Prod.fst = l.map Prod.fst := by
      apply List.ext_getElem?
      intro n
      rw [List.getElem?_map, List.getElem?_map]
      by_cases hn : n = j
      · subst hn; rw [List.getElem?_set_self hjl, hj]; rfl
      · rw [List.getElem?_set_ne (fun e => hn e.symm)]
    refine ⟨w', hr, ⟨l.set j (x, v), by rw [List.map_set]; exact hi, by rw [hkeys]; exact h2, fun y u => ?_⟩, hk'⟩
    have uniq : ∀ n q, l[n]? = some q → q.1 = x → n = j := fun n q hq hqx => by
      have e1 : (l.map Prod.fst)[n]? = some x := by rw [List.getElem?_map, hq]; simp [hqx]
      have e2 : (l.map Prod.fst)[j]? = some x := by rw [List.getElem?_map, hj]; rfl
      exact nodup_ix h2 e1 e2
    by_cases hy : y = x
    · subst hy
      rw [putP_same]
      constructor
      · intro h; cases h
        exact List.mem_of_getElem? (List.getElem?_set_self hjl)
      · intro h
        obtain ⟨n, hn⟩ := List.mem_iff_getElem?.1 h
        by_cases hnj : n = j
        · subst hnj; rw [List.getElem?_set_self hjl] at hn; cases hn; rfl
        · rw [List.getElem?_set_ne (fun e => hnj e.symm)] at hn
          exact absurd (uniq n _ hn rfl) hnj
    · rw [putP_other f v hy, h3 y u]
      constructor
      · intro h
        obtain ⟨n, hn⟩ := List.mem_iff_getElem?.1 h
        have hnj : n ≠ j := fun e => by subst e; rw [hj] at hn; cases hn; exact hy rfl
        exact List.mem_of_getElem? (i := n) (by rw [List.getElem?_set_ne (fun e => hnj e.symm)]; exact hn)
      · intro h
        obtain ⟨n, hn⟩ := List.mem_iff_getElem?.1 h
        by_cases hnj : n = j
        · subst hnj; rw [List.getElem?_set_self hjl] at hn; cases hn; exact absurd rfl hy
        · rw [List.getElem?_set_ne (fun e => hnj e.symm)] at hn
          exact List.mem_of_getElem? hn
end

end Go.Proofs.YtkjmgafnaddhkaaGreat

namespace Go.Proofs.YtkjmgafnaddhkaaGreat

/-- The operators from a state back to the end of a side. -/
inductive Chain (par : Nat → Option SArc) : Nat → List Nat → Nat → Prop
  | nil {x : Nat} : par x = none → Chain par x [] x
  | cons {x : Nat} {a : SArc} {out : List Nat} {e : Nat} : par x = some a → Chain par a.to out e → Chain par x (a.op :: out) e

section
variable {G : Nat → List SArc} {S0 : Nat → Prop} {L : List Nat} {C : Int} {P : Nat → Option Int} {par : Nat → Option SArc} {A : List (Int × Int)} {s : Nat}
/-- Every state with a price has a way back; the states on it fall in price, so it is no longer than L. -/
theorem SideI.chain (h : SideI G S0 L C P par A s []) (hC : ∀ y, ∀ b ∈ G y, 1 ≤ b.price) [∀ x, Decidable (S0 x)] : ∀ (n : Nat) (x : Nat) (p : Int), P x = some p → p.toNat ≤ n →
    ∃ (out : List Nat) (e : Nat) (vs : List Nat), Chain par x out e ∧ S0 e ∧ vs.length = out.length ∧ vs.Nodup ∧ (∀ y ∈ vs, ∃ q, P y = some q ∧ q ≤ p ∧ y ∈ L)
  | n, x, p, hp, hn => by
    by_cases hs : S0 x
    · exact ⟨[], x, [], .nil (h.start x hs).2, hs, rfl, List.nodup_nil, by simp⟩
    · obtain ⟨a, ha, hg, q, hq, hle⟩ := h.from_ x p hp hs
      have h1 := hC _ _ hg
      simp only at h1
      have hq0 := (h.lo _ q hq).1
      cases n with
      | zero => omega
      | succ n =>
        obtain ⟨out, e, vs, hc, he, hl, hnd, hall⟩ := SideI.chain h hC n a.to q hq (by omega)
        refine ⟨a.op :: out, e, x :: vs, .cons ha hc, he, by simp [hl], List.nodup_cons.2 ⟨fun hx => ?_, hnd⟩, fun y hy => ?_⟩
        · obtain ⟨q', hq', hle', _⟩ := hall x hx
          rw [hp] at hq'; cases hq'; omega
        · rcases List.mem_cons.1 hy with rfl | hy
          · exact ⟨p, hp, Int.le_refl _, h.dom _ _ hp⟩
          · obtain ⟨q', hq', hle', hL⟩ := hall y hy
            exact ⟨q', hq', by omega, hL⟩
theorem SideI.back (h : SideI G S0 L C P par A s []) (hC : ∀ y, ∀ b ∈ G y, 1 ≤ b.price) [∀ x, Decidable (S0 x)] {x : Nat} {p : Int} (hp : P x = some p) : ∃ out e, Chain par x out e ∧ S0 e ∧ out.length ≤ L.length := by
  obtain ⟨out, e, vs, hc, he, hl, hnd, hall⟩ := h.chain hC p.toNat x p hp (Nat.le_refl _)
  exact ⟨out, e, hc, he, by rw [← hl]; exact nodup_sub_length hnd (fun y hy => (hall y hy).choose_spec.2.2)⟩
/-- From the front side: the way back, turned round, leads to the state, for no more than its price. -/
theorem SideI.chainF {ops : List Wop} (h : SideI G S0 L C P par A s []) (hG : ∀ y, ∀ b ∈ G y, ∃ o, ops[b.op]? = some o ∧ o.can y = true ∧ b.to = o.next y ∧ b.price = 4096 * o.cost + 1) {x e : Nat} {out : List Nat} (hc : Chain par x out e) : ∀ {p : Int}, P x = some p → runOps ops e out.reverse = some x ∧ wayN 4096 1 ops out.reverse ≤ p := by
  induction hc with
  | nil hn => intro p hp; exact ⟨rfl, by rw [List.reverse_nil, wayN_nil]; exact (h.lo _ p hp).1⟩
  | @cons x a out e ha hc ih =>
    intro p hp
    have hs : ¬ S0 x := fun hs => by rw [(h.start x hs).2] at ha; cases ha
    obtain ⟨a', ha', hg, q, hq, hle⟩ := h.from_ x p hp hs
    rw [ha] at ha'; cases ha'
    obtain ⟨o, h1, h2, h3, h4⟩ := hG _ _ hg
    simp only at h1 h2 h3 h4
    obtain ⟨i1, i2⟩ := ih hq
    rw [List.reverse_cons, wayN_append, wayN_one h1, runOps_append, i1]
    refine ⟨?_, by omega⟩
    simp only [Option.bind_some, runOps, h1, h2, if_true]
    rw [← h3]
/-! ### the measure -/
def weightB (L : List Nat) (m : Nat) (P : Nat → Option Int) : Nat := (L.map fun x => match P x with | some p => p.toNat | none => m).sum
theorem weightB_put {m x : Nat} {v : Int} (hv : v.toNat < m) : ∀ {L : List Nat}, x ∈ L → (∀ q, P x = some q → v.toNat < q.toNat) → weightB L m (putP P x v) < weightB L m P := by
  have one : ∀ y, (match putP P x v y with | some p => p.toNat | none => m) ≤ (match P y with | some p => p.toNat | none => m) ∨ y = x := fun y => by
    by_cases hy : y = x
    · exact .inr hy
    · rw [putP_other P v hy]; exact .inl (Nat.le_refl _)
  have hx0 : (∀ q, P x = some q → v.toNat < q.toNat) → (match putP P x v x with | some p => p.toNat | none => m) < (match P x with | some p => p.toNat | none => m) := fun h => by
    rw [putP_same]
    cases hq : P x with
    | none => exact hv
    | some q => exact h q hq
  have le : (∀ q, P x = some q → v.toNat < q.toNat) → ∀ L : List Nat, weightB L m (putP P x v) ≤ weightB L m P := fun h L => by
    induction L with
    | nil => exact Nat.le_refl _
    | cons y r ih =>
      unfold weightB at ih ⊢
      rw [List.map_cons, List.map_cons, List.sum_cons, List.sum_cons]
      rcases one y with h1 | rfl
      · omega
      · have := hx0 h; omega
  intro L
  induction L with
  | nil => intro h; simp at h
  | cons y r ih =>
    intro hx h
    have hle := le h r
    have hlt := hx0 h
    by_cases hy : y = x
    · subst hy
      unfold weightB at hle ⊢
      rw [List.map_cons, List.map_cons, List.sum_cons, List.sum_cons]; omega
    · have hxr : x ∈ r := by
        rcases List.mem_cons.1 hx with e | e
        · exact absurd e.symm hy
        · exact e
      have ih' := ih hxr h
      have h1 := one y
      unfold weightB at ih' ⊢
      rw [List.map_cons, List.map_cons, List.sum_cons, List.sum_cons]
      rcases h1 with h1 | h1
      · omega
      · exact absurd h1 hy
end

/-! ### the start -/
def startP (S : List Nat) : Nat → Option Int := fun x => if x ∈ S then some 0 else none
end Go.Proofs.YtkjmgafnaddhkaaGreat

namespace Go.Proofs.YtkjmgafnaddhkaaGreat
open Go.RowKit

def lenV : Value → Nat
  | .slice _ n _ => n
  | _ => 0
end Go.Proofs.YtkjmgafnaddhkaaGreat

namespace Go.Proofs.YtkjmgafnaddhkaaGreat
open Go.RowKit

def intV (p : Int) : Value := .int .i64 p
end Go.Proofs.YtkjmgafnaddhkaaGreat

namespace Go.Proofs.YtkjmgafnaddhkaaGreat
open Go.RowKit Go.Sort Go.Proofs

def backV (a : SArc) : Value := .agg #[.int .u32 (a.to : Int), .int .i64 (a.op : Int)]

theorem Chain.at_end {par : Nat → Option SArc} {x e : Nat} {out : List Nat} (h : Chain par x out e) (hx : par x = none) : out = [] ∧ x = e := by
  cases h with
  | nil _ => exact ⟨rfl, rfl⟩
  | cons ha _ => rw [hx] at ha; cases ha
theorem Chain.more {par : Nat → Option SArc} {x e : Nat} {out : List Nat} (h : Chain par x out e) (hx : x ≠ e) : ∃ a r, par x = some a ∧ out = a.op :: r ∧ Chain par a.to r e := by
  cases h with
  | nil _ => exact absurd rfl hx
  | cons ha hc => exact ⟨_, _, ha, rfl, hc⟩

set_option maxRecDepth 100000 in
set_option maxHeartbeats 1000000 in
theorem pathC_any (w : World) (m s x : Nat) (par f : Nat → Option SArc) (out : List Nat) (hm : FMap w m backV f) (hf : ∀ y a, par y = some a → f y = some a) (h0 : par s = none) (hc : Chain par x out s) (few : out.length ≤ 100000) :
    Calls Tryz.prog 50 #[.map (some m), .int .u32 (s : Int), .int .u32 (x : Int)] w fun en w' => ∃ v, en = .returned v ∧ w'.ownsRow w.heap.size 3 1 v out.length ((intsP out.reverse).map (Value.int .i64)) ∧ Keeps (fun _ => False) w w' := by
  obtain ⟨i0, hi0, hz0, hz1, hz2⟩ := info_parts Tryz.info3
  have HM := Lib.hid hm; have HF := Lib.hid hf; have H0 := Lib.hid h0; have HC := Lib.hid hc
  clear hm hf h0 hc
  go_enter Tryz.func50, Tryz.ntmps50
  go_wp2_with fail
  go_loopw [2, 7] (fun z v wr => ∃ (dn rest : List Nat) (y : Nat), out = dn ++ rest ∧ Chain par y rest s ∧ z = .int .u32 (y : Int) ∧ lenV v = dn.length ∧ wr.ownsRow w.heap.size 3 1 v (intsP dn).length ((intsP dn).map (Value.int .i64)) ∧ Keeps (fun _ => False) w wr)
    (fun _ v _ => out.length - lenV v)
  case atStart => exact ⟨[], out, x, rfl, HC.out, rfl, rfl, World.ownsRow_nil _ _ _ _, Keeps.refl _ _⟩
  case round =>
    obtain ⟨dn, rest, y, hout, hch, rfl, hlv, hown, hkw⟩ := hrel
    have HO := Lib.hid hown; have KW := Lib.hid hkw; have HOUT := Lib.hid hout; have HCH := Lib.hid hch; have HLV := Lib.hid hlv
    have hmw := HM.out.keeps hkw (fun h => h)
    clear hown hkw hout hch hlv
    obtain ⟨av, cv, hv⟩ := ownsRow_form1 HO.out
    subst hv
    by_cases hne : y = s
    · have hb : ((y : Int) != (s : Int)) = false := by simp [hne]
      have HPE := Lib.hid (show out = dn by
        have h1 := (HCH.out.at_end (by rw [hne]; exact H0.out)).1
        rw [HOUT.out, h1, List.append_nil])
      clear hne
      go_wp2_with fail
      refine (reverse_any _ _ _ _ (intsP dn) HO.out (by have h1 := HPE.out; subst h1; simp [intsP]; omega)).mono ?_
      rintro e' w5 ⟨rfl, hown2, hk5⟩
      have HO5 := Lib.hid hown2
      have K5 := Lib.hid (KW.out.trans' hk5 (fun b hb => .inr (World.ownsRow.lt HO.out b hb).1))
      clear hown2 hk5
      go_wp2_with fail
      go_ret
      refine ⟨_, rfl, ?_, K5.out⟩
      have h1 := HO5.out
      have h2 : (intsP dn).length = out.length := by rw [HPE.out]; simp [intsP]
      have h3 : (intsP dn).reverse = intsP out.reverse := by rw [HPE.out]; simp [intsP]
      rw [h3] at h1
      generalize (Value.slice av (intsP dn).length cv) = v at h1
      rw [h2] at h1
      exact h1
    · have hb : ((y : Int) != (s : Int)) = true := by simp; omega
      obtain ⟨a, r, hpa, hro, hcr⟩ := HCH.out.more hne
      have HCR := Lib.hid hcr
      have HOR := Lib.hid (show out = (dn ++ [a.op]) ++ r by rw [HOUT.out, hro, List.append_assoc]; rfl)
      have hlk := (hmw.look_some (P := Tryz.prog) Tryz.underlying81 Tryz.underlying82 (HF.out _ _ hpa)).2
      unfold backV at hlk
      clear hne hpa hro hcr
      have HB := Lib.hid (heap_alloc_new wr (.cells #[.int .u32 (a.to : Int), .int .i64 (a.op : Int)] 116))
      have KA := Lib.hid ((Keeps.refl (fun _ => False) wr).alloc (.cells #[.int .u32 (a.to : Int), .int .i64 (a.op : Int)] 116))
      go_upto_region 4 with fail
      generalize wr.alloc (.cells #[.int .u32 (a.to : Int), .int .i64 (a.op : Int)] 116) = w3 at KA HB ⊢
      have c0 : w3.cell? ⟨wr.heap.size, 0, none⟩ = some (.int .u32 (a.to : Int)) := by rw [cell_of_blk HB.out]; rfl
      have c1 : w3.cell? ⟨wr.heap.size, 1, none⟩ = some (.int .i64 (a.op : Int)) := by rw [cell_of_blk HB.out]; rfl
      have hO3 := KA.out.ownsRow HO.out (fun _ _ h => h)
      have hdl : (intsP dn).length < out.length := by rw [HOR.out]; simp [intsP]
      have hs3 := KA.out.size; have hsw := KW.out.size
      go_wp2_with (at_builtin; refine wpList_append_d rfl _ _ _ rfl w.heap.size 3 i0 _ 1 8 Tryz.underlying22 hi0 hz0 hz1 hz2 rfl (by omega) _ (intsP dn).length ((intsP dn).map (Value.int .i64)) (by rfl) (World.ownsRow.alloc hO3 (.cells #[.int .i64 (a.op : Int)] 3)) ⟨w3.heap.size, 0, none⟩ 1 1 [.int .i64 (a.op : Int)] (by rfl) (by rfl) ?hnews ?hone (by omega) (by unfold maxLen; omega) (by omega) (by simp; omega) (w3.heap.size + 1) (by simp) ?_)
      case hnews => exact World.news_of_block (cs := #[.int .i64 (a.op : Int)]) (t := 3) (fr := (0, 0)) (heap_alloc_new _ _)
      case hone => simp [Value.oneCell']
      intro gg cap2 w4 hown hgrow hat hlt4 hd4
      have HN := Lib.hid (show w4.ownsRow w.heap.size 3 1 (.slice (some ⟨gg, 0, none⟩) ((intsP dn).length + 1) cap2) (intsP (dn ++ [a.op])).length ((intsP (dn ++ [a.op])).map (Value.int .i64)) by
        have e1 : (intsP (dn ++ [a.op])) = intsP dn ++ [(a.op : Int)] := by simp [intsP]
        rw [e1, List.map_append, List.length_append]; exact hown)
      have HKN := Lib.hid (own_grown HO.out KW.out (KA.out.alloc (.cells #[.int .i64 (a.op : Int)] 3)) hgrow)
      have d0 : w4.cell? ⟨wr.heap.size, 0, none⟩ = some (.int .u32 (a.to : Int)) := by
        have hb4 : w4.heap[wr.heap.size]? = _ := (steady_keeps hgrow).heap ((Below.heap_alloc w3 (.cells #[.int .i64 (a.op : Int)] 3) wr.heap.size (lt_of_heap HB.out)).trans HB.out) (fun e' => by have := (World.ownsRow.lt HO.out _ e').2; omega)
        rw [cell_of_blk hb4]; rfl
      clear hown hgrow hat hd4 c0 c1 hO3 hmw
      go_wp2_with fail
      go_roundw
      case rel =>
        exact ⟨dn ++ [a.op], r, a.to, HOR.out, HCR.out, rfl, by simp [lenV, intsP], HN.out, HKN.out⟩
      case measure =>
        simp only [lenV] at *
        have h1 : (intsP dn).length = dn.length := by simp [intsP]
        omega

end Go.Proofs.YtkjmgafnaddhkaaGreat

namespace Go.Proofs.YtkjmgafnaddhkaaGreat

theorem run_cut {ops : List Wop} {p : List Nat} {x y : Nat} (h : runOps ops x p = some y) (i : Nat) : ∃ z, runOps ops x (p.take i) = some z ∧ runOps ops z (p.drop i) = some y := by
  rw [← List.take_append_drop i p, runOps_append] at h
  cases hz : runOps ops x (p.take i) with
  | none => rw [hz] at h; cases h
  | some z => rw [hz] at h; exact ⟨z, rfl, h⟩
/-- Every run has one of no greater cost that is no longer than there are states. -/
theorem short_run {ops : List Wop} {L : List Nat} (h0 : ∀ o ∈ ops, 0 ≤ o.cost ∧ o.cost ≤ 100) {x : Nat} (hL : ∀ p y, runOps ops x p = some y → y ∈ L) : ∀ (n : Nat) {p : List Nat} {y : Nat}, p.length ≤ n → runOps ops x p = some y → ∃ q, runOps ops x q = some y ∧ costN ops q ≤ costN ops p ∧ q.length ≤ L.length
  | n, p, y, hn, hr => by
    by_cases hle : p.length ≤ L.length
    · exact ⟨p, hr, Int.le_refl _, hle⟩
    · have hrep : ∃ i j, i < j ∧ j ≤ p.length ∧ runOps ops x (p.take i) = runOps ops x (p.take j) := by
        refine Classical.byContradiction fun hno => hle ?_
        have hnd : ((List.range (p.length + 1)).map fun i => (runOps ops x (p.take i)).getD 0).Nodup := by
          unfold List.Nodup
          rw [List.pairwise_iff_getElem]
          intro i j hi hj hij e
          simp only [List.getElem_map, List.getElem_range] at e
          simp only [List.length_map, List.length_range] at hi hj
          obtain ⟨zi, hzi, _⟩ := run_cut hr i
          obtain ⟨zj, hzj, _⟩ := run_cut hr j
          rw [hzi, hzj] at e
          simp only [Option.getD_some] at e
          exact hno ⟨i, j, hij, by omega, by rw [hzi, hzj, e]⟩
        have := nodup_sub_length hnd (b := L) (fun z hz => by
          obtain ⟨i, _, rfl⟩ := List.mem_map.1 hz
          obtain ⟨zi, hzi, _⟩ := run_cut hr i
          rw [hzi]; exact hL _ _ hzi)
        rw [List.length_map, List.length_range] at this; omega
      obtain ⟨i, j, hij, hj, he⟩ := hrep
      obtain ⟨z, hz1, hz2⟩ := run_cut hr j
      have hrq : runOps ops x (p.take i ++ p.drop j) = some y := by rw [runOps_append, he, hz1]; exact hz2
      have hlen : (p.take i ++ p.drop j).length < p.length := by simp only [List.length_append, List.length_take, List.length_drop]; omega
      have hcost : costN ops (p.take i ++ p.drop j) ≤ costN ops p := by
        have e1 : costN ops p = costN ops (p.take j) + costN ops (p.drop j) := by rw [← costN_append, List.take_append_drop]
        have e2 : p.take j = p.take i ++ (p.take j).drop i := by
          have := List.take_append_drop i (p.take j)
          rw [List.take_take, Nat.min_eq_left (by omega)] at this
          exact this.symm
        have e3 : costN ops (p.take j) = costN ops (p.take i) + costN ops ((p.take j).drop i) := by rw [← costN_append, ← e2]
        have := (costN_bound h0 ((p.take j).drop i)).1
        rw [costN_append]; omega
      cases n with
      | zero => omega
      | succ n =>
        obtain ⟨q, h1, h2, h3⟩ := short_run h0 hL n (by omega) hrq
        exact ⟨q, h1, by omega, h3⟩

theorem wayN_split (ops : List Wop) (p : List Nat) : wayN 4096 1 ops p = 4096 * costN ops p + (p.length : Int) := by unfold wayN; omega

end Go.Proofs.YtkjmgafnaddhkaaGreat

namespace Go.Proofs.YtkjmgafnaddhkaaGreat

def arcOf (e : Stp) : SArc := ⟨e.op, 4096 * e.cost + 1, e.to⟩
/-- The arcs from the states of a list. -/
def nextG (ops : List Wop) (ss : List Nat) (x : Nat) : List SArc := if x ∈ ss then (wsteps ops x).map arcOf else []
section
variable {ops : List Wop} {L : List Nat}
theorem nextG_all : ∀ x o (i : Nat), x ∈ L → ops[i]? = some o → o.can x = true → (⟨i, 4096 * o.cost + 1, o.next x⟩ : SArc) ∈ nextG ops L x := fun x o i hx ho hc => by
  unfold nextG
  rw [if_pos hx]
  exact List.mem_map.2 ⟨⟨i, o.cost, o.next x⟩, wsteps_mem.2 ⟨o, ho, hc, rfl, rfl⟩, rfl⟩
theorem nextG_only : ∀ y, ∀ b ∈ nextG ops L y, ∃ o, ops[b.op]? = some o ∧ o.can y = true ∧ b.to = o.next y ∧ b.price = 4096 * o.cost + 1 := fun y b hb => by
  unfold nextG at hb
  split at hb
  · obtain ⟨e, he, rfl⟩ := List.mem_map.1 hb
    obtain ⟨o, h1, h2, h3, h4⟩ := wsteps_mem.1 he
    exact ⟨o, h1, h2, h4, by unfold arcOf; simp only; rw [h3]⟩
  · simp at hb
theorem nextG_in (hsh : Shut ops L) : ∀ y, ∀ b ∈ nextG ops L y, b.to ∈ L := fun y b hb => by
  obtain ⟨o, h1, h2, h3, _⟩ := nextG_only y b hb
  unfold nextG at hb
  split at hb
  · rename_i hy; rw [h3]; exact hsh.2 y hy o (List.mem_of_getElem? h1) h2
  · simp at hb
theorem nextG_price (h0 : ∀ o ∈ ops, 0 ≤ o.cost ∧ o.cost ≤ 100) : ∀ y, ∀ b ∈ nextG ops L y, 1 ≤ b.price ∧ b.price ≤ 409601 := fun y b hb => by
  obtain ⟨o, h1, _, _, h4⟩ := nextG_only y b hb
  have := h0 o (List.mem_of_getElem? h1); omega
end

end Go.Proofs.YtkjmgafnaddhkaaGreat

namespace Go.Proofs.YtkjmgafnaddhkaaGreat

/-- A heuristic that never says more than a way to a goal costs, and says 'infinite' only where there is none. -/
structure Adm (ops : List Wop) (L : List Nat) (acc : Nat → Bool) (H : Nat → Int) : Prop where
  lo : ∀ x ∈ L, 0 ≤ H x ∧ H x ≤ 1000000000
  low : ∀ x ∈ L, ∀ p y, runOps ops x p = some y → acc y = true → H x ≤ costN ops p ∧ H x < 1000000000

section
variable {ops : List Wop} {L : List Nat} {st : Nat} {acc : Nat → Bool} {H : Nat → Int} {P : Nat → Option Int} {par : Nat → Option SArc} {A : List (Int × Int)} {s : Nat} {R : List SArc} {dn : Nat → Option Unit}
end

end Go.Proofs.YtkjmgafnaddhkaaGreat

namespace Go.Proofs.YtkjmgafnaddhkaaGreat
open Go.RowKit Go.Shelf

theorem FMap.not_deferred {α : Type} {w : World} {b : Nat} {enc : α → Value} {f : Nat → Option α} (h : FMap w b enc f) : w.heap[b]? ≠ some (.deferred (some [])) := by
  obtain ⟨es, c, hb⟩ := h.map_block
  rw [hb]; intro e; cases e

section
variable {fl : Bool} {B bf bb bfo bbe bat : Nat} {W W1 : World} {b m0 mp mr md q : Nat} {G : Nat → List SArc} {FG : Nat → Prop} {P : Nat → Option Int} {par : Nat → Option SArc} {dn : Nat → Option Unit} {A : List (Int × Int)} {t : Int} {F : Nat → Prop}
    {b' m0' mp' mr' md' q' : Nat} {G' : Nat → List SArc} {FG' : Nat → Prop} {P' : Nat → Option Int} {par' : Nat → Option SArc} {dn' : Nat → Option Unit} {A' : List (Int × Int)} {t' : Int} {F' : Nat → Prop} {found : Bool} {best : Int} {at_ : Nat}
end

end Go.Proofs.YtkjmgafnaddhkaaGreat

namespace Go.Proofs.YtkjmgafnaddhkaaGreat
open Go.RowKit Go.Shelf

theorem startW (L gs : List Nat) (m : Nat) : weightB L m (startP gs) ≤ L.length * m := by
  unfold weightB
  induction L with
  | nil => simp
  | cons x r ih =>
    rw [List.map_cons, List.sum_cons, List.length_cons, Nat.add_mul, Nat.one_mul, Nat.add_comm]
    refine Nat.add_le_add ih ?_
    unfold startP
    by_cases h : x ∈ gs
    · rw [if_pos h]; exact Nat.zero_le _
    · rw [if_neg h]; exact Nat.le_refl _
end Go.Proofs.YtkjmgafnaddhkaaGreat

namespace Go.Proofs.YtkjmgafnaddhkaaGreat
open Go.RowKit

section
variable {w w' : World} {base mp mr md q : Nat} {P P' : Nat → Option Int} {fp fp' : Nat → Option SArc} {dn dn' : Nat → Option Unit} {A A' : List (Int × Int)} {t t' : Int} {F F' : Nat → Prop}
end

/-- A heuristic as a function value: H is what it says of the states of L; it keeps its own memory between n0 and B, of which it changes the blocks FH. -/
structure Heur (g : Nat) (pa cb : Array Value) (L : List Nat) (H : Nat → Int) (n0 B : Nat) (FH : Nat → Prop) (I : World → Prop) : Prop where
  enters : ∀ args w, (callFunc g args).run Tryz.prog w = .ok (.enter g args) w
  answers : ∀ W x, I W → x ∈ L → Calls Tryz.prog g (pa.push (.int .u32 (x : Int)) ++ cb) W fun e W' => e = .returned (.int .i64 (H x)) ∧ I W' ∧ Keeps FH W W'
  steady : ∀ {S : Nat → Prop} {W W' : World}, I W → Keeps S W W' → (∀ k, S k → B ≤ k) → I W'
  nd : ∀ {W : World} {k : Nat}, I W → FH k → W.heap[k]? ≠ some (.deferred (some []))
  lo : ∀ k, FH k → n0 ≤ k ∧ k < B

/-- The map of the parents: the start has itself, the others what the search says. -/
def parF (st : Nat) (par : Nat → Option SArc) : Nat → Option SArc := fun x => if x = st then some ⟨0, 0, st⟩ else par x
theorem parF_put {st : Nat} {par : Nat → Option SArc} {x : Nat} {a : SArc} (h : x ≠ st) : putP (parF st par) x a = parF st (putP par x a) := by
  funext y
  unfold putP parF
  by_cases h1 : y = x
  · subst h1; simp [h]
  · simp [h1]
theorem parF_of {st : Nat} {par : Nat → Option SArc} (h0 : par st = none) : ∀ y a, par y = some a → parF st par y = some a := fun y a h => by
  unfold parF
  rw [if_neg (fun e => by subst e; rw [h0] at h; cases h)]
  exact h
theorem parF_start (st : Nat) : putP (fun _ => none) st (⟨0, 0, st⟩ : SArc) = parF st (fun _ => none) := by
  funext y
  unfold putP parF
  rfl

end Go.Proofs.YtkjmgafnaddhkaaGreat

namespace Go.Proofs.YtkjmgafnaddhkaaGreat
open Go.RowKit Go.Shelf

theorem WordsAt.past {w00 W : World} {base b s g : Nat} {v : Value} {ops : List Wop} (h : WordsAt w00 base b s g v ops) (hk : Keeps (fun _ => False) w00 W) : WordsAt W base b s g v ops := h.keeps0 hk

section
variable {w W W' : World} {L : List Nat} {H : Nat → Int} {gh n0 : Nat} {pa cb : Array Value} {FH : Nat → Prop} {I : World → Prop} {fn : Value} {b3 b8 b9 b10 mp mr md q : Nat} {P P' : Nat → Option Int} {fp fp' : Nat → Option SArc} {dn dn' : Nat → Option Unit} {A A' : List (Int × Int)} {t t' : Int} {F F' : Nat → Prop}
end

section
variable {w W W' : World} {L : List Nat} {H : Nat → Int} {gh n0 : Nat} {pa cb : Array Value} {FH : Nat → Prop} {I : World → Prop} {fn : Value} {b3 b8 b9 b10 mp mr q : Nat} {P : Nat → Option Int} {fp : Nat → Option SArc} {A A' : List (Int × Int)} {t t' : Int} {F F' : Nat → Prop}
end

theorem others_of {S : Nat → Prop} {W W' : World} {B : Nat} (hk : Keeps S W W') (hS : ∀ k, S k → k < B ∨ ∃ cs T fr, W.heap[k]? = some (.cells cs T fr)) : ∀ k o, B ≤ k → W.heap[k]? = some o → o.isCells = false → W'.heap[k]? = some o := fun k o hB h0 hc =>
  hk.heap h0 (fun hs => by
    rcases hS k hs with h | ⟨cs, T, fr, h⟩
    · omega
    · rw [h] at h0; cases h0; cases hc)
theorem close_of {S : Nat → Prop} {W W' : World} {B n0 Bs : Nat} (hk : Keeps S W W') (hS : ∀ k, S k → n0 ≤ k ∧ (k < B ∨ ∃ cs T fr, W.heap[k]? = some (.cells cs T fr)) ∧ k ≠ Bs) (hn : n0 ≤ W.heap.size) (hB : Bs < W.heap.size) : KeepsFrom B W W' ∧ KpS n0 Bs W W' :=
  ⟨⟨hk.size, others_of hk (fun k h => (hS k h).2.1)⟩, KpS.ofKeeps hk hn (fun k hlt hs => by have := (hS k hs).1; omega) hB (fun hs => (hS _ hs).2.2 rfl)⟩
theorem costLook {w : World} {mb : Nat} {P : Nat → Option Int} (hm : FMap w mb intV P) {x : Nat} {a : Int} (hx : P x = some a) : (Instr.lookup 80 (.map (some mb)) (.int .u32 (x : Int)) false).run Tryz.prog w = .ok (.int .i64 a) w :=
  (hm.look_some (P := Tryz.prog) Tryz.underlying80 Tryz.underlying82 hx).2
theorem costLookT {w : World} {mb : Nat} {P : Nat → Option Int} (hm : FMap w mb intV P) (x : Nat) : ∃ (a : Int) (b : Bool), (Instr.lookup 80 (.map (some mb)) (.int .u32 (x : Int)) true).run Tryz.prog w = .ok (.tuple #[.int .i64 a, .bool b]) w ∧ (b = true → P x = some a) ∧ (b = false → P x = none) := by
  cases hx : P x with
  | none => exact ⟨0, false, (hm.look_none (P := Tryz.prog) Tryz.underlying80 Tryz.underlying82 (show (zeroValue 3).run Tryz.prog w = .ok (.int .i64 0) w by kernel_rfl) hx).1, (fun h => by cases h), fun _ => rfl⟩
  | some a => exact ⟨a, true, (hm.look_some (P := Tryz.prog) Tryz.underlying80 Tryz.underlying82 hx).1, fun _ => rfl, fun h => by cases h⟩
end Go.Proofs.YtkjmgafnaddhkaaGreat

namespace Go.Proofs.YtkjmgafnaddhkaaGreat

/-- A way on which every state behind the first is worth no more than the bound: its operators and its states, the last one first. -/
inductive BWay (ops : List Wop) (st : Nat) (H : Nat → Int) (b : Int) : Nat → List Nat → List Nat → Prop
  | nil : BWay ops st H b st [] [st]
  | snoc {x : Nat} {q vs : List Nat} {a : Nat} {o : Wop} : BWay ops st H b x q vs → ops[a]? = some o → o.can x = true → H (o.next x) < 1000000000 → costN ops q + o.cost + H (o.next x) ≤ b → BWay ops st H b (o.next x) (q ++ [a]) (o.next x :: vs)

theorem costN_snocB {ops : List Wop} {a : Nat} {o : Wop} (h : ops[a]? = some o) (q : List Nat) : costN ops (q ++ [a]) = costN ops q + o.cost := by
  rw [costN_append]
  simp [costN, h]
theorem BWay.run {ops : List Wop} {st : Nat} {H : Nat → Int} {b : Int} {x : Nat} {q vs : List Nat} (h : BWay ops st H b x q vs) : runOps ops st q = some x := by
  induction h with
  | nil => rfl
  | snoc _ ho hc _ _ ih => exact runOps_snoc' ih ho hc
theorem BWay.len {ops : List Wop} {st : Nat} {H : Nat → Int} {b : Int} {x : Nat} {q vs : List Nat} (h : BWay ops st H b x q vs) : vs.length = q.length + 1 := by
  induction h with
  | nil => rfl
  | snoc _ _ _ _ _ ih => simp [ih]
theorem BWay.worth {ops : List Wop} {st : Nat} {H : Nat → Int} {b : Int} {x : Nat} {q vs : List Nat} (h : BWay ops st H b x q vs) (h0 : H st ≤ b) : costN ops q + H x ≤ b := by
  cases h with
  | nil => show (0 : Int) + _ ≤ b; omega
  | snoc _ ho _ _ hb => rw [costN_snocB ho]; exact hb

/-- What a search with the bound b finds: for each state the least cost of such a way. -/
structure RndOk (ops : List Wop) (st : Nat) (L : List Nat) (H : Nat → Int) (b : Int) (C : Nat → Option Int) : Prop where
  dom : ∀ x c, C x = some c → x ∈ L
  real : ∀ x c, C x = some c → ∃ q vs, BWay ops st H b x q vs ∧ costN ops q = c
  all : ∀ x q vs, BWay ops st H b x q vs → ∃ c, C x = some c ∧ c ≤ costN ops q
theorem RndOk.le {ops : List Wop} {st : Nat} {L L' : List Nat} {H : Nat → Int} {b : Int} {C C' : Nat → Option Int} (h : RndOk ops st L H b C) (h' : RndOk ops st L' H b C') {x : Nat} {c : Int} (hc : C x = some c) : ∃ c', C' x = some c' ∧ c' ≤ c := by
  obtain ⟨q, vs, h1, h2⟩ := h.real x c hc
  obtain ⟨c', h3, h4⟩ := h'.all x q vs h1
  exact ⟨c', h3, by omega⟩
theorem RndOk.unique {ops : List Wop} {st : Nat} {L L' : List Nat} {H : Nat → Int} {b : Int} {C C' : Nat → Option Int} (h : RndOk ops st L H b C) (h' : RndOk ops st L' H b C') : C = C' := by
  funext x
  cases hc : C x with
  | none =>
    cases hc' : C' x with
    | none => rfl
    | some c' =>
      obtain ⟨c, h1, _⟩ := h'.le h hc'
      rw [hc] at h1; cases h1
  | some c =>
    obtain ⟨c', h1, h2⟩ := h.le h' hc
    obtain ⟨c2, h3, h4⟩ := h'.le h h1
    rw [hc] at h3; cases h3
    rw [h1, show c' = c by omega]

def nVis (L : List Nat) (C : Nat → Option Int) : Nat := (L.filter fun x => (C x).isSome).length
def endsB (L : List Nat) (acc : Nat → Bool) (C : Nat → Option Int) : Bool := L.any fun x => (C x).isSome && acc x
theorem nVis_perm {L L' : List Nat} (h : L.Perm L') (C : Nat → Option Int) : nVis L C = nVis L' C := (h.filter _).length_eq
theorem endsB_perm {L L' : List Nat} (h : L.Perm L') (acc : Nat → Bool) (C : Nat → Option Int) : endsB L acc C = endsB L' acc C := by
  unfold endsB
  rw [Bool.eq_iff_iff, List.any_eq_true, List.any_eq_true]
  constructor
  · rintro ⟨x, hx, h1⟩; exact ⟨x, h.mem_iff.1 hx, h1⟩
  · rintro ⟨x, hx, h1⟩; exact ⟨x, h.mem_iff.2 hx, h1⟩
theorem nVis_le (L : List Nat) (C : Nat → Option Int) : nVis L C ≤ L.length := List.length_filter_le _ _
/-- A worth that is greater than the bound. -/
def Cand (ops : List Wop) (H : Nat → Int) (b : Int) (C : Nat → Option Int) (u : Int) : Prop := ∃ x c o, C x = some c ∧ o ∈ ops ∧ o.can x = true ∧ H (o.next x) < 1000000000 ∧ u = c + o.cost + H (o.next x) ∧ b < u
structure NextOk (ops : List Wop) (H : Nat → Int) (b : Int) (C : Nat → Option Int) (v : Int) : Prop where
  le : v ≤ 1000000000
  is : v = 1000000000 ∨ Cand ops H b C v
  least : ∀ u, Cand ops H b C u → v ≤ u
theorem NextOk.unique {ops : List Wop} {H : Nat → Int} {b : Int} {C : Nat → Option Int} {v v' : Int} (h : NextOk ops H b C v) (h' : NextOk ops H b C v') : v = v' := by
  have a : v ≤ v' := by
    rcases h'.is with e | e
    · rw [e]; exact h.le
    · exact h.least _ e
  have a' : v' ≤ v := by
    rcases h.is with e | e
    · rw [e]; exact h'.le
    · exact h'.least _ e
  omega
theorem NextOk.gt {ops : List Wop} {H : Nat → Int} {b : Int} {C : Nat → Option Int} {v : Int} (h : NextOk ops H b C v) (hb : b < 1000000000) : b < v := by
  rcases h.is with e | ⟨_, _, _, _, _, _, _, _, e⟩ <;> omega

/-! ### the rounds -/
/-- After the rounds with the bounds bs, none of which found a goal state, n states were visited, and b comes next. -/
inductive RunTo (ops : List Wop) (st : Nat) (L : List Nat) (acc : Nat → Bool) (H : Nat → Int) : List Int → Int → Int → Prop
  | start : RunTo ops st L acc H [] 0 (H st)
  | step {bs : List Int} {n b v : Int} {C : Nat → Option Int} : RunTo ops st L acc H bs n b → b < 1000000000 → RndOk ops st L H b C → endsB L acc C = false → NextOk ops H b C v → RunTo ops st L acc H (bs ++ [b]) (n + (nVis L C : Int)) v
/-- The end of the rounds: a goal state is found with the last bound, or there is none. -/
def RunEnd (ops : List Wop) (st : Nat) (L : List Nat) (acc : Nat → Bool) (H : Nat → Int) (bs : List Int) (n : Int) (fnd : Bool) (b : Int) : Prop :=
  (fnd = false ∧ RunTo ops st L acc H bs n b ∧ 1000000000 ≤ b) ∨
  (fnd = true ∧ b < 1000000000 ∧ ∃ bs0 n0 C, RunTo ops st L acc H bs0 n0 b ∧ RndOk ops st L H b C ∧ endsB L acc C = true ∧ bs = bs0 ++ [b] ∧ n = n0 + (nVis L C : Int))

section
variable {ops : List Wop} {st : Nat} {L L' : List Nat} {acc : Nat → Bool} {H : Nat → Int}
theorem RunTo.inv {bs : List Int} {n v : Int} (h : RunTo ops st L acc H bs n v) : (bs = [] ∧ n = 0 ∧ v = H st) ∨ ∃ bs0 n0 b C, RunTo ops st L acc H bs0 n0 b ∧ b < 1000000000 ∧ RndOk ops st L H b C ∧ endsB L acc C = false ∧ NextOk ops H b C v ∧ bs = bs0 ++ [b] ∧ n = n0 + (nVis L C : Int) := by
  cases h with
  | start => exact .inl ⟨rfl, rfl, rfl⟩
  | step h1 h2 h3 h4 h5 => exact .inr ⟨_, _, _, _, h1, h2, h3, h4, h5, rfl, rfl⟩
theorem RunTo.unique (hp : L.Perm L') : ∀ (k : Nat) {bs bs' : List Int} {n n' b b' : Int}, RunTo ops st L acc H bs n b → RunTo ops st L' acc H bs' n' b' → bs.length = k → bs'.length = k → bs = bs' ∧ n = n' ∧ b = b'
  | 0, bs, bs', n, n', b, b', h, h', hl, hl' => by
    have e := List.length_eq_zero_iff.1 hl
    have e' := List.length_eq_zero_iff.1 hl'
    subst e e'
    rcases h.inv with ⟨_, h2, h3⟩ | ⟨_, _, _, _, _, _, _, _, _, h, _⟩
    · rcases h'.inv with ⟨_, g2, g3⟩ | ⟨_, _, _, _, _, _, _, _, _, h, _⟩
      · exact ⟨rfl, by rw [h2, g2], by rw [h3, g3]⟩
      · exact absurd h.symm (by simp)
    · exact absurd h.symm (by simp)
  | k + 1, bs, bs', n, n', b, b', h, h', hl, hl' => by
    rcases h.inv with ⟨h1, _, _⟩ | ⟨bs0, n0, b0, C, h1, h2, h3, h4, h5, rfl, rfl⟩
    · rw [h1] at hl; simp at hl
    rcases h'.inv with ⟨g1, _, _⟩ | ⟨bs1, n1, b1, C', g1, g2, g3, g4, g5, rfl, rfl⟩
    · rw [g1] at hl'; simp at hl'
    obtain ⟨e1, e2, e3⟩ := RunTo.unique hp k h1 g1 (by simpa using hl) (by simpa using hl')
    subst e1 e2 e3
    have e := h3.unique g3
    subst e
    exact ⟨rfl, by rw [nVis_perm hp], h5.unique g5⟩
/-- The rounds before the last went on. -/
theorem RunTo.cut {bs : List Int} {n b : Int} (h : RunTo ops st L acc H bs n b) : ∀ k, k < bs.length → ∃ bs0 n0 b0 C, bs0.length = k ∧ RunTo ops st L acc H bs0 n0 b0 ∧ b0 < 1000000000 ∧ RndOk ops st L H b0 C ∧ endsB L acc C = false := by
  induction h with
  | start => intro k hk; simp at hk
  | @step bs n b v C h1 h2 h3 h4 _ ih =>
    intro k hk
    rw [List.length_append, List.length_singleton] at hk
    by_cases hlt : k < bs.length
    · exact ih k hlt
    · exact ⟨bs, n, b, C, by omega, h1, h2, h3, h4⟩
theorem RunEnd.unique (hp : L.Perm L') {bs bs' : List Int} {n n' b b' : Int} {f f' : Bool} (h : RunEnd ops st L acc H bs n f b) (h' : RunEnd ops st L' acc H bs' n' f' b') : bs = bs' ∧ n = n' ∧ f = f' ∧ b = b' := by
  have go : ∀ {L L' : List Nat} (_ : L.Perm L') {bs bs' : List Int} {n n' b b' : Int}, RunTo ops st L acc H bs n b → RunTo ops st L' acc H bs' n' b' → (1000000000 ≤ b ∨ ∃ C, RndOk ops st L H b C ∧ endsB L acc C = true) → ¬ bs.length < bs'.length := by
    intro L L' hp bs bs' n n' b b' h1 h2 h3 hlt
    obtain ⟨bs0, n0, b0, C, e, g1, g2, g3, g4⟩ := h2.cut _ hlt
    obtain ⟨_, _, e3⟩ := RunTo.unique hp bs.length h1 g1 rfl e
    subst e3
    rcases h3 with h3 | ⟨C', h3, h4⟩
    · omega
    · have e := h3.unique g3
      subst e
      rw [endsB_perm hp, g4] at h4; cases h4
  rcases h with ⟨f1, h1, h2⟩ | ⟨f1, h2, bs0, n0, C, h1, h3, h4, e1, e2⟩ <;> rcases h' with ⟨k1, g1, g2⟩ | ⟨k1, g2, bs1, n1, C', g1, g3, g4, e3, e4⟩
  · have a := go hp h1 g1 (.inl h2)
    have a' := go hp.symm g1 h1 (.inl g2)
    obtain ⟨e1, e2, e3⟩ := RunTo.unique hp bs.length h1 g1 rfl (by omega)
    exact ⟨e1, e2, by rw [f1, k1], e3⟩
  · have a := go hp h1 g1 (.inl h2)
    have a' := go hp.symm g1 h1 (.inr ⟨C', g3, g4⟩)
    obtain ⟨_, _, e⟩ := RunTo.unique hp bs.length h1 g1 rfl (by omega)
    omega
  · have a := go hp h1 g1 (.inr ⟨C, h3, h4⟩)
    have a' := go hp.symm g1 h1 (.inl g2)
    obtain ⟨_, _, e⟩ := RunTo.unique hp bs0.length h1 g1 rfl (by omega)
    omega
  · have a := go hp h1 g1 (.inr ⟨C, h3, h4⟩)
    have a' := go hp.symm g1 h1 (.inr ⟨C', g3, g4⟩)
    obtain ⟨q1, q2, q3⟩ := RunTo.unique hp bs0.length h1 g1 rfl (by omega)
    subst q1 q2 q3
    have e := h3.unique g3
    subst e
    exact ⟨by rw [e1, e3], by rw [e2, e4, nVis_perm hp], by rw [f1, k1], rfl⟩

/-- No bound is greater than what a plan costs. -/
theorem next_low (hsh : Shut ops L) (ad : Adm ops L acc H) {b v : Int} {C : Nat → Option Int} (hC : RndOk ops st L H b C) (he : endsB L acc C = false) (hv : NextOk ops H b C v) {p : List Nat} {y : Nat} (hr : runOps ops st p = some y) (ha : acc y = true) : v ≤ costN ops p := by
  have key : ∀ k, k ≤ p.length → v ≤ costN ops p ∨ ∃ z q vs, runOps ops st (p.take k) = some z ∧ BWay ops st H b z q vs ∧ costN ops q ≤ costN ops (p.take k) := by
    intro k
    induction k with
    | zero => intro _; exact .inr ⟨st, [], [st], rfl, .nil, by rw [List.take_zero]; exact Int.le_refl _⟩
    | succ k ih =>
      intro hk
      rcases ih (by omega) with h | ⟨z, q, vs, hz, hw, hle⟩
      · exact .inl h
      obtain ⟨a, hpa⟩ : ∃ a, p[k]? = some a := ⟨_, List.getElem?_eq_getElem (by omega)⟩
      have het : p.take (k + 1) = p.take k ++ [a] := by rw [List.take_add_one, hpa]; rfl
      obtain ⟨z', hz1, hz2⟩ := run_cut hr (k + 1)
      have hz1' := hz1
      rw [het] at hz1'
      obtain ⟨y0, o, g1, g2, g3, g4⟩ := runOps_snoc hz1'
      rw [hz] at g1; cases g1
      subst g4
      have hc1 : costN ops (p.take (k + 1)) = costN ops (p.take k) + o.cost := by rw [het, costN_snocB g2]
      have hsplit : costN ops p = costN ops (p.take (k + 1)) + costN ops (p.drop (k + 1)) := by rw [← costN_append, List.take_append_drop]
      obtain ⟨c, hc, hcle⟩ := hC.all _ _ _ hw
      obtain ⟨q2, vs2, hw2, hq2⟩ := hC.real _ _ hc
      have hzL := hC.dom _ _ hc
      have hlow := ad.low _ (hsh.2 z hzL o (List.mem_of_getElem? g2) g3) _ _ hz2 ha
      by_cases hb : c + o.cost + H (o.next z) ≤ b
      · exact .inr ⟨_, _, _, hz1, .snoc hw2 g2 g3 hlow.2 (by rw [hq2]; exact hb), by rw [costN_snocB g2]; omega⟩
      · have := hv.least _ ⟨z, c, o, hc, List.mem_of_getElem? g2, g3, hlow.2, rfl, by omega⟩
        exact .inl (by omega)
  rcases key p.length (Nat.le_refl _) with h | ⟨z, q, vs, hz, hw, _⟩
  · exact h
  · rw [List.take_length, hr] at hz; cases hz
    obtain ⟨c, hc, _⟩ := hC.all _ _ _ hw
    have hyL := hC.dom _ _ hc
    have : endsB L acc C = true := List.any_eq_true.2 ⟨_, hyL, by rw [hc, ha]; rfl⟩
    rw [he] at this; cases this
theorem RunTo.low (hsh : Shut ops L) (ad : Adm ops L acc H) (hst : st ∈ L) {bs : List Int} {n b : Int} (h : RunTo ops st L acc H bs n b) {p : List Nat} {y : Nat} (hr : runOps ops st p = some y) (ha : acc y = true) : b ≤ costN ops p := by
  cases h with
  | start => exact (ad.low st hst p y hr ha).1
  | step _ _ hC he hv => exact next_low hsh ad hC he hv hr ha
/-- The bounds rise, and the next one is greater than all. -/
theorem RunTo.rise {bs : List Int} {n b : Int} (h : RunTo ops st L acc H bs n b) : bs.Pairwise (· < ·) ∧ (∀ c ∈ bs, c < b) ∧ (bs ≠ [] → bs.head? = some (H st)) ∧ (bs = [] → b = H st) := by
  induction h with
  | start => exact ⟨.nil, by simp, fun h => absurd rfl h, fun _ => rfl⟩
  | @step bs n b v C _ hb _ _ hv ih =>
    have h1 := hv.gt hb
    refine ⟨List.pairwise_append.2 ⟨ih.1, List.pairwise_singleton _ _, fun a ha c hc => by rw [List.mem_singleton] at hc; subst hc; exact ih.2.1 a ha⟩, fun c hc => ?_, fun _ => ?_, fun h => absurd h (by simp)⟩
    · rcases List.mem_append.1 hc with h | h
      · have := ih.2.1 c h; omega
      · rw [List.mem_singleton] at h; omega
    · by_cases he : bs = []
      · subst he; rw [ih.2.2.2 rfl]; rfl
      · rw [List.head?_append, ih.2.2.1 he]; rfl

/-! ### the search with a bound -/
/-- An arc that the search does not follow, at the price n. -/
def Cut (H : Nat → Int) (b n : Int) (y : Nat) : Prop := 1000000000 ≤ H y ∨ b < n / 4096 + H y
/-- What stays of the search while the arcs of the state s are looked at: the arcs in R are still to do; A waits. -/
structure DeepI (ops : List Wop) (L : List Nat) (st : Nat) (H : Nat → Int) (b : Int) (P : Nat → Option Int) (par : Nat → Option SArc) (A : List Nat) (s : Nat) (R : List SArc) : Prop where
  dom : ∀ x p, P x = some p → x ∈ L
  start : P st = some 0 ∧ par st = none
  from_ : ∀ x p, P x = some p → x ≠ st → ∃ a, par x = some a ∧ ⟨a.op, a.price, x⟩ ∈ nextG ops L a.to ∧ ∃ q, P a.to = some q ∧ q + a.price ≤ p
  way : ∀ x p, P x = some p → ∃ q vs, BWay ops st H b x q vs ∧ wayN 4096 1 ops q = p ∧ vs.Nodup ∧ ∀ z ∈ vs, ∃ pz, P z = some pz ∧ pz ≤ p
  key : ∀ z ∈ A, ∃ p, P z = some p
  pend : ∀ x p, P x = some p → x ∈ A ∨ ∀ a ∈ nextG ops L x, Cut H b (p + a.price) a.to ∨ (∃ q, P a.to = some q ∧ q ≤ p + a.price) ∨ (x = s ∧ a ∈ R)

variable {b : Int} {P : Nat → Option Int} {par : Nat → Option SArc} {A : List Nat} {s : Nat} {R : List SArc}
theorem DeepI.init (hst : st ∈ L) (H : Nat → Int) (b : Int) : DeepI ops L st H b (putP (fun _ => none) st 0) (fun _ => none) [st] 0 [] := by
  have one : ∀ x p, putP (fun _ => none) st (0 : Int) x = some p → x = st ∧ p = 0 := fun x p h => by
    unfold putP at h
    split at h
    · rename_i e; cases h; exact ⟨e, rfl⟩
    · cases h
  refine ⟨fun x p h => by rw [(one x p h).1]; exact hst, ⟨putP_same _ _ _, rfl⟩, fun x p h hx => absurd (one x p h).1 hx, fun x p h => ?_, fun z hz => ?_, fun x p h => ?_⟩
  · obtain ⟨rfl, rfl⟩ := one x p h
    exact ⟨[], [x], .nil, wayN_nil _ _ _, by simp, fun z hz => by rw [List.mem_singleton] at hz; subst hz; exact ⟨0, putP_same _ _ _, Int.le_refl _⟩⟩
  · rw [List.mem_singleton] at hz; subst hz; exact ⟨0, putP_same _ _ _⟩
  · exact .inl (by rw [(one x p h).1]; exact List.mem_singleton.2 rfl)
theorem DeepI.bound (h : DeepI ops L st H b P par A s R) (h0 : ∀ o ∈ ops, 0 ≤ o.cost ∧ o.cost ≤ 100) (hL : L.length ≤ 2000) {x : Nat} {p : Int} (hp : P x = some p) : 0 ≤ p ∧ p ≤ 819200000 ∧ ∃ q vs, BWay ops st H b x q vs ∧ p = 4096 * costN ops q + (q.length : Int) ∧ q.length + 1 ≤ 2000 := by
  obtain ⟨q, vs, hw, he, hnd, hall⟩ := h.way x p hp
  have h1 := nodup_sub_length hnd (b := L) (fun z hz => by obtain ⟨pz, h2, _⟩ := hall z hz; exact h.dom z pz h2)
  have h2 := hw.len
  have h3 := costN_bound h0 q
  rw [wayN_split] at he
  exact ⟨by omega, by omega, q, vs, hw, by omega, by omega⟩
theorem DeepI.take {x : Nat} (h : DeepI ops L st H b P par (x :: A) s []) : DeepI ops L st H b P par A x (nextG ops L x) :=
  ⟨h.dom, h.start, h.from_, h.way, fun z hz => h.key z (by simp [hz]), fun y p hp => by
    by_cases e : y = x
    · subst e; exact .inr fun a ha => .inr (.inr ⟨rfl, ha⟩)
    · rcases h.pend y p hp with h1 | h1
      · rcases List.mem_cons.1 h1 with e' | h2
        · exact absurd e' e
        · exact .inl h2
      · exact .inr fun a ha => by
          rcases h1 a ha with h2 | h2 | ⟨_, h2⟩
          · exact .inl h2
          · exact .inr (.inl h2)
          · simp at h2⟩
/-- An arc that is not followed. -/
theorem DeepI.skip {a : SArc} (h : DeepI ops L st H b P par A s (a :: R)) {p : Int} (hp : P s = some p) (hc : Cut H b (p + a.price) a.to ∨ ∃ q, P a.to = some q ∧ q ≤ p + a.price) : DeepI ops L st H b P par A s R :=
  ⟨h.dom, h.start, h.from_, h.way, h.key, fun y u hu => by
    rcases h.pend y u hu with h1 | h1
    · exact .inl h1
    · refine .inr fun c hcm => ?_
      rcases h1 c hcm with h2 | h2 | ⟨rfl, h2⟩
      · exact .inl h2
      · exact .inr (.inl h2)
      · rcases List.mem_cons.1 h2 with rfl | h3
        · rw [hp] at hu; cases hu
          rcases hc with h4 | h4
          · exact .inl h4
          · exact .inr (.inl h4)
        · exact .inr (.inr ⟨rfl, h3⟩)⟩
/-- An arc that gives a better price. -/
theorem DeepI.fall {a : SArc} (h : DeepI ops L st H b P par A s (a :: R)) (hsh : Shut ops L) (h0 : ∀ o ∈ ops, 0 ≤ o.cost ∧ o.cost ≤ 100) (hL : L.length ≤ 2000) (ha : a ∈ nextG ops L s) {p : Int} (hp : P s = some p) (hlt : ∀ q, P a.to = some q → p + a.price < q) (hc : ¬ Cut H b (p + a.price) a.to) :
    DeepI ops L st H b (putP P a.to (p + a.price)) (putP par a.to ⟨a.op, a.price, s⟩) (A ++ [a.to]) s R := by
  obtain ⟨o, g1, g2, g3, g4⟩ := nextG_only s a ha
  have hpr := nextG_price h0 s a ha
  have hb := h.bound h0 hL hp
  have hne : a.to ≠ s := fun e => by have := hlt p (by rw [e]; exact hp); omega
  have hns : a.to ≠ st := fun e => by have := hlt 0 (by rw [e]; exact h.start.1); omega
  have hin : a.to ∈ L := nextG_in hsh _ _ ha
  have mono : ∀ y u, P y = some u → ∃ u', putP P a.to (p + a.price) y = some u' ∧ u' ≤ u := fun y u hu => by
    by_cases hy : y = a.to
    · subst hy; exact ⟨_, putP_same _ _ _, by have := hlt u hu; omega⟩
    · exact ⟨u, by rw [putP_other _ _ hy]; exact hu, Int.le_refl _⟩
  refine ⟨fun y u hu => ?_, ⟨by rw [putP_other _ _ (fun e => hns e.symm)]; exact h.start.1, by rw [putP_other _ _ (fun e => hns e.symm)]; exact h.start.2⟩, fun y u hu hy => ?_, fun y u hu => ?_, fun z hz => ?_, fun y u hu => ?_⟩
  · by_cases hy : y = a.to
    · subst hy; exact hin
    · rw [putP_other _ _ hy] at hu; exact h.dom y u hu
  · by_cases e : y = a.to
    · subst e
      rw [putP_same] at hu; cases hu
      exact ⟨_, putP_same _ _ _, ha, p, by rw [putP_other _ _ (fun e => hne e.symm)]; exact hp, Int.le_refl _⟩
    · rw [putP_other _ _ e] at hu
      obtain ⟨d, h1, h2, q, hq, hle⟩ := h.from_ y u hu hy
      obtain ⟨q', hq', hle'⟩ := mono _ _ hq
      exact ⟨d, by rw [putP_other _ _ e]; exact h1, h2, q', hq', by omega⟩
  · by_cases e : y = a.to
    · subst e
      rw [putP_same] at hu; cases hu
      obtain ⟨q, vs, hw, he, hnd, hall⟩ := h.way s p hp
      have hlen := nodup_sub_length hnd (b := L) (fun z hz => by obtain ⟨pz, h2, _⟩ := hall z hz; exact h.dom z pz h2)
      have hl2 := hw.len
      have hnot : a.to ∉ vs := fun hm => by
        obtain ⟨pz, h1, h2⟩ := hall _ hm
        have := hlt pz h1; omega
      have hsp := wayN_split ops q
      unfold Cut at hc
      have hdiv : (p + a.price) / 4096 = costN ops q + o.cost := by omega
      have hw2 := BWay.snoc hw g1 g2 (by rw [← g3]; omega) (by rw [← g3]; omega)
      rw [← g3] at hw2
      refine ⟨q ++ [a.op], a.to :: vs, hw2, by rw [wayN_append, wayN_one g1, he, g4], List.nodup_cons.2 ⟨hnot, hnd⟩, fun z hz => ?_⟩
      rcases List.mem_cons.1 hz with rfl | hz
      · exact ⟨_, putP_same _ _ _, Int.le_refl _⟩
      · obtain ⟨pz, h1, h2⟩ := hall z hz
        obtain ⟨q', hq', hle'⟩ := mono _ _ h1
        exact ⟨q', hq', by omega⟩
    · rw [putP_other _ _ e] at hu
      obtain ⟨q, vs, hw, he, hnd, hall⟩ := h.way y u hu
      refine ⟨q, vs, hw, he, hnd, fun z hz => ?_⟩
      obtain ⟨pz, h1, h2⟩ := hall z hz
      obtain ⟨q', hq', hle'⟩ := mono _ _ h1
      exact ⟨q', hq', by omega⟩
  · rcases List.mem_append.1 hz with h1 | h1
    · obtain ⟨u, hu⟩ := h.key z h1
      obtain ⟨q', hq', _⟩ := mono _ _ hu
      exact ⟨q', hq'⟩
    · rw [List.mem_singleton] at h1; subst h1; exact ⟨_, putP_same _ _ _⟩
  · by_cases e : y = a.to
    · exact .inl (by rw [e]; simp)
    · rw [putP_other _ _ e] at hu
      rcases h.pend y u hu with h1 | h1
      · exact .inl (by simp [h1])
      · refine .inr fun d hd => ?_
        rcases h1 d hd with h2 | ⟨q, hq, hle⟩ | ⟨rfl, h2⟩
        · exact .inl h2
        · obtain ⟨q', hq', hle'⟩ := mono _ _ hq
          exact .inr (.inl ⟨q', hq', by omega⟩)
        · rcases List.mem_cons.1 h2 with rfl | h3
          · rw [hp] at hu; cases hu
            exact .inr (.inl ⟨_, putP_same _ _ _, Int.le_refl _⟩)
          · exact .inr (.inr ⟨rfl, h3⟩)

/-! ### the search's end -/
/-- The prices at the end of the search: each is that of a way, and no arc gives a better one. -/
structure RndP (ops : List Wop) (L : List Nat) (st : Nat) (H : Nat → Int) (b : Int) (P : Nat → Option Int) : Prop where
  dom : ∀ x p, P x = some p → x ∈ L
  start : P st = some 0
  real : ∀ x p, P x = some p → 0 ≤ p ∧ p ≤ 819200000 ∧ ∃ q vs, BWay ops st H b x q vs ∧ p = 4096 * costN ops q + (q.length : Int) ∧ q.length + 1 ≤ 2000
  relax : ∀ (x : Nat) (p : Int) (i : Nat) (o : Wop), P x = some p → ops[i]? = some o → o.can x = true → H (o.next x) < 1000000000 → (p + (4096 * o.cost + 1)) / 4096 + H (o.next x) ≤ b → ∃ q, P (o.next x) = some q ∧ q ≤ p + (4096 * o.cost + 1)
theorem DeepI.done (h : DeepI ops L st H b P par [] s []) (h0 : ∀ o ∈ ops, 0 ≤ o.cost ∧ o.cost ≤ 100) (hL : L.length ≤ 2000) : RndP ops L st H b P :=
  ⟨h.dom, h.start.1, fun x p hp => h.bound h0 hL hp, fun x p i o hp ho hc hH hb => by
    rcases h.pend x p hp with h1 | h1
    · simp at h1
    · rcases h1 _ (nextG_all x o i (h.dom x p hp) ho hc) with h2 | h2 | ⟨_, h2⟩
      · unfold Cut at h2; simp only at h2; omega
      · exact h2
      · simp at h2⟩
theorem RndP.all (h : RndP ops L st H b P) {x : Nat} {q vs : List Nat} (hw : BWay ops st H b x q vs) : ∃ p, P x = some p ∧ p ≤ wayN 4096 1 ops q ∧ p / 4096 ≤ costN ops q := by
  induction hw with
  | nil => exact ⟨0, h.start, by rw [wayN_nil]; exact Int.le_refl _, by show (0 : Int) / 4096 ≤ 0; decide⟩
  | @snoc x q vs a o _ ho hc hH hb ih =>
    obtain ⟨p, hp, h1, h2⟩ := ih
    obtain ⟨_, _, q0, vs0, hw0, he, hl⟩ := h.real x p hp
    obtain ⟨p', hp', hle⟩ := h.relax x p a o hp ho hc hH (by omega)
    exact ⟨p', hp', by rw [wayN_append, wayN_one ho]; omega, by rw [costN_snocB ho]; omega⟩
/-- The costs at the end of the search. -/
def costP (P : Nat → Option Int) : Nat → Option Int := fun x => (P x).map (· / 4096)
theorem costP_some {x : Nat} {c : Int} (h : costP P x = some c) : ∃ p, P x = some p ∧ c = p / 4096 := by
  unfold costP at h
  cases hp : P x with
  | none => rw [hp] at h; cases h
  | some p => rw [hp] at h; cases h; exact ⟨p, rfl, rfl⟩
theorem costP_of {x : Nat} {p : Int} (h : P x = some p) : costP P x = some (p / 4096) := by unfold costP; rw [h]; rfl
theorem RndP.rnd (h : RndP ops L st H b P) : RndOk ops st L H b (costP P) := by
  refine ⟨fun x c hc => ?_, fun x c hc => ?_, fun x q vs hw => ?_⟩
  · obtain ⟨p, hp, _⟩ := costP_some hc
    exact h.dom x p hp
  · obtain ⟨p, hp, rfl⟩ := costP_some hc
    obtain ⟨_, _, q, vs, hw, he, hl⟩ := h.real x p hp
    exact ⟨q, vs, hw, by omega⟩
  · obtain ⟨p, hp, _, h2⟩ := h.all hw
    exact ⟨_, costP_of hp, h2⟩
/-- The parents at the end of the search are those of one side. -/
theorem DeepI.side (h : DeepI ops L st H b P par [] s []) (h0 : ∀ o ∈ ops, 0 ≤ o.cost ∧ o.cost ≤ 100) (hL : L.length ≤ 2000) : ∃ G : Nat → List SArc, (∀ y, ∀ c ∈ G y, c ∈ nextG ops L y) ∧ SideI G (fun x => x ∈ [st]) L 409601 P par [] 0 [] := by
  refine ⟨fun x => (nextG ops L x).filter fun a => match P x, P a.to with | some p, some q => decide (q ≤ p + a.price) | _, _ => false, fun y c hc => (List.mem_filter.1 hc).1, h.dom, fun x p hp => ?_, fun x hx => ?_, fun x p hp hx => ?_, fun z hz => (by simp at hz), fun x p hp => .inr fun a ha => ?_⟩
  · obtain ⟨q, vs, hw, he, hnd, hall⟩ := h.way x p hp
    have h1 : vs.length ≤ knownB L P := by
      unfold knownB
      rw [List.countP_eq_length_filter]
      exact nodup_sub_length hnd (fun z hz => by
        obtain ⟨pz, h2, _⟩ := hall z hz
        exact List.mem_filter.2 ⟨h.dom z pz h2, by rw [h2]; rfl⟩)
    have h2 := hw.len
    have h3 := costN_bound h0 q
    rw [wayN_split] at he
    exact ⟨by omega, by omega⟩
  · rw [List.mem_singleton] at hx; subst hx; exact h.start
  · obtain ⟨a, h1, h2, q, hq, hle⟩ := h.from_ x p hp (fun e => hx (List.mem_singleton.2 e))
    have hpr := nextG_price h0 _ _ h2
    simp only at hpr
    obtain ⟨o, g1, g2, g3, g4⟩ := nextG_only _ _ h2
    simp only at g1 g2 g3 g4
    refine ⟨a, h1, List.mem_filter.2 ⟨h2, ?_⟩, q, hq, hle⟩
    simp only [hq, hp]
    have hb := h.bound h0 hL hq
    obtain ⟨_, _, q0, vs0, hw0, he0, hl0⟩ := hb
    have hx2 : ∃ q', P x = some q' ∧ q' ≤ q + a.price := by
      by_cases hst : x = st
      · exact absurd (List.mem_singleton.2 hst) hx
      obtain ⟨_, _, q1, vs1, hw1, he1, hl1⟩ := h.bound h0 hL hp
      have hH : H x < 1000000000 ∧ costN ops q1 + H x ≤ b := by
        cases hw1 with
        | nil => exact absurd rfl hst
        | snoc _ ho _ hH hb => exact ⟨hH, by rw [costN_snocB ho]; exact hb⟩
      have := (h.done h0 hL).relax a.to q a.op o hq g1 g2 (by rw [← g3]; exact hH.1) (by rw [← g3]; omega)
      rw [← g3, ← g4] at this
      exact this
    obtain ⟨q', h3, h4⟩ := hx2
    rw [hp] at h3; cases h3
    simpa using h4
  · obtain ⟨h1, h2⟩ := List.mem_filter.1 ha
    rw [hp] at h2
    cases hq : P a.to with
    | none => rw [hq] at h2; cases h2
    | some q => rw [hq] at h2; exact .inl ⟨q, rfl, by simpa using h2⟩

/-- The goal state that the search chooses. -/
structure GoalOk (acc : Nat → Bool) (P : Nat → Option Int) (fnd : Bool) (g : Nat) : Prop where
  none_ : fnd = false → ∀ x p, P x = some p → acc x = false
  some_ : fnd = true → ∃ p, P g = some p ∧ acc g = true ∧ ∀ x q, P x = some q → acc x = true → p ≤ q
theorem GoalOk.ends {fnd : Bool} {g : Nat} (h : GoalOk acc P fnd g) (hd : ∀ x p, P x = some p → x ∈ L) : endsB L acc (costP P) = fnd := by
  unfold endsB
  cases fnd with
  | false =>
    rw [List.any_eq_false]
    intro x hx
    cases hp : P x with
    | none => simp [costP, hp]
    | some p => simp [h.none_ rfl x p hp]
  | true =>
    obtain ⟨p, hp, ha, _⟩ := h.some_ rfl
    exact List.any_eq_true.2 ⟨g, hd g p hp, by rw [costP_of hp, ha]; rfl⟩
/-- A goal state that is found ends a best plan. -/
theorem deep_found (hsh : Shut ops L) (h0 : ∀ o ∈ ops, 0 ≤ o.cost ∧ o.cost ≤ 100) (hL : L.length ≤ 2000) (ad : Adm ops L acc H) (hst : st ∈ L) {bs : List Int} {n : Int} (hr : RunTo ops st L acc H bs n b) (hd : DeepI ops L st H b P par [] s []) {g : Nat} (hg : GoalOk acc P true g) :
    ∃ p out, P g = some p ∧ Chain par g out st ∧ out.length ≤ L.length ∧ runOps ops st out.reverse = some g ∧ wayN 4096 1 ops out.reverse = p ∧ LeastOf 4096 1 ops st acc p ∧ p / 4096 = b := by
  have hP := hd.done h0 hL
  obtain ⟨p, hp, ha, hmin⟩ := hg.some_ rfl
  obtain ⟨hp0, _, q, vs, hw, he, hl⟩ := hP.real g p hp
  have hc := hr.low hsh ad hst hw.run ha
  have hH0 := ad.low g (hP.dom _ _ hp) [] g rfl ha
  have hH1 := ad.lo g (hP.dom _ _ hp)
  have hn0 : costN ops [] = 0 := rfl
  have hsb : H st ≤ b := by
    obtain ⟨hbs, _, h3, h4⟩ := hr.rise
    by_cases he : bs = []
    · rw [h4 he]; exact Int.le_refl _
    · have h5 := h3 he
      have h6 := hr.rise.2.1 (H st) (List.mem_of_mem_head? h5)
      omega
  have hcb : costN ops q + H g ≤ b := hw.worth hsb
  have hcq : costN ops q = b := by omega
  have least : ∀ r y, runOps ops st r = some y → acc y = true → p ≤ wayN 4096 1 ops r := by
    intro r y hry hay
    have h1 := hr.low hsh ad hst hry hay
    rw [wayN_split]
    by_cases hlt : b < costN ops r
    · omega
    · have hreq : costN ops r = b := by omega
      have key : ∀ k, k ≤ r.length → ∀ z, runOps ops st (r.take k) = some z → ∃ vs, BWay ops st H b z (r.take k) vs := by
        intro k
        induction k with
        | zero => intro _ z hz; rw [List.take_zero] at hz; cases hz; exact ⟨_, .nil⟩
        | succ k ih =>
          intro hk z hz
          obtain ⟨a, hra⟩ : ∃ a, r[k]? = some a := ⟨_, List.getElem?_eq_getElem (by omega)⟩
          have het : r.take (k + 1) = r.take k ++ [a] := by rw [List.take_add_one, hra]; rfl
          obtain ⟨z', hz1, hz2⟩ := run_cut hry (k + 1)
          rw [hz] at hz1; cases hz1
          rw [het] at hz
          obtain ⟨y0, o, g1, g2, g3, g4⟩ := runOps_snoc hz
          subst g4
          obtain ⟨vs, hv⟩ := ih (by omega) y0 g1
          have hy0 : y0 ∈ L := by
            obtain ⟨p0, hp0, _⟩ := hP.all hv
            exact hP.dom _ _ hp0
          have hlow := ad.low _ (hsh.2 y0 hy0 o (List.mem_of_getElem? g2) g3) _ _ hz2 hay
          have hsplit : costN ops r = costN ops (r.take (k + 1)) + costN ops (r.drop (k + 1)) := by rw [← costN_append, List.take_append_drop]
          rw [het, costN_snocB g2] at hsplit
          rw [het]
          exact ⟨_, .snoc hv g2 g3 hlow.2 (by omega)⟩
      obtain ⟨vs, hv⟩ := key r.length (Nat.le_refl _) y (by rw [List.take_length]; exact hry)
      rw [List.take_length] at hv
      obtain ⟨p', hp', hle, _⟩ := hP.all hv
      have := hmin y p' hp' hay
      rw [wayN_split] at hle
      omega
  obtain ⟨G, hG, hs⟩ := hd.side h0 hL
  obtain ⟨out, e, hch, hes, hlo⟩ := hs.back (fun y c hc => (nextG_price h0 y c (hG y c hc)).1) hp
  rw [List.mem_singleton] at hes
  subst hes
  obtain ⟨r1, w1⟩ := hs.chainF (fun y c hc => nextG_only y c (hG y c hc)) hch hp
  have heq : wayN 4096 1 ops out.reverse = p := by have := least _ _ r1 ha; omega
  exact ⟨p, out, hp, hch, hlo, r1, heq, .inr ⟨hp0, ⟨_, _, r1, ha, heq⟩, least⟩, by omega⟩
/-- The bounds end without a goal state: there is no plan. -/
theorem deep_none (hsh : Shut ops L) (h0 : ∀ o ∈ ops, 0 ≤ o.cost ∧ o.cost ≤ 100) (hL : L.length ≤ 2000) (hcl : ∀ p y, runOps ops st p = some y → y ∈ L) (ad : Adm ops L acc H) (hst : st ∈ L) {bs : List Int} {n : Int} (hr : RunTo ops st L acc H bs n b) (hb : 1000000000 ≤ b) : LeastOf 4096 1 ops st acc (-1) := by
  refine .inl ⟨rfl, fun p y hp => ?_⟩
  cases ha : acc y with
  | false => rfl
  | true =>
    obtain ⟨q, h1, h2, h3⟩ := short_run h0 hcl p.length (Nat.le_refl _) hp
    have h4 := hr.low hsh ad hst h1 ha
    have h5 := (costN_bound h0 q).2
    omega
end

end Go.Proofs.YtkjmgafnaddhkaaGreat

namespace Go.Proofs.YtkjmgafnaddhkaaGreat
open Go.RowKit

/-- The stamps of a map's entries: no two alike, each below the clock. -/
def Stamp (w : World) (b : Nat) : Prop := ∃ es c, w.heap[b]? = some (.map es c) ∧ (∀ x ∈ es.toList, x.born < c) ∧ (es.toList.map (·.born)).Nodup
theorem Stamp.keeps {S : Nat → Prop} {w w' : World} {b : Nat} (h : Stamp w b) (hk : Keeps S w w') (hs : ¬ S b) : Stamp w' b := by
  obtain ⟨es, c, h1, h2⟩ := h
  exact ⟨es, c, hk.heap h1 hs, h2⟩
theorem Stamp.made (w : World) : Stamp (w.alloc (.map #[] 0)) w.heap.size := ⟨#[], 0, MapKept.heap_alloc w _ |>.1, by simp, by simp⟩
section
variable {α : Type} {w : World} {b : Nat} {enc : α → Value} {f : Nat → Option α} {P : Program} {t k e : TypeId}
theorem Stamp.put {w' : World} (hs : Stamp w b) (h : FMap w b enc f) (ht : P.underlying t = some (.map k e)) (hk : P.underlying k = some (.int .u32)) {x : Nat} {v : Value} (hr : (Instr.mapUpdate t (.map (some b)) (.int .u32 (x : Int)) v).run P w = .ok () w') : Stamp w' b := by
  obtain ⟨l0, ⟨es, c, hb, he⟩, hn0, hf⟩ := h
  obtain ⟨es', c', hb', h1, h2⟩ := hs
  rw [hb] at hb'
  simp only [Option.some.injEq, Obj.map.injEq] at hb'
  obtain ⟨rfl, rfl⟩ := hb'
  have hn := fkeys_nodup (enc := enc) hn0
  cases hx : f x with
  | none =>
    have hf2 := run_findKey_none (P := P) (w := w) hk he (fkeys_miss hf hx)
    have hw : (Instr.mapUpdate t (.map (some b)) (.int .u32 (x : Int)) v).run P w = .ok () { w with heap := w.heap.setIfInBounds b (.map (es.push { key := .int .u32 (x : Int), val := v, born := c }) (c + 1)) } := by
      simp [Instr.mapUpdate, run_underlying ht, MapKept.run_getObj_map hb, run_checkKey_int hk, hf2, MapKept.run_setObj_map _ hb, Result.andThen]
    rw [hw] at hr
    simp only [Result.ok.injEq, true_and] at hr
    subst hr
    refine ⟨_, _, heap_setObj hb, fun y hy => ?_, ?_⟩
    · rw [Array.toList_push] at hy
      rcases List.mem_append.1 hy with hy | hy
      · have := h1 y hy; omega
      · rw [List.mem_singleton] at hy; subst hy; simp
    · rw [Array.toList_push, List.map_append, List.nodup_append]
      refine ⟨h2, by simp, fun a ha d hd had => ?_⟩
      obtain ⟨y, hy, rfl⟩ := List.mem_map.1 ha
      simp only [List.map_cons, List.map_nil, List.mem_singleton] at hd
      have := h1 y hy; omega
  | some u =>
    have hm : ((x : Int), enc u) ∈ l0.map fun p => ((p.1 : Int), enc p.2) := List.mem_map.2 ⟨(x, u), (hf x u).1 hx, rfl⟩
    obtain ⟨j, hj⟩ := List.mem_iff_getElem?.1 hm
    have hf2 := run_findKey_some (P := P) (w := w) hk hn he hj
    have hkey : ((es[j]?).map (·.key)).getD (.int .u32 (x : Int)) = .int .u32 (x : Int) := by
      have : (es.toList.map (fun e => (e.key, e.val)))[j]? = some (.int .u32 (x : Int), enc u) := by rw [he, List.getElem?_map, hj]; rfl
      rw [List.getElem?_map] at this
      simp at this
      obtain ⟨a, ha, hb, hc⟩ := this
      simp [ha, hb]
    have hstay : (Instr.keyThatStays (.int .u32 (x : Int)) (.int .u32 (x : Int))).run P w = .ok (.int .u32 (x : Int)) w := by
      have : Instr.sameBits (9999 + 1) (.int .u32 (x : Int)) (.int .u32 (x : Int)) = true := by simp [Instr.sameBits]
      unfold Instr.keyThatStays
      rw [if_pos this]; rfl
    have hw : (Instr.mapUpdate t (.map (some b)) (.int .u32 (x : Int)) v).run P w = .ok () { w with heap := w.heap.setIfInBounds b (.map (es.modify j fun e => { e with key := .int .u32 (x : Int), val := v }) c) } := by
      simp [Instr.mapUpdate, run_underlying ht, MapKept.run_getObj_map hb, run_checkKey_int hk, hf2, hkey, hstay, MapKept.run_setObj_map _ hb, Result.andThen]
    rw [hw] at hr
    simp only [Result.ok.injEq, true_and] at hr
    subst hr
    have hmap : (es.modify j fun e => { e with key := .int .u32 (x : Int), val := v }).toList.map (·.born) = es.toList.map (·.born) := by
      apply List.ext_getElem?
      intro i
      simp only [List.getElem?_map, Array.getElem?_toList]
      rw [Array.getElem?_modify]
      by_cases hij : j = i
      · subst hij; cases es[j]? <;> simp
      · simp [hij]
    refine ⟨_, _, heap_setObj hb, fun y hy => ?_, by rw [hmap]; exact h2⟩
    have : y.born ∈ es.toList.map (·.born) := by rw [← hmap]; exact List.mem_map.2 ⟨y, hy, rfl⟩
    obtain ⟨z, hz, hzb⟩ := List.mem_map.1 this
    rw [← hzb]; exact h1 z hz

/-- Block r ranges over the map of block b; left: the keys that are still to come, cnt of them. -/
def RgF (w : World) (b r : Nat) (enc : α → Value) (f : Nat → Option α) (left : Nat → Bool) (cnt : Nat) : Prop :=
  ∃ es c since seen c0, ∃ l : List (Nat × α), w.heap[b]? = some (.map es c) ∧ es.toList.map (fun e => (e.key, e.val)) = l.map (fun p => (Value.int .u32 (p.1 : Int), enc p.2)) ∧ (l.map Prod.fst).Nodup ∧ (∀ x v, f x = some v ↔ (x, v) ∈ l) ∧
    w.heap[r]? = some (.mapIter (some b) since seen c0) ∧ (∀ x ∈ es.toList, x.born < since) ∧ (es.toList.map (·.born)).Nodup ∧ since ≤ c0 ∧ since ≤ c ∧ (leftOf es seen).size = cnt ∧
    (∀ (i : Nat) (x : Nat) (v : α) (y : MapEntry), l[i]? = some (x, v) → es[i]? = some y → left x = !seen.contains y.born) ∧ ∀ x, left x = true → (f x).isSome = true
theorem RgF.keeps {S : Nat → Prop} {w' : World} {r : Nat} {left : Nat → Bool} {cnt : Nat} (h : RgF w b r enc f left cnt) (hk : Keeps S w w') (hb : ¬ S b) (hr : ¬ S r) : RgF w' b r enc f left cnt := by
  obtain ⟨es, c, since, seen, c0, l, h1, h2, h3, h4, h5, h6⟩ := h
  exact ⟨es, c, since, seen, c0, l, hk.heap h1 hb, h2, h3, h4, hk.heap h5 hr, h6⟩
theorem RgF.lt {r : Nat} {left : Nat → Bool} {cnt : Nat} (h : RgF w b r enc f left cnt) : r < w.heap.size := by
  obtain ⟨es, c, since, seen, c0, l, _, _, _, _, h5, _⟩ := h
  exact lt_of_heap h5
theorem RgF.nd {r : Nat} {left : Nat → Bool} {cnt : Nat} (h : RgF w b r enc f left cnt) : w.heap[r]? ≠ some (.deferred (some [])) := by
  obtain ⟨es, c, since, seen, c0, l, _, _, _, _, h5, _⟩ := h
  rw [h5]; simp
theorem RgF.fmap {r : Nat} {left : Nat → Bool} {cnt : Nat} (h : RgF w b r enc f left cnt) : FMap w b enc f := by
  obtain ⟨es, c, since, seen, c0, l, h1, h2, h3, h4, _⟩ := h
  exact ⟨l, ⟨es, c, h1, by rw [h2, List.map_map]; rfl⟩, h3, h4⟩
/-- 'range m'. -/
theorem FMap.range (h : FMap w b enc f) (hs : Stamp w b) (ht : P.underlying t = some (.map k e)) : ∃ (w' : World) (n : Nat), (Instr.range t (.map (some b))).run P w = .ok (.pointer (some ⟨w.heap.size, 0, none⟩)) w' ∧ RgF w' b w.heap.size enc f (fun x => (f x).isSome) n ∧ Keeps (fun _ => False) w w' := by
  have hlt := h.lt
  obtain ⟨l, ⟨es, c, hb, he⟩, hn, hf⟩ := h
  obtain ⟨es', c', hb', h1, h2⟩ := hs
  rw [hb] at hb'
  simp only [Option.some.injEq, Obj.map.injEq] at hb'
  obtain ⟨rfl, rfl⟩ := hb'
  have hk := (Keeps.refl (fun _ => False) w).alloc (.mapIter (some b) c #[] c)
  refine ⟨_, _, run_range_map w t k e b es c ht hb, ⟨es, c, c, #[], c, l, hk.heap hb (fun h => h), by rw [he, List.map_map]; rfl, hn, hf, heap_alloc_new w _, h1, h2, Nat.le_refl _, Nat.le_refl _, rfl, fun i x v y hi hy => ?_, fun x hx => hx⟩, hk⟩
  dsimp only
  rw [(hf x v).2 (List.mem_of_getElem? hi)]
  simp
/-- The step. -/
theorem RgF.next {r : Nat} {left : Nat → Bool} {cnt : Nat} (h : RgF w b r enc f left cnt) (P : Program) :
    ((∀ x, left x = false) ∧ ∀ ty, (Instr.next (.pointer (some ⟨r, 0, none⟩)) false ty).run P w = .ok (.tuple #[.bool false]) w) ∨
    ∃ (x : Nat) (v : α) (w' : World) (cnt' : Nat), left x = true ∧ f x = some v ∧ (∀ ty, (Instr.next (.pointer (some ⟨r, 0, none⟩)) false ty).run P w = .ok (.tuple #[.bool true, .int .u32 (x : Int), enc v]) w') ∧ (Instr.entry (.pointer (some ⟨r, 0, none⟩))).run P w' = .ok (.tuple #[.int .u32 (x : Int), enc v]) w' ∧
      RgF w' b r enc f (fun z => left z && decide (z ≠ x)) cnt' ∧ cnt' < cnt ∧ Keeps (fun j => j = r) w w' := by
  obtain ⟨es, c, since, seen, c0, l, hb, he, hn, hf, hr, hold, hnb, hsc, hsk, hcnt, hleft, hdom⟩ := h
  have hll : es.toList.length = l.length := by have := congrArg List.length he; simpa using this
  have at_ : ∀ (i : Nat) (y : MapEntry), es[i]? = some y → ∃ p, l[i]? = some p ∧ y.key = .int .u32 (p.1 : Int) ∧ y.val = enc p.2 := fun i y hy => by
    have h1 : (es.toList.map (fun e => (e.key, e.val)))[i]? = some (y.key, y.val) := by rw [List.getElem?_map, Array.getElem?_toList, hy]; rfl
    rw [he, List.getElem?_map] at h1
    cases hp : l[i]? with
    | none => rw [hp] at h1; cases h1
    | some p => rw [hp] at h1; simp at h1; exact ⟨p, rfl, h1.1.symm, h1.2.symm⟩
  have hne : r ≠ b := fun e => by rw [e, hb] at hr; cases hr
  by_cases h0 : (leftOf es seen).size = 0
  · left
    refine ⟨fun x => ?_, fun ty => ?_⟩
    · cases hx : left x with
      | false => rfl
      | true =>
        exfalso
        obtain ⟨v, hv⟩ := Option.isSome_iff_exists.1 (hdom x hx)
        obtain ⟨i, hi⟩ := List.mem_iff_getElem?.1 ((hf x v).1 hv)
        obtain ⟨y, hy⟩ : ∃ y, es[i]? = some y := ⟨_, Array.getElem?_eq_getElem (by have := (List.getElem?_eq_some_iff.1 hi).1; rw [Array.length_toList] at hll; omega)⟩
        have h1 := hleft i x v y hi hy
        rw [hx] at h1
        have h2 : y ∈ leftOf es seen := by
          unfold leftOf
          exact Array.mem_filter.2 ⟨Array.mem_of_getElem? hy, h1.symm⟩
        rw [Array.eq_empty_of_size_eq_zero h0] at h2
        simp at h2
    · rcases run_next_at (P := P) w ty r b since c0 seen es c hr hb hold hsc with h1 | ⟨e, he2, _⟩
      · exact h1.2
      · rw [Array.eq_empty_of_size_eq_zero h0] at he2; simp at he2
  · right
    rcases run_next_at (P := P) w 0 r b since c0 seen es c hr hb hold hsc with h1 | ⟨y, hy, w1, hw1, hrun⟩
    · exact absurd h1.1 h0
    · have hymem : y ∈ es.toList := by
        unfold leftOf at hy
        have := Array.mem_filter.1 (Array.mem_toList_iff.1 hy)
        exact Array.mem_toList_iff.2 this.1
      have hyun : seen.contains y.born = false := by
        unfold leftOf at hy
        have := (Array.mem_filter.1 (Array.mem_toList_iff.1 hy)).2
        simpa using this
      obtain ⟨i, hi⟩ := List.mem_iff_getElem?.1 hymem
      rw [Array.getElem?_toList] at hi
      obtain ⟨⟨x, v⟩, hp, hkey, hval⟩ := at_ i y hi
      have hfx := (hf x v).2 (List.mem_of_getElem? hp)
      have hlx : left x = true := by rw [hleft i x v y hp hi, hyun]; rfl
      have hr1 : w1.heap[r]? = some (.mapIter (some b) since seen c0) := by rcases hw1 with rfl | rfl <;> exact hr
      have hb1 : w1.heap[b]? = some (.map es c) := by rcases hw1 with rfl | rfl <;> exact hb
      have k1 : Keeps (fun j => j = r) w w1 := by
        rcases hw1 with rfl | rfl
        · exact Keeps.refl _ _
        · exact (Keeps.refl _ w).drew
      have k2 : Keeps (fun j => j = r) w1 (ChangeMaps.setBlock w1 r (.mapIter (some b) since (seen.push y.born) c)) := keeps_setObj _ _ _
      have hr2 : (ChangeMaps.setBlock w1 r (.mapIter (some b) since (seen.push y.born) c)).heap[r]? = some (.mapIter (some b) since (seen.push y.born) c) := by
        show (w1.heap.setIfInBounds r _)[r]? = _
        rw [Array.getElem?_setIfInBounds, if_pos rfl, if_pos (lt_of_heap hr1)]
      have hb2 : (ChangeMaps.setBlock w1 r (.mapIter (some b) since (seen.push y.born) c)).heap[b]? = some (.map es c) := k2.heap hb1 (fun e => hne e.symm)
      have hlt : (leftOf es (seen.push y.born)).size < (leftOf es seen).size := by
        have e1 : leftOf es (seen.push y.born) = (leftOf es seen).filter fun z => z.born != y.born := by
          unfold leftOf
          rw [Array.filter_filter]
          apply congrArg (fun p => Array.filter p es)
          funext z
          rw [Array.contains_push]
          cases seen.contains z.born <;> simp [bne, Bool.beq_comm]
        rw [e1]
        rw [← Array.length_toList, Array.toList_filter, ← Array.length_toList]
        exact List.length_filter_lt_length_iff_exists.2 ⟨y, hy, by simp⟩
      refine ⟨x, v, _, _, hlx, hfx, fun ty => ?_, ?_, ⟨es, c, since, seen.push y.born, c, l, hb2, he, hn, hf, hr2, hold, hnb, hsk, hsk, rfl, fun j z u y' hj hy' => ?_, fun z hz => ?_⟩, by omega, k1.trans k2⟩
      · have e : (Instr.next (.pointer (some ⟨r, 0, none⟩)) false ty).run P w = (Instr.next (.pointer (some ⟨r, 0, none⟩)) false 0).run P w := rfl
        rw [e, hrun, hkey, hval]
      · have := run_entry_at (P := P) (ChangeMaps.setBlock w1 r (.mapIter (some b) since (seen.push y.born) c)) r b since seen es c y hr2 hb2 hymem hnb
        rw [this, hkey, hval]
      · dsimp only
        rw [hleft j z u y' hj hy', Array.contains_push]
        by_cases hzx : z = x
        · subst hzx
          have hji : j = i := nodup_ix hn (i := j) (j := i) (x := z) (by rw [List.getElem?_map, hj]; rfl) (by rw [List.getElem?_map, hp]; rfl)
          subst hji
          rw [hi] at hy'; cases hy'
          simp
        · have hb3 : ¬ y'.born = y.born := fun e => by
            have e2 := born_inj hnb (Array.mem_toList_iff.2 (Array.mem_of_getElem? hy')) hymem e
            subst e2
            obtain ⟨p', hp', hkey', _⟩ := at_ j y' hy'
            rw [hj] at hp'; cases hp'
            rw [hkey] at hkey'
            simp at hkey'
            exact hzx (by omega)
          cases seen.contains y'.born <;> simp [hzx, hb3]
      · exact hdom z (by simp at hz; exact hz.1)
end

end Go.Proofs.YtkjmgafnaddhkaaGreat
