/- The example task of the laws; breadth's example. breadth: the law that Plan is the reference's. space.Distances, space.Optimal. Plans and the table of costs, in plain words. The least price of a plan, in plain Lean: what a search for best plans must find. A search from both ends, in plain Lean: what its two sides know, and that they have met on a best way when it ends. A map with whole numbers as keys, as a function that is not defined everywhere. What the walks of Not and Exists share: boxes, a map of the nodes that are done, and a store. diagram.Store: Not. diagram.Store: Exists. diagram.Store: Cube. diagram.Store: Pick. No condition beyond what each theorem says. -/
import Derived.Test.YtjcgkmodmjckjaaGreatP5
import Derived.Test.YtjcgkmodmjckjaaGreatP6
import Derived.Lib.SlicesCompact
import Derived.Test.YtjcgkmodmjckjaaGreatP3
import Derived.StillTailTactics

namespace Go.Proofs.YtjcgkmodmjckjaaGreat
open Go.RowKit

def stepT : Tsk := ⟨1, [], [0], [⟨[], [0], [], 3⟩]⟩

theorem Ints.nil (w : World) : Ints w (.slice none 0 0) [] := ⟨none, 0, rfl, by simp, fun h => by simp at h⟩
theorem Ints.one {w : World} {b : Nat} {x : Int} {T : TypeId} (h : w.heap[b]? = some (.cells #[.int .i64 x] T (0, 0))) : Ints w (.slice (some ⟨b, 0, none⟩) 1 1) [x] := by
  refine ⟨_, _, rfl, by simp [maxLen], fun _ => ⟨b, 0, rfl, fun j y hj => ?_⟩⟩
  rw [Nat.zero_add, cell_of_blk h]
  cases j with
  | zero => simpa using hj
  | succ j => simp at hj

set_option maxRecDepth 100000 in
theorem step_any (w : World) : Calls Tryz.prog 20 #[] w fun e w' => ∃ vi vg vo, e = .returned (.agg #[.int .i64 1, vi, vg, vo]) ∧ TaskAt w' vi vg vo stepT ∧ Keeps (fun _ => False) w w' := by
  go_enter Tryz.func20, Tryz.ntmps20
  go_wp2_with fail
  generalize hw1 : w.alloc (Obj.cells #[.int .i64 1, .slice none 0 0, .slice (some ⟨w.heap.size + 1, 0, none⟩) 1 1, .slice (some ⟨w.heap.size + 1 + 1 + 1, 0, none⟩) 1 1] 25) = w1
  have s1 : w1.heap.size = w.heap.size + 1 := by rw [← hw1]; simp
  have k1 : Keeps (fun _ => False) w w1 := by rw [← hw1]; exact (Keeps.refl _ _).alloc _
  have b1 : w1.heap[w.heap.size]? = some (.cells #[.int .i64 1, .slice none 0 0, .slice (some ⟨w.heap.size + 1, 0, none⟩) 1 1, .slice (some ⟨w.heap.size + 1 + 1 + 1, 0, none⟩) 1 1] 25 (0, 0)) := by rw [← hw1]; exact heap_alloc_new _ _
  clear hw1
  have b2 := heap_alloc_new w1 (.cells #[.int .i64 0] 3)
  have k2 := (Keeps.refl (fun _ => False) w1).alloc (.cells #[.int .i64 0] 3)
  have s2 : (w1.alloc (.cells #[.int .i64 0] 3)).heap.size = w1.heap.size + 1 := by simp
  generalize w1.alloc (.cells #[.int .i64 0] 3) = w2 at b2 k2 s2 ⊢
  have b3 := heap_alloc_new w2 (.cells #[.int .i64 0] 3)
  have k3 := (Keeps.refl (fun _ => False) w2).alloc (.cells #[.int .i64 0] 3)
  have s3 : (w2.alloc (.cells #[.int .i64 0] 3)).heap.size = w2.heap.size + 1 := by simp
  generalize w2.alloc (.cells #[.int .i64 0] 3) = w3 at b3 k3 s3 ⊢
  have b4 := heap_alloc_new w3 (.cells #[.slice none 0 0, .slice (some ⟨w.heap.size + 1 + 1, 0, none⟩) 1 1, .slice none 0 0, .int .i64 3] 72)
  have k4 := (Keeps.refl (fun _ => False) w3).alloc (.cells #[.slice none 0 0, .slice (some ⟨w.heap.size + 1 + 1, 0, none⟩) 1 1, .slice none 0 0, .int .i64 3] 72)
  generalize w3.alloc (.cells #[.slice none 0 0, .slice (some ⟨w.heap.size + 1 + 1, 0, none⟩) 1 1, .slice none 0 0, .int .i64 3] 72) = w4 at b4 k4 ⊢
  have k14 := k2.trans (k3.trans k4)
  refine bodyPost_ret (results_cell_row rfl _ _ w.heap.size 25 _ (0, 0) _ rfl (k14.heap b1 (fun h => h)) Tryz.underlying25 rfl (by kernel_rfl)) rfl ?_
  have e1 : w1.heap.size = w.heap.size + 1 := s1
  have e2 : w2.heap.size = w.heap.size + 1 + 1 := by omega
  have e3 : w3.heap.size = w.heap.size + 1 + 1 + 1 := by omega
  rw [e1] at b2; rw [e2] at b3; rw [e3] at b4
  refine ⟨_, _, _, rfl, ⟨Ints.nil _, Ints.one ((k3.trans k4).heap b2 (fun h => h)), ⟨_, _, rfl, by simp [maxLen, stepT], fun _ => ⟨_, 0, rfl, fun i o ho => ?_⟩⟩⟩, k1.trans k14⟩
  cases i with
  | zero =>
    simp [stepT] at ho; subst ho
    refine ⟨.slice none 0 0, .slice (some ⟨w.heap.size + 1 + 1, 0, none⟩) 1 1, .slice none 0 0, ?_, ?_, ?_, ?_, Ints.nil _, Ints.one (k4.heap b3 (fun h => h)), Ints.nil _⟩
    all_goals (rw [cell_of_blk b4]; rfl)
  | succ i => simp [stepT] at ho

theorem stepT_ok : taskFault stepT = (0, 0) := by decide
theorem stepT_reached : explored stepT = some [0, 1] := reached_of_end (i := 2) (by decide) rfl
end Go.Proofs.YtjcgkmodmjckjaaGreat

namespace Go.Proofs.YtjcgkmodmjckjaaGreat
open Go.RowKit

theorem goalW_goalB {t : Tsk} (ok : t.Ok) {x : Nat} (hx : Good t.n x) : goalW t x = goalB (wd t.goal) x := by
  have h := appL_word (n := t.n) (o := ⟨t.goal, [], [], 0⟩) ⟨ok.goal, by rfl, by rfl, by rfl, by simp, by simp⟩ hx.1
  rw [hx.2] at h
  exact h

theorem good_next_mem {t : Tsk} (ok : t.Ok) {x y : Nat} (hx : Good t.n x) (hy : y ∈ nexts (wordsOf t.ops) x) : Good t.n y := by
  unfold nexts at hy
  obtain ⟨wo, hwo, rfl⟩ := List.mem_map.1 hy
  have hm := (List.mem_filter.1 hwo).1
  unfold wordsOf at hm
  obtain ⟨o, ho, rfl⟩ := List.mem_map.1 hm
  exact (good_next (by have := ok.n1; omega) (ok.ops o ho) hx).2.2
theorem good_reach {t : Tsk} (ok : t.Ok) {s x : Nat} (hs : Good t.n s) (h : Reach (wordsOf t.ops) s x) : Good t.n x := by
  induction h with
  | refl => exact hs
  | step _ hy ih => exact good_next_mem ok ih hy
theorem good_explored {t : Tsk} (ok : t.Ok) {L : List Nat} (h : explored t = some L) : ∀ x ∈ L, Good t.n x := by
  intro x hx
  exact good_reach ok (good_wd (by have := ok.n1; omega) ok.init) (((reached_some h).2.2.2 x).1 hx)
theorem goals_eq {t : Tsk} (ok : t.Ok) {L : List Nat} (h : ∀ x ∈ L, Good t.n x) : L.map (goalW t) = L.map (goalB (wd t.goal)) := by
  apply List.map_congr_left
  intro x hx
  exact goalW_goalB ok (h x hx)

end Go.Proofs.YtjcgkmodmjckjaaGreat

namespace Go.Proofs.YtjcgkmodmjckjaaGreat
open Go.RowKit

/-- What Costs asks for. -/
theorem costs_need {t : Tsk} (ok : t.Ok) {l ws : List Nat} (hx : explored t = some l) (hp : ws.Perm l) :
    wd t.init < 4294967296 ∧ wd t.goal < 4294967296 ∧ (wordsOf t.ops).length ≤ 40 ∧ Shut (wordsOf t.ops) ws ∧ ws.length ≤ 2000 ∧ (∀ x ∈ ws, x < 4294967296) ∧ (∀ o ∈ wordsOf t.ops, 0 ≤ o.cost ∧ o.cost ≤ 1000000) ∧ wd t.init ∈ ws := by
  have hs32 : wd t.init < 4294967296 := wd_lt32 (by have := ok.n1; omega : t.n ≤ 32) ok.init
  have hg32 : wd t.goal < 4294967296 := wd_lt32 (by have := ok.n1; omega : t.n ≤ 32) ok.goal
  have hsh := shut_reached (ops := wordsOf t.ops) (s := wd t.init) (L := l) hx
  have hr := reached_some (ops := wordsOf t.ops) (s := wd t.init) (l := l) hx
  refine ⟨hs32, hg32, by unfold wordsOf; rw [List.length_map]; exact ok.few, ⟨hp.nodup_iff.2 hsh.1, fun x h o ho hc => hp.mem_iff.2 (hsh.2 x (hp.mem_iff.1 h) o ho hc)⟩, by rw [hp.length_eq]; exact hr.2.1, fun x h => reach_small (wops_ok ok) hs32 ((hr.2.2.2 x).1 (hp.mem_iff.1 h)), fun o ho => ?_, hp.mem_iff.2 (List.mem_of_getElem? hr.2.2.1)⟩
  unfold wordsOf at ho
  obtain ⟨o', ho', rfl⟩ := List.mem_map.1 ho
  have h := ok.ops o' ho'
  have hc : o'.word.cost = o'.cost := rfl
  rw [hc]
  exact ⟨h.cost0, by have := h.cost1; omega⟩

end Go.Proofs.YtjcgkmodmjckjaaGreat

/- space's example. -/
namespace Go.Proofs.YtjcgkmodmjckjaaGreat
open Go.RowKit

end Go.Proofs.YtjcgkmodmjckjaaGreat

/- space: the law that the functions are the reference's. -/
namespace Go.Proofs.YtjcgkmodmjckjaaGreat
open Go.RowKit

theorem exp_cases (t : Tsk) : (∃ c i, c ≠ 0 ∧ expF t = (c, i)) ∨ (t.Ok ∧ ∃ l, explored t = some l ∧ expF t = (0, 0)) := by
  unfold expF
  by_cases h : (taskFault t).1 = 0
  · rw [if_pos h]
    cases hx : explored t with
    | none => exact .inl ⟨10, -7, by decide, rfl⟩
    | some l => exact .inr ⟨taskFault_zero.1 h, l, rfl, rfl⟩
  · rw [if_neg h]
    exact .inl ⟨_, _, h, rfl⟩
theorem exp_none {t : Tsk} {c i : Int} (hc : c ≠ 0) (he : expF t = (c, i)) {l : List Nat} (ok : t.Ok) (hx : explored t = some l) : False := by
  unfold expF at he
  rw [if_pos (taskFault_zero.2 ok), hx] at he
  cases he; exact hc rfl

section
variable {w : World} {vi vg vo : Value} {t : Tsk}
end

end Go.Proofs.YtjcgkmodmjckjaaGreat

/- space: SpaceFunctionsMatchSpec walked. -/
namespace Go.Proofs.YtjcgkmodmjckjaaGreat
open Go.RowKit

end Go.Proofs.YtjcgkmodmjckjaaGreat

namespace Go.Proofs.YtjcgkmodmjckjaaGreat

def costN (ops : List Wop) : List Nat → Int
  | [] => 0
  | a :: r => ((ops[a]?.map Wop.cost).getD 0) + costN ops r
theorem costN_bound {ops : List Wop} (h : ∀ o ∈ ops, 0 ≤ o.cost ∧ o.cost ≤ 100) : ∀ p : List Nat, 0 ≤ costN ops p ∧ costN ops p ≤ 100 * (p.length : Int)
  | [] => by simp [costN]
  | a :: r => by
    have h2 := costN_bound h r
    rw [costN]
    cases ho : ops[a]? with
    | none => simp; omega
    | some o =>
      have h1 := h o (List.mem_of_getElem? ho)
      simp; omega

section
variable {ops : List Wop} {L : List Nat} {acc : Nat → Bool} {D : Nat → Int}
/-! ### the finite costs are small -/
def below (L : List Nat) (D : Nat → Int) (z : Int) : Nat := (L.filter fun y => decide (D y < z)).length
end

end Go.Proofs.YtjcgkmodmjckjaaGreat

namespace Go.Proofs.YtjcgkmodmjckjaaGreat

/-- k for each cost, st for each step. -/
def wayN (k st : Int) (ops : List Wop) (p : List Nat) : Int := k * costN ops p + st * (p.length : Int)
theorem wayN_nil (k st : Int) (ops : List Wop) : wayN k st ops [] = 0 := by unfold wayN costN; simp
theorem costN_append (ops : List Wop) : ∀ p q : List Nat, costN ops (p ++ q) = costN ops p + costN ops q
  | [], q => by simp [costN]
  | a :: p, q => by rw [List.cons_append, costN, costN, costN_append ops p q]; omega
theorem wayN_append (k st : Int) (ops : List Wop) (p q : List Nat) : wayN k st ops (p ++ q) = wayN k st ops p + wayN k st ops q := by
  unfold wayN
  rw [costN_append, List.length_append, Int.natCast_add, Int.mul_add, Int.mul_add]; omega
theorem wayN_one {k st : Int} {ops : List Wop} {a : Nat} {o : Wop} (h : ops[a]? = some o) : wayN k st ops [a] = k * o.cost + st := by
  unfold wayN; simp [costN, h]
theorem wayN_low {k st : Int} {ops : List Wop} (hk : 0 ≤ k) (hs : 0 ≤ st) (h0 : ∀ o ∈ ops, 0 ≤ o.cost ∧ o.cost ≤ 100) (p : List Nat) : 0 ≤ wayN k st ops p := by
  have h1 := Int.mul_nonneg hk (costN_bound h0 p).1
  have h2 := Int.mul_nonneg hs (Int.natCast_nonneg p.length)
  unfold wayN; omega

/-- A way of the arcs is a run of the operators, and the other way round. -/
theorem run_of_walk {ops : List Wop} {L : List Nat} {k st : Int} {s i : Nat} {c : Int} (h : WalkA (arcs ops L) (fun a => k * a.cost + st) s i c) {x : Nat} (hx : L[s]? = some x) : ∃ p y, L[i]? = some y ∧ runOps ops x p = some y ∧ wayN k st ops p = c := by
  induction h with
  | nil => exact ⟨[], x, hx, rfl, wayN_nil _ _ _⟩
  | @snoc a _ _ ha ih =>
    obtain ⟨p, y, hy, hr, hc⟩ := ih
    obtain ⟨y', o, h1, h2, h3, h4, h5⟩ := mem_arcs.1 ha
    rw [h1] at hy; cases hy
    refine ⟨p ++ [a.op], _, h5, ?_, ?_⟩
    · rw [runOps_append, hr]; simp [runOps, h2, h3]
    · rw [wayN_append, hc, wayN_one h2, ← h4]
theorem walk_of_run {ops : List Wop} {L : List Nat} (hsh : Shut ops L) {k st : Int} {s : Nat} : ∀ {p : List Nat} {x y i : Nat} {c : Int}, WalkA (arcs ops L) (fun a => k * a.cost + st) s i c → L[i]? = some x → runOps ops x p = some y → ∃ j, L[j]? = some y ∧ WalkA (arcs ops L) (fun a => k * a.cost + st) s j (c + wayN k st ops p)
  | [], x, y, i, c, hw, hi, hr => by cases hr; exact ⟨i, hi, by rw [wayN_nil, Int.add_zero]; exact hw⟩
  | a :: p, x, y, i, c, hw, hi, hr => by
    rw [runOps] at hr
    cases ho : ops[a]? with
    | none => rw [ho] at hr; cases hr
    | some o =>
      rw [ho] at hr; simp only at hr
      by_cases hc : o.can x = true
      · rw [if_pos hc] at hr
        have hm := hsh.2 x (List.mem_of_getElem? hi) o (List.mem_of_getElem? ho) hc
        obtain ⟨j, hj⟩ := List.mem_iff_getElem?.1 hm
        have hd := WalkA.snoc (a := ⟨i, j, a, o.cost⟩) hw (mem_arcs.2 ⟨x, o, hi, ho, hc, rfl, hj⟩)
        obtain ⟨m, hm, hz⟩ := walk_of_run hsh hd hj hr
        refine ⟨m, hm, ?_⟩
        rw [show a :: p = [a] ++ p from rfl, wayN_append, wayN_one ho, ← Int.add_assoc]
        exact hz
      · rw [if_neg hc] at hr; cases hr

/-- b is the least price of a plan, or -1 where there is none. -/
def LeastOf (k st : Int) (ops : List Wop) (s : Nat) (acc : Nat → Bool) (b : Int) : Prop :=
  (b = -1 ∧ ∀ p y, runOps ops s p = some y → acc y = false) ∨
  (0 ≤ b ∧ (∃ p y, runOps ops s p = some y ∧ acc y = true ∧ wayN k st ops p = b) ∧ ∀ p y, runOps ops s p = some y → acc y = true → b ≤ wayN k st ops p)
theorem LeastOf.unique {k st : Int} {ops : List Wop} {s : Nat} {acc : Nat → Bool} {b b' : Int} (h : LeastOf k st ops s acc b) (h' : LeastOf k st ops s acc b') : b = b' := by
  rcases h with ⟨h1, h2⟩ | ⟨h1, ⟨p, y, hp, hy, hb⟩, h3⟩ <;> rcases h' with ⟨g1, g2⟩ | ⟨g1, ⟨q, z, hq, hz, hc⟩, g3⟩
  · rw [h1, g1]
  · rw [h2 q z hq] at hz; cases hz
  · rw [g2 p y hp] at hy; cases hy
  · have := h3 q z hq hz; have := g3 p y hp hy; omega

/-- The least price of the first i places that are goals, or -1. -/
def bestTo (d : List Int) (g : List Bool) : Nat → Int
  | 0 => -1
  | i + 1 => if g[i]? = some true ∧ (bestTo d g i < 0 ∨ d[i]?.getD 0 < bestTo d g i) then d[i]?.getD 0 else bestTo d g i
/-- It is one of the prices, and none is less. -/
theorem bestTo_spec {d : List Int} {g : List Bool} (hl : d.length = g.length) (h : ∀ x ∈ d, 0 ≤ x) : ∀ i, i ≤ d.length →
    (bestTo d g i = -1 ∧ ∀ j, j < i → g[j]? ≠ some true) ∨ (0 ≤ bestTo d g i ∧ (∃ j, j < i ∧ g[j]? = some true ∧ d[j]? = some (bestTo d g i)) ∧ ∀ j x, j < i → g[j]? = some true → d[j]? = some x → bestTo d g i ≤ x)
  | 0, _ => .inl ⟨rfl, fun j hj => by omega⟩
  | i + 1, hi => by
    have ih := bestTo_spec hl h i (by omega)
    obtain ⟨x, hx⟩ : ∃ x, d[i]? = some x := ⟨_, List.getElem?_eq_getElem (by omega)⟩
    have hx0 := h x (List.mem_of_getElem? hx)
    rw [bestTo, hx]
    simp only [Option.getD_some]
    by_cases hg : g[i]? = some true
    · by_cases hb : bestTo d g i < 0 ∨ x < bestTo d g i
      · rw [if_pos ⟨hg, hb⟩]
        refine .inr ⟨hx0, ⟨i, by omega, hg, hx⟩, fun j y hj hgj hy => ?_⟩
        by_cases hji : j = i
        · subst hji; rw [hx] at hy; cases hy; exact Int.le_refl _
        · rcases ih with ⟨_, h2⟩ | ⟨h1, _, h3⟩
          · exact absurd hgj (h2 j (by omega))
          · have := h3 j y (by omega) hgj hy; omega
      · rw [if_neg (fun e => hb e.2)]
        rcases ih with ⟨h1, _⟩ | ⟨h1, ⟨j, hj, hgj, hdj⟩, h3⟩
        · omega
        · refine .inr ⟨h1, ⟨j, by omega, hgj, hdj⟩, fun j' y hj' hgj' hy => ?_⟩
          by_cases hji : j' = i
          · subst hji; rw [hx] at hy; cases hy; omega
          · exact h3 j' y (by omega) hgj' hy
    · rw [if_neg (fun e => hg e.1)]
      rcases ih with ⟨h1, h2⟩ | ⟨h1, ⟨j, hj, hgj, hdj⟩, h3⟩
      · refine .inl ⟨h1, fun j hj => ?_⟩
        by_cases hji : j = i
        · subst hji; exact hg
        · exact h2 j (by omega)
      · refine .inr ⟨h1, ⟨j, by omega, hgj, hdj⟩, fun j' y hj' hgj' hy => ?_⟩
        by_cases hji : j' = i
        · subst hji; exact absurd hgj' hg
        · exact h3 j' y (by omega) hgj' hy

/-- All reached states have a price. -/
theorem PriOk.low {ops : List Wop} {s : Nat} {L : List Nat} (hsh : Shut ops L) (hr : ∀ x ∈ L, ∃ p, runOps ops s p = some x) {i0 : Nat} (h0 : L[i0]? = some s) {k st : Int} {d : List Int} (hA : ∀ a ∈ arcs ops L, 0 ≤ k * a.cost + st) (h : PriOk (arcs ops L) (fun a => k * a.cost + st) L.length i0 d) : ∀ x ∈ d, 0 ≤ x := by
  intro z hz
  obtain ⟨i, hi⟩ := List.mem_iff_getElem?.1 hz
  have hil : i < L.length := by rw [← h.len]; exact (List.getElem?_eq_some_iff.1 hi).1
  obtain ⟨x, hx⟩ : ∃ x, L[i]? = some x := ⟨_, List.getElem?_eq_getElem hil⟩
  obtain ⟨p, hp⟩ := hr x (List.mem_of_getElem? hx)
  obtain ⟨j, hj, hw⟩ := walk_of_run hsh .nil h0 hp
  obtain rfl : j = i := nodup_ix hsh.1 hj hx
  obtain ⟨_, y, hy, hy0, _⟩ := h.walk hA hw
  rw [hi] at hy; cases hy; exact hy0
/-- The least price over the goals is the least price of a plan. -/
theorem best_of_prices {ops : List Wop} {s : Nat} {L : List Nat} (hsh : Shut ops L) (hr : ∀ x ∈ L, ∃ p, runOps ops s p = some x) {i0 : Nat} (h0 : L[i0]? = some s) {k st : Int} {d : List Int} (hA : ∀ a ∈ arcs ops L, 0 ≤ k * a.cost + st) (h : PriOk (arcs ops L) (fun a => k * a.cost + st) L.length i0 d) (acc : Nat → Bool) :
    LeastOf k st ops s acc (bestTo d (L.map acc) L.length) := by
  have hlow := h.low hsh hr h0 hA
  have hlen : d.length = (L.map acc).length := by rw [List.length_map]; exact h.len
  rcases bestTo_spec hlen hlow L.length (by rw [h.len]; exact Nat.le_refl _) with ⟨h1, h2⟩ | ⟨h1, ⟨j, hj, hg, hd⟩, h3⟩
  · refine .inl ⟨h1, fun p y hp => ?_⟩
    obtain ⟨j, hj, _⟩ := walk_of_run hsh (k := k) (st := st) .nil h0 hp
    have := h2 j (List.getElem?_eq_some_iff.1 hj).1
    rw [List.getElem?_map, hj] at this
    simpa using this
  · refine .inr ⟨h1, ?_, fun p y hp hy => ?_⟩
    · obtain ⟨p, y, hy, hr', hc⟩ := run_of_walk (h.real j _ hd h1) h0
      rw [List.getElem?_map, hy] at hg
      exact ⟨p, y, hr', by simpa using hg, hc⟩
    · obtain ⟨m, hm, hw⟩ := walk_of_run hsh (k := k) (st := st) .nil h0 hp
      obtain ⟨_, x, hx, _, hxc⟩ := h.walk hA hw
      have := h3 m x (List.getElem?_eq_some_iff.1 hm).1 (by rw [List.getElem?_map, hm]; simp [hy]) hx
      omega

end Go.Proofs.YtjcgkmodmjckjaaGreat

namespace Go.Proofs.YtjcgkmodmjckjaaGreat

structure SArc where
  op : Nat
  price : Int
  to : Nat

/-- The prices after one of them is set. -/
def putP {α : Type} (P : Nat → Option α) (x : Nat) (v : α) : Nat → Option α := fun y => if y = x then some v else P y
theorem putP_same {α : Type} (P : Nat → Option α) (x : Nat) (v : α) : putP P x v x = some v := by simp [putP]
theorem putP_other {α : Type} (P : Nat → Option α) {x y : Nat} (v : α) (h : y ≠ x) : putP P x v y = P y := by simp [putP, h]
/-! ### where the sides meet -/
/-! ### the end -/
section
variable {ops : List Wop} {L : List Nat} {Gf Gb : Nat → List SArc} {Sf Sb : Nat → Prop} {C : Int} {F B : Nat → Option Int} {pf pb : Nat → Option SArc} {Af Ab : List (Int × Int)} {sf sb : Nat} {best : Int} {at_ : Nat} {found : Bool}
end

end Go.Proofs.YtjcgkmodmjckjaaGreat

namespace Go.Proofs.YtjcgkmodmjckjaaGreat
open Go.RowKit

def NMap {α : Type} (w : World) (b : Nat) (enc : α → Value) (f : Nat → Option α) : Prop :=
  ∃ l : List (Nat × α), IMap w b .i64 (l.map fun p => ((p.1 : Int), enc p.2)) ∧ (l.map Prod.fst).Nodup ∧ ∀ x v, f x = some v ↔ (x, v) ∈ l

section
variable {α : Type} {w : World} {b : Nat} {enc : α → Value} {f : Nat → Option α}
theorem NMap.keeps {S : Nat → Prop} {w' : World} (h : NMap w b enc f) (hk : Keeps S w w') (hs : ¬ S b) : NMap w' b enc f := by
  obtain ⟨l, h1, h2⟩ := h; exact ⟨l, h1.keeps hk hs, h2⟩
theorem NMap.lt (h : NMap w b enc f) : b < w.heap.size := by obtain ⟨l, h1, _⟩ := h; exact h1.lt
theorem NMap.map_block (h : NMap w b enc f) : ∃ es c, w.heap[b]? = some (.map es c) := by obtain ⟨l, ⟨es, c, hb, _⟩, _⟩ := h; exact ⟨es, c, hb⟩
theorem NMap.ne_cells (h : NMap w b enc f) {g : Nat} {cs : Array Value} {T : TypeId} {fr : Nat × Nat} (hg : w.heap[g]? = some (.cells cs T fr)) : b ≠ g := fun e => by
  obtain ⟨es, c, hb⟩ := h.map_block
  rw [e, hg] at hb; cases hb
theorem NMap.made (w : World) (enc : α → Value) : NMap (w.alloc (.map #[] 0)) w.heap.size enc (fun _ => none) :=
  ⟨[], IMap.made w .i64, by simp, fun x v => by simp⟩
theorem nkeys_nodup {l : List (Nat × α)} (h : (l.map Prod.fst).Nodup) : ((l.map fun p => ((p.1 : Int), enc p.2)).map Prod.fst).Nodup := by
  rw [List.map_map]
  have : (l.map ((Prod.fst : Int × Value → Int) ∘ fun p => ((p.1 : Int), enc p.2))) = (l.map Prod.fst).map fun x : Nat => (x : Int) := by rw [List.map_map]; rfl
  rw [this]
  unfold List.Nodup at h ⊢
  rw [List.pairwise_map]
  exact h.imp fun hne e => hne (by omega)
theorem nkeys_miss {l : List (Nat × α)} (hl : ∀ x v, f x = some v ↔ (x, v) ∈ l) {x : Nat} (hx : f x = none) : ∀ p ∈ l.map (fun p => ((p.1 : Int), enc p.2)), p.1 ≠ (x : Int) := fun p hp e => by
  obtain ⟨q, hq, rfl⟩ := List.mem_map.1 hp
  have : q.1 = x := by simp only at e; omega
  have h2 := (hl q.1 q.2).2 hq
  rw [this, hx] at h2; cases h2
variable {P : Program} {t k e : TypeId}
theorem NMap.look_some (h : NMap w b enc f) (ht : P.underlying t = some (.map k e)) (hk : P.underlying k = some (.int .i64)) {x : Nat} {v : α} (hx : f x = some v) :
    (Instr.lookup t (.map (some b)) (.int .i64 (x : Int)) true).run P w = .ok (.tuple #[enc v, .bool true]) w ∧ (Instr.lookup t (.map (some b)) (.int .i64 (x : Int)) false).run P w = .ok (enc v) w := by
  obtain ⟨l, h1, h2, h3⟩ := h
  exact h1.run_lookup_hit ht hk (nkeys_nodup h2) (List.mem_map.2 ⟨(x, v), (h3 x v).1 hx, rfl⟩)
theorem NMap.look_none (h : NMap w b enc f) (ht : P.underlying t = some (.map k e)) (hk : P.underlying k = some (.int .i64)) {z : Value} (hz : (zeroValue e).run P w = .ok z w) {x : Nat} (hx : f x = none) :
    (Instr.lookup t (.map (some b)) (.int .i64 (x : Int)) true).run P w = .ok (.tuple #[z, .bool false]) w ∧ (Instr.lookup t (.map (some b)) (.int .i64 (x : Int)) false).run P w = .ok z w := by
  obtain ⟨l, h1, _, h3⟩ := h
  exact h1.run_lookup_miss ht hk hz (nkeys_miss h3 hx)
/-- A store. -/
theorem NMap.put (h : NMap w b enc f) (ht : P.underlying t = some (.map k e)) (hk : P.underlying k = some (.int .i64)) (x : Nat) (v : α) :
    ∃ w', (Instr.mapUpdate t (.map (some b)) (.int .i64 (x : Int)) (enc v)).run P w = .ok () w' ∧ NMap w' b enc (putP f x v) ∧ Keeps (fun j => j = b) w w' := by
  obtain ⟨l, h1, h2, h3⟩ := h
  cases hx : f x with
  | none =>
    obtain ⟨w', hr, hi, hk'⟩ := h1.run_update_new ht hk (nkeys_miss h3 hx) (enc v)
    refine ⟨w', hr, ⟨l ++ [(x, v)], by rw [List.map_append]; exact hi, ?_, fun y u => ?_⟩, hk'⟩
    · rw [List.map_append, List.nodup_append]
      refine ⟨h2, by simp, fun a ha c hc hac => ?_⟩
      simp only [List.map_cons, List.map_nil, List.mem_singleton] at hc
      obtain ⟨q, hq, rfl⟩ := List.mem_map.1 ha
      have h4 := (h3 q.1 q.2).2 hq
      rw [hac, hc, hx] at h4; cases h4
    · by_cases hy : y = x
      · subst hy
        rw [putP_same, List.mem_append]
        constructor
        · intro h; cases h; exact .inr (by simp)
        · rintro (h | h)
          · have := (h3 y u).2 h; rw [hx] at this; cases this
          · simp at h; rw [h]
      · rw [putP_other f v hy, h3 y u, List.mem_append]
        constructor
        · exact .inl
        · rintro (h | h)
          · exact h
          · simp at h; exact absurd h.1 hy
  | some u0 =>
    obtain ⟨j, hj⟩ := List.mem_iff_getElem?.1 ((h3 x u0).1 hx)
    obtain ⟨w', hr, hi, hk'⟩ := h1.run_update_old ht hk (nkeys_nodup h2) (x := (x : Int)) (u := enc u0) (j := j) (by rw [List.getElem?_map, hj]; rfl) (enc v)
    have hjl := (List.getElem?_eq_some_iff.1 hj).1
    have hkeys : (l.set j (x, v)).map Prod.fst = l.map Prod.fst := by
      apply List.ext_getElem?
      intro n
      rw [List.getElem?_map, List.getElem?_map]
      by_cases hn : n = j
      · subst hn; rw [List.getElem?_set_self hjl, hj]; rfl
      · rw [List.getElem?_set_ne (fun e => hn e.symm)]
    refine ⟨w', hr, ⟨l.set j (x, v), by rw [List.map_set]; exact hi, by rw [hkeys]; exact h2, fun y u => ?_⟩, hk'⟩
    have uniq : ∀ n q, l[n]? = some q → q.1 = x → n = j := fun n q hq hqx => by
      have e1 : (l.map Prod.fst)[n]? = some x := by rw [List.getElem?_map, hq]; simp [hqx]
      have e2 : (l.map Prod.fst)[j]? = some x := by rw [List.getElem?_map, hj]; rfl
      exact nodup_ix h2 e1 e2
    by_cases hy : y = x
    · subst hy
      rw [putP_same]
      constructor
      · intro h; cases h
        exact List.mem_of_getElem? (List.getElem?_set_self hjl)
      · intro h
        obtain ⟨n, hn⟩ := List.mem_iff_getElem?.1 h
        by_cases hnj : n = j
        · subst hnj; rw [List.getElem?_set_self hjl] at hn; cases hn; rfl
        · rw [List.getElem?_set_ne (fun e => hnj e.symm)] at hn
          exact absurd (uniq n _ hn rfl) hnj
    · rw [putP_other f v hy, h3 y u]
      constructor
      · intro h
        obtain ⟨n, hn⟩ := List.mem_iff_getElem?.1 h
        have hnj : n ≠ j := fun e => by subst e; rw [hj] at hn; cases hn; exact hy rfl
        exact List.mem_of_getElem? (i := n) (by rw [List.getElem?_set_ne (fun e => hnj e.symm)]; exact hn)
      · intro h
        obtain ⟨n, hn⟩ := List.mem_iff_getElem?.1 h
        by_cases hnj : n = j
        · subst hnj; rw [List.getElem?_set_self hjl] at hn; cases hn; exact absurd rfl hy
        · rw [List.getElem?_set_ne (fun e => hnj e.symm)] at hn
          exact List.mem_of_getElem? hn
end

end Go.Proofs.YtjcgkmodmjckjaaGreat

namespace Go.Proofs.YtjcgkmodmjckjaaGreat
open Go.RowKit

def natV (n : Nat) : Value := .int .i64 (n : Int)
/-- What is known is right: the node x says of every set what T makes of what k says. -/
def KnOk (T : (Nat → Bool) → Nat → Bool) (L : Nat) (N : List Dn) (kn : Nat → Option Nat) : Prop :=
  ∀ k x, kn k = some x → k < N.length + 2 ∧ x < N.length + 2 ∧ lev L N k ≤ lev L N x ∧ ∀ m, dv N x m = T (dv N k) m
theorem KnOk.le {T : (Nat → Bool) → Nat → Bool} {L : Nat} {N N' : List Dn} {kn : Nat → Option Nat} (h : KnOk T L N kn) (ok : DgOk L N) (hl : DgLe N N') : KnOk T L N' kn := fun k x hx => by
  obtain ⟨h1, h2, h3, h4⟩ := h k x hx
  have := hl.len
  refine ⟨by omega, by omega, by rw [hl.lev h1, hl.lev h2]; exact h3, fun m => ?_⟩
  have e : dv N' k = dv N k := funext fun m => hl.dv ok h1 m
  rw [hl.dv ok h2, h4, e]
/-- Between the calls. -/
structure WkS (T : (Nat → Bool) → Nat → Bool) (bl : List (Nat × Obj)) (mb sb L : Nat) (N : List Dn) (G : Nat → Prop) (kn : Nat → Option Nat) (w : World) : Prop where
  bx : ∀ p ∈ bl, w.heap[p.1]? = some p.2
  sep : ∀ p ∈ bl, ¬ G p.1 ∧ p.1 ≠ mb
  mp : NMap w mb natV kn
  ms : ¬ G mb
  dg : Dg w sb L N G
  ok : KnOk T L N kn
theorem WkS.keeps0 {T : (Nat → Bool) → Nat → Bool} {bl : List (Nat × Obj)} {mb sb L : Nat} {N : List Dn} {G : Nat → Prop} {kn : Nat → Option Nat} {w w' : World} (h : WkS T bl mb sb L N G kn w) (hk : Keeps (fun _ => False) w w') : WkS T bl mb sb L N G kn w' :=
  ⟨fun p hp => hk.heap (h.bx p hp) (fun h => h), h.sep, h.mp.keeps hk (fun h => h), h.ms, h.dg.keeps0 hk, h.ok⟩
theorem WkS.sepNew {T : (Nat → Bool) → Nat → Bool} {bl : List (Nat × Obj)} {mb sb L : Nat} {N : List Dn} {G : Nat → Prop} {kn : Nat → Option Nat} {w : World} (h : WkS T bl mb sb L N G kn w) {G' : Nat → Prop} (hn : ∀ q, G' q → G q ∨ w.heap.size ≤ q) : (∀ p ∈ bl, ¬ G' p.1 ∧ p.1 ≠ mb) ∧ ¬ G' mb :=
  ⟨fun p hp => ⟨fun hq => (hn _ hq).elim (h.sep p hp).1 (fun hs => by have := lt_of_heap (h.bx p hp); omega), (h.sep p hp).2⟩, fun hq => (hn _ hq).elim h.ms (fun hs => by have := h.mp.lt; omega)⟩
/-- Behind an operation of the store. -/
theorem WkS.op {T : (Nat → Bool) → Nat → Bool} {bl : List (Nat × Obj)} {mb sb L : Nat} {N N' : List Dn} {G G' : Nat → Prop} {kn : Nat → Option Nat} {w w' : World} {k b l : Nat} {S : Nat → Bool} (h : WkS T bl mb sb L N G kn w) (hp : DgPost L N N' k b l S) (hd : Dg w' sb L N' G') (hk : Keeps G w w') (hn : ∀ q, G' q → G q ∨ w.heap.size ≤ q) : WkS T bl mb sb L N' G' kn w' :=
  ⟨fun p hp => hk.heap (h.bx p hp) (h.sep p hp).1, (h.sepNew hn).1, h.mp.keeps hk h.ms, (h.sepNew hn).2, hd, h.ok.le h.dg.ok hp.le⟩
/-- Behind a store into the map. -/
theorem WkS.put {T : (Nat → Bool) → Nat → Bool} {bl : List (Nat × Obj)} {mb sb L : Nat} {N : List Dn} {G : Nat → Prop} {kn : Nat → Option Nat} {w w' : World} {k x : Nat} (h : WkS T bl mb sb L N G kn w) (hm : NMap w' mb natV (putP kn k x)) (hk : Keeps (fun j => j = mb) w w') (h1 : k < N.length + 2) (h2 : x < N.length + 2) (h3 : lev L N k ≤ lev L N x) (h4 : ∀ m, dv N x m = T (dv N k) m) : WkS T bl mb sb L N G (putP kn k x) w' :=
  ⟨fun p hp => hk.heap (h.bx p hp) (h.sep p hp).2, h.sep, hm, h.ms, h.dg.keeps hk (fun q e hq => h.ms (by rw [← (e : q = mb)]; exact hq)), fun k' x' hx => by
    by_cases he : k' = k
    · subst he
      rw [putP_same] at hx; cases hx
      exact ⟨h1, h2, h3, h4⟩
    · rw [putP_other _ _ he] at hx
      exact h.ok k' x' hx⟩
/-- A node out of what two walks found. -/
theorem node_step {L : Nat} {N N1 N2 N3 : List Dn} {l k1 k2 k : Nat} {S S1 S2 : Nat → Bool} (p1 : DgPost L N N1 k1 (lowB L (l + 1)) (l + 1) S1) (p2 : DgPost L N1 N2 k2 (lowB L (l + 1)) (l + 1) S2) (p3 : DgPost L N2 N3 k (nb l) l (fun m => dv N2 (if m.testBit l then k2 else k1) m)) (hS : ∀ m, S m = if m.testBit l then S2 m else S1 m) (hl : l < L) :
    DgPost L N N3 k (lowB L l) l S := by
  refine ⟨(p1.le.trans p2.le).trans p3.le, p3.ok, p3.lt, fun m => ?_, p3.lev, ?_⟩
  · rw [p3.val, hS]
    cases hm : m.testBit l with
    | true => simp only [if_true]; rw [p2.val]
    | false => simp only [Bool.false_eq_true, if_false]; rw [p2.le.dv p1.ok p1.lt, p1.val]
  · have h1 := p1.cnt; have h2 := p2.cnt; have h3 := p3.cnt; have := lowB_step hl; omega
/-- What a new node may lean on. -/
theorem node_need {L : Nat} {N N1 N2 : List Dn} {l k1 k2 : Nat} {S1 S2 : Nat → Bool} (p1 : DgPost L N N1 k1 (lowB L (l + 1)) (l + 1) S1) (p2 : DgPost L N1 N2 k2 (lowB L (l + 1)) (l + 1) S2) (hbig : low N + lowB L l ≤ 5800000000000) (hl : l < L) :
    k1 < N2.length + 2 ∧ k2 < N2.length + 2 ∧ l < lev L N2 k1 ∧ l < lev L N2 k2 ∧ low N2 ≤ 5800000000000 := by
  have h1 := p1.cnt; have h2 := p2.cnt; have h3 := lowB_step hl; have h4 := p1.lev; have h5 := p2.lev; have h6 := p1.lt; have h7 := p2.le.len
  exact ⟨by omega, p2.lt, by rw [p2.le.lev p1.lt]; omega, by omega, by omega⟩

/-- The frame of a walk: two walks, a new node, a store into the map. -/
theorem wk_chain {G G1 G2 G3 : Nat → Prop} {mb : Nat} {w wa w5 w6 w7 w8 : World} (h0 : Keeps (fun _ => False) w wa) (h1 : Keeps (fun q => G q ∨ q = mb) wa w5) (n1 : ∀ q, G1 q → G q ∨ wa.heap.size ≤ q) (h2 : Keeps (fun q => G1 q ∨ q = mb) w5 w6) (n2 : ∀ q, G2 q → G1 q ∨ w5.heap.size ≤ q) (h3 : Keeps G2 w6 w7) (n3 : ∀ q, G3 q → G2 q ∨ w6.heap.size ≤ q) (h4 : Keeps (fun q => q = mb) w7 w8) :
    Keeps (fun q => G q ∨ q = mb) w w8 ∧ ∀ q, G3 q → G q ∨ w.heap.size ≤ q := by
  have hA : Keeps (fun q => G q ∨ q = mb) w w5 := (h0.mono (fun _ _ h => h.elim)).trans' h1 (fun i hi => .inl hi)
  have nA : ∀ q, G1 q → G q ∨ w.heap.size ≤ q := fun q h => (n1 q h).imp (fun h => h) (fun h => Nat.le_trans h0.size h)
  have hB : Keeps (fun q => G q ∨ q = mb) w w6 := hA.trans' h2 (fun i hi => hi.elim (fun h => (nA i h).imp .inl (fun h => h)) (fun h => .inl (.inr h)))
  have nB := news nA n2 hA.size
  have hC : Keeps (fun q => G q ∨ q = mb) w w7 := hB.trans' h3 (fun i h => (nB i h).imp .inl (fun h => h))
  exact ⟨hC.trans' h4 (fun i h => .inl (.inr h)), news nB n3 hB.size⟩
/-- The state behind a walk that made a node. -/
theorem WkS.made {T : (Nat → Bool) → Nat → Bool} {bl : List (Nat × Obj)} {mb sb L : Nat} {N N3 : List Dn} {G3 : Nat → Prop} {kn : Nat → Option Nat} {w w' : World} {k x l : Nat} (h : WkS T bl mb sb L N3 G3 kn w) (hm : NMap w' mb natV (putP kn k x)) (hk : Keeps (fun j => j = mb) w w') (ok : DgOk L N) (hkl : k < N.length + 2) (hl : lev L N k = l) (hp : DgPost L N N3 x (lowB L l) l (T (dv N k))) : WkS T bl mb sb L N3 G3 (putP kn k x) w' :=
  h.put hm hk (by have := hp.le.len; omega) hp.lt (by rw [hp.le.lev hkl, hl]; exact hp.lev) (fun m => by
    have e : dv N3 k = dv N k := funext fun m => hp.le.dv ok hkl m
    rw [hp.val, e])

end Go.Proofs.YtjcgkmodmjckjaaGreat

namespace Go.Proofs.YtjcgkmodmjckjaaGreat
open Go.RowKit

def negT (f : Nat → Bool) (m : Nat) : Bool := !f m
def notBl (kb rb fb mb sb : Nat) : List (Nat × Obj) :=
  [(kb, .cells #[.map (some mb)] 73 (0, 0)), (rb, .cells #[.pointer (some ⟨sb, 0, none⟩)] 57 (0, 0)), (fb, .cells #[.func (.func 97) #[] #[.pointer (some ⟨kb, 0, none⟩), .pointer (some ⟨rb, 0, none⟩), .pointer (some ⟨fb, 0, none⟩)]] 63 (0, 0))]
theorem not_cells {w : World} {T : (Nat → Bool) → Nat → Bool} {kb rb fb mb sb L : Nat} {N : List Dn} {G : Nat → Prop} {kn : Nat → Option Nat} (h : WkS T (notBl kb rb fb mb sb) mb sb L N G kn w) :
    w.cell? ⟨kb, 0, none⟩ = some (.map (some mb)) ∧ w.cell? ⟨rb, 0, none⟩ = some (.pointer (some ⟨sb, 0, none⟩)) ∧ w.cell? ⟨fb, 0, none⟩ = some (.func (.func 97) #[] #[.pointer (some ⟨kb, 0, none⟩), .pointer (some ⟨rb, 0, none⟩), .pointer (some ⟨fb, 0, none⟩)]) ∧ kb < w.heap.size ∧ rb < w.heap.size ∧ fb < w.heap.size := by
  have h1 := h.bx _ (show (kb, Obj.cells #[.map (some mb)] 73 (0, 0)) ∈ notBl kb rb fb mb sb by simp [notBl])
  have h2 := h.bx _ (show (rb, Obj.cells #[.pointer (some ⟨sb, 0, none⟩)] 57 (0, 0)) ∈ notBl kb rb fb mb sb by simp [notBl])
  have h3 := h.bx _ (show (fb, Obj.cells #[.func (.func 97) #[] #[.pointer (some ⟨kb, 0, none⟩), .pointer (some ⟨rb, 0, none⟩), .pointer (some ⟨fb, 0, none⟩)]] 63 (0, 0)) ∈ notBl kb rb fb mb sb by simp [notBl])
  exact ⟨(cell_of_blk h1).trans rfl, (cell_of_blk h2).trans rfl, (cell_of_blk h3).trans rfl, lt_of_heap h1, lt_of_heap h2, lt_of_heap h3⟩
theorem node_at {N : List Dn} {k : Nat} (h2 : ¬ k < 2) (hk : k < N.length + 2) : ∃ i n, k = i + 2 ∧ N[i]? = some n := ⟨k - 2, N[k - 2]'(by omega), by omega, List.getElem?_eq_getElem (by omega)⟩

set_option maxRecDepth 100000 in
set_option maxHeartbeats 4000000 in
theorem not1_in (L : Nat) (hL : L ≤ 24) (kb rb fb mb sb : Nat) : ∀ (k : Nat) (w : World) (N : List Dn) (G : Nat → Prop) (kn : Nat → Option Nat), WkS negT (notBl kb rb fb mb sb) mb sb L N G kn w → kn 0 = some 1 ∧ kn 1 = some 0 → k < N.length + 2 → low N + lowB L (lev L N k) ≤ 5800000000000 →
    Calls Tryz.prog 97 #[.int .i64 (k : Int), .pointer (some ⟨kb, 0, none⟩), .pointer (some ⟨rb, 0, none⟩), .pointer (some ⟨fb, 0, none⟩)] w fun e w' => ∃ (x : Nat) (N' : List Dn) (G' : Nat → Prop) (kn' : Nat → Option Nat), e = .returned (.int .i64 (x : Int)) ∧ DgPost L N N' x (lowB L (lev L N k)) (lev L N k) (negT (dv N k)) ∧ WkS negT (notBl kb rb fb mb sb) mb sb L N' G' kn' w' ∧ (kn' 0 = some 1 ∧ kn' 1 = some 0) ∧ Keeps (fun q => G q ∨ q = mb) w w' ∧ ∀ q, G' q → G q ∨ w.heap.size ≤ q := by
  intro k
  induction k using Nat.strongRecOn with
  | _ k ih =>
  intro w N G kn h h01 hk hbig
  have eg : ∀ args w, (callFunc 97 args).run Tryz.prog w = .ok (.enter 97 args) w := enters_of Tryz.func97 (by kernel_rfl) rfl
  have HH := Lib.hid h; have H01 := Lib.hid h01; have HIH := Lib.hid ih; have HBIG := Lib.hid hbig; have HKL := Lib.hid hk
  obtain ⟨c1, c2, c3, l1, l2, l3⟩ := not_cells h
  have hz : (zeroValue 3).run Tryz.prog w = .ok (.int .i64 0) w := by kernel_rfl
  cases hf : kn k with
  | some x =>
    have hlk := (h.mp.look_some (P := Tryz.prog) Tryz.underlying73 Tryz.underlying3 hf).1
    replace hlk : (Instr.lookup 73 (.map (some mb)) (.int .i64 (k : Int)) true).run Tryz.prog w = .ok (.tuple #[.int .i64 (x : Int), .bool true]) w := hlk
    have HP := Lib.hid (show DgPost L N N x (lowB L (lev L N k)) (lev L N k) (negT (dv N k)) from by
      obtain ⟨_, g2, g3, g4⟩ := h.ok k x hf
      exact .same h.dg.ok g2 g4 g3)
    clear h h01 ih hbig hk hf
    go_enter Tryz.func97, Tryz.ntmps97
    go_wp2_with fail
    go_ret
    exact ⟨x, N, G, kn, rfl, HP.out, HH.out, H01.out, Keeps.refl _ _, fun q h => .inl h⟩
  | none =>
    have hlk := (h.mp.look_none (P := Tryz.prog) Tryz.underlying73 Tryz.underlying3 hz hf).1
    have hk2 : ¬ k < 2 := fun h2 => by
      rcases (by omega : k = 0 ∨ k = 1) with rfl | rfl
      · rw [h01.1] at hf; cases hf
      · rw [h01.2] at hf; cases hf
    obtain ⟨i, n, rfl, hn⟩ := node_at hk2 hk
    replace hlk : (Instr.lookup 73 (.map (some mb)) (.int .i64 ((i : Int) + 2)) true).run Tryz.prog w = .ok (.tuple #[.int .i64 0, .bool false]) w := hlk
    obtain ⟨mf, mp, v, fm, pm, hm, hq, hbd⟩ := h.dg
    obtain ⟨g, cap, rfl, d0, d1, d2, hmx⟩ := hm.node hn
    have c4 : w.cell? ⟨sb, 1, none⟩ = some (.slice (some ⟨g, 0, none⟩) N.length cap) := (cell_of_blk hm.blk).trans rfl
    have l4 := lt_of_heap hm.blk
    have hi : i < N.length := (List.getElem?_eq_some_iff.1 hn).1
    have hmx' : N.length ≤ 9223372036854775807 := by unfold maxLen at hmx; omega
    have i1 : (((i + 2 : Nat) : Int) - 2) = (i : Int) := by omega
    have i2 : (0 : Int) ≤ (i : Int) := by omega
    have i3 : (i : Int) < (N.length : Int) := by omega
    have ok := h.dg.ok
    have HOK := Lib.hid ok
    have HLV := Lib.hid (show lev L N (i + 2) = n.lv ∧ n.lv < L ∧ n.lo < i + 2 ∧ n.hi < i + 2 ∧ n.lv < lev L N n.lo ∧ n.lv < lev L N n.hi from ⟨lev_node hn, ok.lv _ _ hn, ok.lo _ _ hn, ok.hi _ _ hn, ok.llo _ _ hn, ok.lhi _ _ hn⟩)
    have HNX := Lib.hid (show ∀ m, negT (dv N (i + 2)) m = if m.testBit n.lv then negT (dv N n.hi) m else negT (dv N n.lo) m from fun m => by
      unfold negT; rw [dv_node ok hn]; cases m.testBit n.lv <;> rfl)
    have KA := (Keeps.refl (fun _ => False) w).alloc (.cells #[.int .i64 (n.lv : Int), .int .i64 (n.lo : Int), .int .i64 (n.hi : Int)] 110)
    have HKA := Lib.hid KA
    have HH1 := Lib.hid (h.keeps0 KA)
    have HXB := Lib.hid (heap_alloc_new w (.cells #[.int .i64 (n.lv : Int), .int .i64 (n.lo : Int), .int .i64 (n.hi : Int)] 110))
    have HBX := Lib.hid (show ¬ G w.heap.size ∧ w.heap.size ≠ mb from ⟨fun h => by have := hbd _ h; omega, by have := h.mp.lt; omega⟩)
    clear h h01 ih hbig hk hf hk2 hm hq hbd hmx hn ok KA HH hz
    go_enter Tryz.func97, Tryz.ntmps97
    go_upto_region 4 with fail
    generalize (w.alloc (.cells #[.int .i64 (n.lv : Int), .int .i64 (n.lo : Int), .int .i64 (n.hi : Int)] 110)) = w1 at HKA HH1 HXB ⊢
    generalize w.heap.size = bx at HBX HXB ⊢
    clear c1 c2 c3 c4 l1 l2 l3 l4 d0 d1 d2 hlk i1 i2 i3 hmx' hi
    have KD := (Keeps.refl (fun _ => False) w1).drew
    have HH2 := Lib.hid (HH1.out.keeps0 KD); have HXB2 := Lib.hid (KD.heap HXB.out (fun h => h)); have HK2 := Lib.hid (HKA.out.trans KD)
    clear KD
    obtain ⟨c1, c2, c3, l1, l2, l3⟩ := not_cells HH1.out
    have x0 : w1.cell? ⟨bx, 0, none⟩ = some (.int .i64 (n.lv : Int)) := by simp [World.cell?, HXB.out]
    have x1 : w1.cell? ⟨bx, 1, none⟩ = some (.int .i64 (n.lo : Int)) := by simp [World.cell?, HXB.out]
    have x2 : w1.cell? ⟨bx, 2, none⟩ = some (.int .i64 (n.hi : Int)) := by simp [World.cell?, HXB.out]
    have xl := lt_of_heap HXB.out
    clear c1 c2 c3 x0 x1 x2 xl l1 l2 l3
    obtain ⟨_, c2, c3, _, _, _⟩ := not_cells HH2.out
    have x0 : w1.drew.cell? ⟨bx, 0, none⟩ = some (.int .i64 (n.lv : Int)) := (cell_of_blk HXB2.out).trans rfl
    have x1 : w1.drew.cell? ⟨bx, 1, none⟩ = some (.int .i64 (n.lo : Int)) := (cell_of_blk HXB2.out).trans rfl
    have x2 : w1.drew.cell? ⟨bx, 2, none⟩ = some (.int .i64 (n.hi : Int)) := (cell_of_blk HXB2.out).trans rfl
    have HC1 := Lib.hid (HIH.out n.lo HLV.out.2.2.1 w1.drew N G kn HH2.out H01.out (by have := HKL.out; have := HLV.out.2.2.1; omega) (by
      have h1 := HBIG.out; have h2 := lowB_anti (L := L) (show n.lv ≤ lev L N n.lo from Nat.le_of_lt HLV.out.2.2.2.2.1); rw [HLV.out.1] at h1; omega))
    have HLO := Lib.hid (show n.lo < N.length + 2 ∧ n.hi < N.length + 2 from by have h0 := HKL.out; have h1 := HLV.out.2.2.1; have h2 := HLV.out.2.2.2.1; exact ⟨by omega, by omega⟩)
    have HBG := Lib.hid (show low N + lowB L n.lv ≤ 5800000000000 from by have h1 := HBIG.out; rw [HLV.out.1] at h1; exact h1)
    go_region_held3 (fun w' => w'.cell? ⟨rb, 0, none⟩ = some (.pointer (some ⟨sb, 0, none⟩)) ∧ w'.cell? ⟨fb, 0, none⟩ = some (.func (.func 97) #[] #[.pointer (some ⟨kb, 0, none⟩), .pointer (some ⟨rb, 0, none⟩), .pointer (some ⟨fb, 0, none⟩)]) ∧ w'.cell? ⟨bx, 0, none⟩ = some (.int .i64 (n.lv : Int)) ∧ w'.cell? ⟨bx, 1, none⟩ = some (.int .i64 (n.lo : Int)) ∧ w'.cell? ⟨bx, 2, none⟩ = some (.int .i64 (n.hi : Int)))
      (go_keep)
      (first
        | (go_at_call 64; refine HC3.out.mono ?_; rintro en w7 ⟨x, N3, G3, rfl, hp3, hd3, hk3, hn3⟩; have HP3 := Lib.hid hp3; have HS3 := Lib.hid (HS2.out.op hp3 hd3 hk3 hn3); have HK3 := Lib.hid hk3; have HN3 := Lib.hid hn3; have HXB7 := Lib.hid (hk3.heap HXB6.out HBX2.out.1); obtain ⟨_, u1, u2, _, _, _⟩ := not_cells HS3.out; have u3 : w7.cell? ⟨bx, 0, none⟩ = some (.int .i64 (n.lv : Int)) := (cell_of_blk HXB7.out).trans rfl; have u4 : w7.cell? ⟨bx, 1, none⟩ = some (.int .i64 (n.lo : Int)) := (cell_of_blk HXB7.out).trans rfl; have u5 : w7.cell? ⟨bx, 2, none⟩ = some (.int .i64 (n.hi : Int)) := (cell_of_blk HXB7.out).trans rfl; clear hp3 hd3 hk3 hn3)
        | (go_at_call 97; refine HC2.out.mono ?_; rintro en w6 ⟨k2, N2, G2, kn2, rfl, hp2, hs2, h012, hk2, hn2⟩; rw [HP1.out.le.lev HLO.out.2] at hp2; have HP2 := Lib.hid (hp2.min (l' := n.lv + 1) HLV.out.2.2.2.2.2); have HS2 := Lib.hid hs2; have H012 := Lib.hid h012; have HK2' := Lib.hid hk2; have HN2 := Lib.hid hn2; have HXB6 := Lib.hid (hk2.heap HXB5.out (fun h => h.elim HBX1.out.1 HBX1.out.2)); have HBX2 := Lib.hid (show ¬ G2 bx ∧ bx ≠ mb from ⟨fun h => (HN2.out _ h).elim HBX1.out.1 (fun h => by have := lt_of_heap HXB5.out; omega), HBX1.out.2⟩); have HNE := Lib.hid (node_need HP1.out HP2.out HBG.out HLV.out.2.1); have HC3 := Lib.hid (node_any w6 sb L N2 G2 n.lv k1 k2 hs2.dg hL HLV.out.2.1 HNE.out.1 HNE.out.2.1 HNE.out.2.2.1 HNE.out.2.2.2.1 HNE.out.2.2.2.2); obtain ⟨_, s1, s2, _, _, _⟩ := not_cells hs2; have s3 : w6.cell? ⟨bx, 0, none⟩ = some (.int .i64 (n.lv : Int)) := (cell_of_blk HXB6.out).trans rfl; have s4 : w6.cell? ⟨bx, 1, none⟩ = some (.int .i64 (n.lo : Int)) := (cell_of_blk HXB6.out).trans rfl; have s5 : w6.cell? ⟨bx, 2, none⟩ = some (.int .i64 (n.hi : Int)) := (cell_of_blk HXB6.out).trans rfl; clear hp2 hs2 h012 hk2 hn2)
        | (go_at_call 97; refine HC1.out.mono ?_; rintro en w5 ⟨k1, N1, G1, kn1, rfl, hp1, hs1, h011, hk1, hn1⟩; have HP1 := Lib.hid (hp1.min (l' := n.lv + 1) HLV.out.2.2.2.2.1); have HS1 := Lib.hid hs1; have H011 := Lib.hid h011; have HK1 := Lib.hid hk1; have HN1 := Lib.hid hn1; have HXB5 := Lib.hid (hk1.heap HXB2.out (fun h => h.elim HBX.out.1 HBX.out.2)); have HBX1 := Lib.hid (show ¬ G1 bx ∧ bx ≠ mb from ⟨fun h => (HN1.out _ h).elim HBX.out.1 (fun h => by have := lt_of_heap HXB2.out; omega), HBX.out.2⟩); have HC2 := Lib.hid (HIH.out n.hi HLV.out.2.2.2.1 w5 N1 G1 kn1 hs1 h011 (by have h1 := HP1.out.le.len; have h2 := HLO.out.2; omega) (by rw [HP1.out.le.lev HLO.out.2]; have h1 := HBG.out; have h2 := HP1.out.cnt; have h3 := lowB_step HLV.out.2.1; have h4 := lowB_anti (L := L) (show n.lv + 1 ≤ lev L N n.hi from HLV.out.2.2.2.2.2); omega)); obtain ⟨_, t1, t2, _, _, _⟩ := not_cells hs1; have t3 : w5.cell? ⟨bx, 0, none⟩ = some (.int .i64 (n.lv : Int)) := (cell_of_blk HXB5.out).trans rfl; have t4 : w5.cell? ⟨bx, 1, none⟩ = some (.int .i64 (n.lo : Int)) := (cell_of_blk HXB5.out).trans rfl; have t5 : w5.cell? ⟨bx, 2, none⟩ = some (.int .i64 (n.hi : Int)) := (cell_of_blk HXB5.out).trans rfl; clear hp1 hs1 h011 hk1 hn1))
    all_goals
      obtain ⟨c1, _, _, l1, _, _⟩ := not_cells HS3.out
      obtain ⟨w8, hr8, hm8, hk8⟩ := HS3.out.mp.put (P := Tryz.prog) Tryz.underlying73 Tryz.underlying3 (i + 2) x
      replace hr8 : (Instr.mapUpdate 73 (.map (some mb)) (.int .i64 ((i : Int) + 2)) (.int .i64 (x : Int))).run Tryz.prog w7 = .ok () w8 := hr8
      have HM8 := Lib.hid hm8; have HK8 := Lib.hid hk8
      clear hm8 hk8
      go_wp2_with fail
      go_ret
      have e1 : dv N1 n.hi = dv N n.hi := funext fun m => HP1.out.le.dv HOK.out HLO.out.2 m
      have hfin := node_step HP1.out HP2.out HP3.out (S := negT (dv N (i + 2))) (fun m => by rw [e1]; exact HNX.out m) HLV.out.2.1
      obtain ⟨hch, hnw⟩ := wk_chain HK2.out HK1.out HN1.out HK2'.out HN2.out HK3.out HN3.out HK8.out
      refine ⟨x, N3, G3, putP kn2 (i + 2) x, rfl, by rw [HLV.out.1]; exact hfin, HS3.out.made HM8.out HK8.out HOK.out HKL.out HLV.out.1 hfin, ?_, hch, hnw⟩
      rw [putP_other _ _ (by omega), putP_other _ _ (by omega)]
      exact H012.out

/-- diagram.Store.Not. -/
theorem KnOk.start {L : Nat} {N : List Dn} : KnOk negT L N (putP (putP (fun _ => none) 0 1) 1 0) := fun k x h => by
  unfold putP at h
  by_cases h1 : k = 1
  · rw [if_pos h1] at h; cases h; subst h1
    exact ⟨by omega, by omega, by rw [lev_lt (by omega), lev_lt (by omega)]; exact Nat.le_refl _, fun m => by unfold negT; rw [dv_zero, dv_one]; rfl⟩
  · rw [if_neg h1] at h
    by_cases h0 : k = 0
    · rw [if_pos h0] at h; cases h; subst h0
      exact ⟨by omega, by omega, by rw [lev_lt (by omega), lev_lt (by omega)]; exact Nat.le_refl _, fun m => by unfold negT; rw [dv_zero, dv_one]; rfl⟩
    · rw [if_neg h0] at h; cases h

set_option maxRecDepth 100000 in
set_option maxHeartbeats 2000000 in
theorem not_any (w : World) (sb L : Nat) (N : List Dn) (G : Nat → Prop) (k : Nat) (h : Dg w sb L N G) (hL : L ≤ 24) (hk : k < N.length + 2) (hbig : low N + lowB L (lev L N k) ≤ 5800000000000) :
    Calls Tryz.prog 70 #[.pointer (some ⟨sb, 0, none⟩), .int .i64 (k : Int)] w (DgR w sb L N G (lowB L (lev L N k)) (lev L N k) (negT (dv N k))) := by
  have eg : ∀ args w, (callFunc 97 args).run Tryz.prog w = .ok (.enter 97 args) w := enters_of Tryz.func97 (by kernel_rfl) rfl
  have hsf : ∀ (a : Addr) (fn : Fn) (first cap : Array Value) (m : Mode) (w : World), (store a (.func fn first cap) m).run Tryz.prog w = stored Tryz.prog w a (.func fn first cap) m := fun a fn first cap m w => run_store Tryz.prog w a _ m rfl
  have hmf : ∀ (fn : Fn) (first cap : Array Value) (w : World), (Instr.makeFunc fn first cap).run Tryz.prog w = .ok (.func fn first cap) w := fun _ _ _ _ => rfl
  have hmm := @run_makeMap Tryz.prog
  have K1 := (Keeps.refl (fun _ => False) w).alloc (.cells #[.pointer (some ⟨sb, 0, none⟩)] 57)
  have HR1 := heap_alloc_new w (.cells #[.pointer (some ⟨sb, 0, none⟩)] 57)
  have hm2 := NMap.made (w.alloc (.cells #[.pointer (some ⟨sb, 0, none⟩)] 57)) natV
  have K2 := (Keeps.refl (fun _ => False) (w.alloc (.cells #[.pointer (some ⟨sb, 0, none⟩)] 57))).alloc (.map #[] 0)
  rw [World.size_alloc] at hm2
  obtain ⟨W3, hr3, hm3, hk3⟩ := hm2.put (P := Tryz.prog) Tryz.underlying73 Tryz.underlying3 0 1
  obtain ⟨W4, hr4, hm4, hk4⟩ := hm3.put (P := Tryz.prog) Tryz.underlying73 Tryz.underlying3 1 0
  replace hr3 : (Instr.mapUpdate 73 (.map (some (w.heap.size + 1))) (.int .i64 0) (.int .i64 1)).run Tryz.prog ((w.alloc (.cells #[.pointer (some ⟨sb, 0, none⟩)] 57)).alloc (.map #[] 0)) = .ok () W3 := hr3
  replace hr4 : (Instr.mapUpdate 73 (.map (some (w.heap.size + 1))) (.int .i64 1) (.int .i64 0)).run Tryz.prog W3 = .ok () W4 := hr4
  have k24 : Keeps (fun j => j = w.heap.size + 1) (w.alloc (.cells #[.pointer (some ⟨sb, 0, none⟩)] 57)) W4 := ((K2.mono (fun _ _ h => h.elim)).trans hk3).trans hk4
  have HR4 := k24.heap HR1 (by omega)
  have HK4 := Lib.hid (K1.trans' k24 (fun i hi => .inr (by rw [(show i = _ from hi)]; omega)))
  have hs4 : w.heap.size + 1 < W4.heap.size := hm4.lt
  have HM4 := Lib.hid hm4; have HRB := Lib.hid HR4; have HD := Lib.hid h; have HS4 := Lib.hid hs4
  clear K1 HR1 hm2 K2 hm3 hk3 hm4 hk4 k24 HR4 h
  go_enter Tryz.func70, Tryz.ntmps70
  go_upto_region 2 with fail
  have hb5 := heap_alloc_new W4 (.cells #[.map (some (w.heap.size + 1))] 73)
  have K5 := (Keeps.refl (fun _ => False) W4).alloc (.cells #[.map (some (w.heap.size + 1))] 73)
  have hb6 := heap_alloc_new (W4.alloc (.cells #[.map (some (w.heap.size + 1))] 73)) (.cells #[(.func (.func 97) #[] #[.pointer (some ⟨W4.heap.size, 0, none⟩), .pointer (some ⟨w.heap.size, 0, none⟩), .pointer (some ⟨W4.heap.size + 1, 0, none⟩)])] 63)
  have K6 := (Keeps.refl (fun _ => False) (W4.alloc (.cells #[.map (some (w.heap.size + 1))] 73))).alloc (.cells #[(.func (.func 97) #[] #[.pointer (some ⟨W4.heap.size, 0, none⟩), .pointer (some ⟨w.heap.size, 0, none⟩), .pointer (some ⟨W4.heap.size + 1, 0, none⟩)])] 63)
  rw [World.size_alloc] at hb6
  have K46 := K5.trans K6
  have HK7 := Lib.hid (HK4.out.trans K46)
  have HKB := Lib.hid (K6.heap hb5 (fun h => h)); have HRB7 := Lib.hid (K46.heap HRB.out (fun h => h)); have HM7 := Lib.hid (HM4.out.keeps K46 (fun h => h)); have HFB7 := Lib.hid hb6
  have HS7 := Lib.hid (show w.heap.size ≠ w.heap.size + 1 ∧ W4.heap.size ≠ w.heap.size + 1 ∧ W4.heap.size + 1 ≠ w.heap.size + 1 ∧ w.heap.size ≤ W4.heap.size from by have := HS4.out; omega)
  clear hb5 K5 K6 hb6 K46 HRB HM4 HK4 HS4 hr3 hr4
  go_upto_region 4 with fail
  generalize (W4.alloc (.cells #[.map (some (w.heap.size + 1))] 73)).alloc (.cells #[(.func (.func 97) #[] #[.pointer (some ⟨W4.heap.size, 0, none⟩), .pointer (some ⟨w.heap.size, 0, none⟩), .pointer (some ⟨W4.heap.size + 1, 0, none⟩)])] 63) = W7 at HK7 HKB HRB7 HM7 HFB7 ⊢
  have HWS := Lib.hid (show WkS negT (notBl W4.heap.size w.heap.size (W4.heap.size + 1) (w.heap.size + 1) sb) (w.heap.size + 1) sb L N G (putP (putP (fun _ => none) 0 1) 1 0) W7 from
    ⟨fun p hp => by
      simp only [notBl, List.mem_cons, List.not_mem_nil, or_false] at hp
      rcases hp with rfl | rfl | rfl
      · exact HKB.out
      · exact HRB7.out
      · exact HFB7.out, fun p hp => by
      have hbd := HD.out.bnd
      have hs := HS7.out
      simp only [notBl, List.mem_cons, List.not_mem_nil, or_false] at hp
      rcases hp with rfl | rfl | rfl
      · exact ⟨fun h => by have := hbd _ h; omega, hs.2.1⟩
      · exact ⟨fun h => by have := hbd _ h; omega, hs.1⟩
      · exact ⟨fun h => by have := hbd _ h; omega, hs.2.2.1⟩, HM7.out, fun h => by have := HD.out.bnd _ h; omega, HD.out.keeps0 HK7.out, KnOk.start⟩)
  have HC := Lib.hid (not1_in L hL W4.heap.size w.heap.size (W4.heap.size + 1) (w.heap.size + 1) sb k W7 N G _ HWS.out ⟨rfl, rfl⟩ hk hbig)
  obtain ⟨c1, c2, c3, l1, l2, l3⟩ := not_cells HWS.out
  clear hL hk hbig
  generalize W4.heap.size = z at HKB HFB7 HWS HC c1 c2 c3 l1 l2 l3 ⊢
  go_wp2_with fail
  refine HC.out.mono ?_; rintro e W8 ⟨x, N', G', kn', rfl, hp, hs, _, hk8, hn8⟩
  have HP := Lib.hid hp; have HS8 := Lib.hid hs.dg; have HK8 := Lib.hid hk8; have HN8 := Lib.hid hn8
  clear hp hs hk8 hn8
  go_wp2_with fail
  go_ret
  exact ⟨x, N', G', rfl, HP.out, HS8.out, (HK7.out.mono (fun _ _ h => h.elim)).trans' HK8.out (fun i hi => hi.elim .inl (fun e => .inr (by rw [e]; omega))), fun q hq => (HN8.out q hq).imp (fun h => h) (fun h => Nat.le_trans HK7.out.size h)⟩

end Go.Proofs.YtjcgkmodmjckjaaGreat

namespace Go.Proofs.YtjcgkmodmjckjaaGreat
open Go.RowKit

/-- For some value of the fact p. -/
def exT (p : Nat) (f : Nat → Bool) (m : Nat) : Bool := f (m ||| 2 ^ p) || f ((m ||| 2 ^ p) ^^^ 2 ^ p)
theorem bit_set (m p j : Nat) : (m ||| 2 ^ p).testBit j = if j = p then true else m.testBit j := by
  by_cases h : j = p
  · subst h; simp
  · rw [if_neg h, Nat.testBit_or, Nat.testBit_two_pow_of_ne (by omega), Bool.or_false]
theorem bit_clr (m p j : Nat) : ((m ||| 2 ^ p) ^^^ 2 ^ p).testBit j = if j = p then false else m.testBit j := by
  rw [Nat.testBit_xor, bit_set]
  by_cases h : j = p
  · subst h; simp
  · rw [if_neg h, if_neg h, Nat.testBit_two_pow_of_ne (by omega), Bool.xor_false]
theorem ex_above {L : Nat} {N : List Dn} (ok : DgOk L N) {k p : Nat} (hk : k < N.length + 2) (h : p < lev L N k) (m : Nat) : dv N k m = exT p (dv N k) m := by
  have h1 : dv N k (m ||| 2 ^ p) = dv N k m := dv_indep ok k hk (fun j hj _ => by rw [bit_set, if_neg (by omega)])
  have h2 : dv N k ((m ||| 2 ^ p) ^^^ 2 ^ p) = dv N k m := dv_indep ok k hk (fun j hj _ => by rw [bit_clr, if_neg (by omega)])
  unfold exT; rw [h1, h2, Bool.or_self]
theorem ex_at {L : Nat} {N : List Dn} (ok : DgOk L N) {i : Nat} {n : Dn} (hn : N[i]? = some n) (m : Nat) : (dv N n.lo m || dv N n.hi m) = exT n.lv (dv N (i + 2)) m := by
  have hi := (List.getElem?_eq_some_iff.1 hn).1
  have a1 := ok.lo _ _ hn; have a2 := ok.hi _ _ hn; have a3 := ok.llo _ _ hn; have a4 := ok.lhi _ _ hn
  unfold exT
  rw [dv_node ok hn, dv_node ok hn, bit_set, if_pos rfl, bit_clr, if_pos rfl]
  simp only [if_true, Bool.false_eq_true, if_false]
  have h1 : dv N n.hi (m ||| 2 ^ n.lv) = dv N n.hi m := dv_indep ok n.hi (by omega) (fun j hj _ => by rw [bit_set, if_neg (by omega)])
  have h2 : dv N n.lo ((m ||| 2 ^ n.lv) ^^^ 2 ^ n.lv) = dv N n.lo m := dv_indep ok n.lo (by omega) (fun j hj _ => by rw [bit_clr, if_neg (by omega)])
  rw [h1, h2, Bool.or_comm]
theorem ex_below {L : Nat} {N : List Dn} (ok : DgOk L N) {i p : Nat} {n : Dn} (hn : N[i]? = some n) (hp : n.lv ≠ p) (m : Nat) : exT p (dv N (i + 2)) m = if m.testBit n.lv then exT p (dv N n.hi) m else exT p (dv N n.lo) m := by
  unfold exT
  rw [dv_node ok hn, dv_node ok hn, bit_set, if_neg hp, bit_clr, if_neg hp]
  cases m.testBit n.lv <;> rfl
def exBl (rb lb kb fb mb sb p : Nat) : List (Nat × Obj) :=
  [(rb, .cells #[.pointer (some ⟨sb, 0, none⟩)] 57 (0, 0)), (lb, .cells #[.int .i64 (p : Int)] 3 (0, 0)), (kb, .cells #[.map (some mb)] 73 (0, 0)), (fb, .cells #[(.func (.func 119) #[] #[.pointer (some ⟨rb, 0, none⟩), .pointer (some ⟨lb, 0, none⟩), .pointer (some ⟨kb, 0, none⟩), .pointer (some ⟨fb, 0, none⟩)])] 63 (0, 0))]
theorem ex_cells {w : World} {T : (Nat → Bool) → Nat → Bool} {rb lb kb fb mb sb p L : Nat} {N : List Dn} {G : Nat → Prop} {kn : Nat → Option Nat} (h : WkS T (exBl rb lb kb fb mb sb p) mb sb L N G kn w) :
    w.cell? ⟨kb, 0, none⟩ = some (.map (some mb)) ∧ w.cell? ⟨rb, 0, none⟩ = some (.pointer (some ⟨sb, 0, none⟩)) ∧ w.cell? ⟨fb, 0, none⟩ = some (.func (.func 119) #[] #[.pointer (some ⟨rb, 0, none⟩), .pointer (some ⟨lb, 0, none⟩), .pointer (some ⟨kb, 0, none⟩), .pointer (some ⟨fb, 0, none⟩)]) ∧ w.cell? ⟨lb, 0, none⟩ = some (.int .i64 (p : Int)) ∧ (kb < w.heap.size ∧ rb < w.heap.size ∧ fb < w.heap.size ∧ lb < w.heap.size) := by
  have h1 := h.bx _ (show (kb, Obj.cells #[.map (some mb)] 73 (0, 0)) ∈ exBl rb lb kb fb mb sb p by simp [exBl])
  have h2 := h.bx _ (show (rb, Obj.cells #[.pointer (some ⟨sb, 0, none⟩)] 57 (0, 0)) ∈ exBl rb lb kb fb mb sb p by simp [exBl])
  have h3 := h.bx _ (show (fb, Obj.cells #[(.func (.func 119) #[] #[.pointer (some ⟨rb, 0, none⟩), .pointer (some ⟨lb, 0, none⟩), .pointer (some ⟨kb, 0, none⟩), .pointer (some ⟨fb, 0, none⟩)])] 63 (0, 0)) ∈ exBl rb lb kb fb mb sb p by simp [exBl])
  have h4 := h.bx _ (show (lb, Obj.cells #[.int .i64 (p : Int)] 3 (0, 0)) ∈ exBl rb lb kb fb mb sb p by simp [exBl])
  exact ⟨(cell_of_blk h1).trans rfl, (cell_of_blk h2).trans rfl, (cell_of_blk h3).trans rfl, (cell_of_blk h4).trans rfl, lt_of_heap h1, lt_of_heap h2, lt_of_heap h3, lt_of_heap h4⟩

set_option maxRecDepth 100000 in
set_option maxHeartbeats 4000000 in
theorem ex1_in (L p : Nat) (hL : L ≤ 24) (hpL : p < L) (rb lb kb fb mb sb : Nat) : ∀ (k : Nat) (w : World) (N : List Dn) (G : Nat → Prop) (kn : Nat → Option Nat), WkS (exT p) (exBl rb lb kb fb mb sb p) mb sb L N G kn w → k < N.length + 2 → low N + lowB L (lev L N k) ≤ 5800000000000 →
    Calls Tryz.prog 119 #[.int .i64 (k : Int), .pointer (some ⟨rb, 0, none⟩), .pointer (some ⟨lb, 0, none⟩), .pointer (some ⟨kb, 0, none⟩), .pointer (some ⟨fb, 0, none⟩)] w fun e w' => ∃ (x : Nat) (N' : List Dn) (G' : Nat → Prop) (kn' : Nat → Option Nat), e = .returned (.int .i64 (x : Int)) ∧ DgPost L N N' x (lowB L (lev L N k)) (lev L N k) (exT p (dv N k)) ∧ WkS (exT p) (exBl rb lb kb fb mb sb p) mb sb L N' G' kn' w' ∧ Keeps (fun q => G q ∨ q = mb) w w' ∧ ∀ q, G' q → G q ∨ w.heap.size ≤ q := by
  intro k
  induction k using Nat.strongRecOn with
  | _ k ih =>
  intro w N G kn h hk hbig
  have eg : ∀ args w, (callFunc 119 args).run Tryz.prog w = .ok (.enter 119 args) w := enters_of Tryz.func119 (by kernel_rfl) rfl
  have HH := Lib.hid h; have HIH := Lib.hid ih; have HBIG := Lib.hid hbig; have HKL := Lib.hid hk
  obtain ⟨c1, c2, c3, c5, l1, l2, l3, l5⟩ := ex_cells h
  have hlv : Hid (∃ mf mp v fm pm, DgM w sb mf mp L N v fm pm) := Lib.hid (by obtain ⟨mf, mp, v, fm, pm, hm, _⟩ := h.dg; exact ⟨mf, mp, v, fm, pm, hm⟩)
  have HLVC := Lib.hid (show Calls Tryz.prog 67 #[.pointer (some ⟨sb, 0, none⟩), .int .i64 (k : Int)] w fun e w' => e = .returned (.int .i64 (lev L N k : Int)) ∧ w' = w from by
    obtain ⟨mf, mp, v, fm, pm, hm⟩ := hlv.out
    exact level_any w sb mf mp L N v fm pm k hm hk)
  clear hlv
  by_cases hgt : p < lev L N k
  · have q1 : decide ((p : Int) < (lev L N k : Int)) = true := by simp; omega
    have q2 : decide (p < lev L N k) = true := by simp; omega
    have HP := Lib.hid (show DgPost L N N k (lowB L (lev L N k)) (lev L N k) (exT p (dv N k)) from .same h.dg.ok hk (fun m => ex_above h.dg.ok hk hgt m) (Nat.le_refl _))
    clear h ih hbig hk hgt
    go_enter Tryz.func119, Tryz.ntmps119
    go_wp2_with fail
    refine HLVC.out.mono ?_; rintro e w2 ⟨rfl, rfl⟩
    go_wp2_with fail
    go_ret
    exact ⟨k, N, G, kn, rfl, HP.out, HH.out, Keeps.refl _ _, fun q h => .inl h⟩
  have hk2 : ¬ k < 2 := fun h2 => by rw [lev_lt h2] at hgt; omega
  have q1 : decide ((p : Int) < (lev L N k : Int)) = false := by simp; omega
  have q2 : decide (p < lev L N k) = false := by simp; omega
  by_cases heq : lev L N k = p
  · have q3 : ((lev L N k : Int) == (p : Int)) = true := by simp [heq]
    have q4 : (lev L N k == p) = true := by simp [heq]
    obtain ⟨i, n, rfl, hn⟩ := node_at hk2 hk
    obtain ⟨mf, mp, v, fm, pm, hm, hq, hbd⟩ := h.dg
    obtain ⟨g, cap, rfl, d0, d1, d2, hmx⟩ := hm.node hn
    have c4 : w.cell? ⟨sb, 1, none⟩ = some (.slice (some ⟨g, 0, none⟩) N.length cap) := (cell_of_blk hm.blk).trans rfl
    have l4 := lt_of_heap hm.blk
    have hi : i < N.length := (List.getElem?_eq_some_iff.1 hn).1
    have hmx' : N.length ≤ 9223372036854775807 := by unfold maxLen at hmx; omega
    have i1 : (((i + 2 : Nat) : Int) - 2) = (i : Int) := by omega
    have i0 : IntKind.i64.wrap ((i : Int) + 2 - 2) = (i : Int) := by rw [show ((i : Int) + 2 - 2) = (i : Int) from by omega]; exact IntWalk.i64_in _ (by omega)
    have i4 : IntKind.i64.wrap (i : Int) = (i : Int) := IntWalk.i64_in _ (by omega)
    have i5 : IntKind.i64.wrap (((i + 2 : Nat) : Int) - 2) = (i : Int) := by rw [i1]; exact i4
    have i2 : (0 : Int) ≤ (i : Int) := by omega
    have i3 : (i : Int) < (N.length : Int) := by omega
    have ok := h.dg.ok
    have e0 : lev L N (i + 2) = n.lv := lev_node hn
    have b1 := ok.lo _ _ hn; have b2 := ok.hi _ _ hn; have b3 := ok.llo _ _ hn; have b4 := ok.lhi _ _ hn
    have KD := (Keeps.refl (fun _ => False) w).drew
    have HC := Lib.hid (or_any w.drew sb L N G n.lo n.hi (h.dg.keeps0 KD) hL (by omega) (by omega) (by have h1 : lowB L (min (lev L N n.lo) (lev L N n.hi)) ≤ lowB L (lev L N (i + 2)) := lowB_anti (L := L) (by omega); omega))
    have HKD := Lib.hid KD
    have HCV := Lib.hid (show lowB L (min (lev L N n.lo) (lev L N n.hi)) ≤ lowB L (lev L N (i + 2)) ∧ lev L N (i + 2) ≤ min (lev L N n.lo) (lev L N n.hi) ∧ ∀ m, (dv N n.lo m || dv N n.hi m) = exT p (dv N (i + 2)) m from ⟨lowB_anti (L := L) (by omega), by omega, fun m => by rw [ex_at ok hn, ← e0, heq]⟩)
    clear h ih hbig hm hq hbd hmx hn ok e0 b1 b2 b3 b4 KD hk hgt heq hk2 c1 c3 l1 l3 HKL HBIG HIH
    go_enter Tryz.func119, Tryz.ntmps119
    go_wp2_with fail
    refine HLVC.out.mono ?_; rintro e w2 ⟨rfl, hw⟩
    rw [hw]; clear hw w2
    go_upto_region 5 with fail
    have KD2 := (Keeps.refl (fun _ => False) w).drew
    have e1 := KD2.cell c2 (fun h => h); have e2 := KD2.cell c4 (fun h => h); have e3 := KD2.cell d1 (fun h => h); have e4 := KD2.cell d2 (fun h => h)
    clear KD2
    go_still_tail 19, (by kernel_rfl)
    change wpList _ _ _ _ _ w.drew
    generalize w.drew = wd2 at HC HKD e1 e2 e3 e4 ⊢
    clear c2 c4 d0 d1 d2
    go_wp2_with fail
    refine HC.out.mono ?_; rintro en w5 ⟨x, N', G', rfl, hp, hd, hk, hn⟩
    have HP := Lib.hid (hp.weak HCV.out.1 HCV.out.2.1 HCV.out.2.2)
    have HS5 := Lib.hid ((HH.out.keeps0 HKD.out).op hp hd hk hn)
    have HK5 := Lib.hid hk; have HN5 := Lib.hid hn
    clear hp hd hk hn
    go_wp2_with fail
    go_ret
    exact ⟨x, N', G', kn, rfl, HP.out, HS5.out, (HKD.out.mono (fun _ _ h => h.elim)).trans (HK5.out.mono (fun _ _ h => .inl h)), fun q h => (HN5.out q h).imp (fun h => h) (fun h => Nat.le_trans HKD.out.size h)⟩
  have q3 : ((lev L N k : Int) == (p : Int)) = false := by simp; omega
  have q4 : (lev L N k == p) = false := by simp; omega
  have hz : (zeroValue 3).run Tryz.prog w = .ok (.int .i64 0) w := by kernel_rfl
  cases hf : kn k with
  | some x =>
    have hlk := (h.mp.look_some (P := Tryz.prog) Tryz.underlying73 Tryz.underlying3 hf).1
    replace hlk : (Instr.lookup 73 (.map (some mb)) (.int .i64 (k : Int)) true).run Tryz.prog w = .ok (.tuple #[.int .i64 (x : Int), .bool true]) w := hlk
    have HP := Lib.hid (show DgPost L N N x (lowB L (lev L N k)) (lev L N k) (exT p (dv N k)) from by
      obtain ⟨_, g2, g3, g4⟩ := h.ok k x hf
      exact .same h.dg.ok g2 g4 g3)
    clear h ih hbig hk hf hk2 hgt heq
    go_enter Tryz.func119, Tryz.ntmps119
    go_wp2_with fail
    refine HLVC.out.mono ?_; rintro e w2 ⟨rfl, hw⟩
    rw [hw]; clear hw w2
    go_wp2_with fail
    go_ret
    exact ⟨x, N, G, kn, rfl, HP.out, HH.out, Keeps.refl _ _, fun q h => .inl h⟩
  | none =>
    have hlk := (h.mp.look_none (P := Tryz.prog) Tryz.underlying73 Tryz.underlying3 hz hf).1
    go_enter Tryz.func119, Tryz.ntmps119
    go_wp2_with fail
    refine HLVC.out.mono ?_; rintro e w2 ⟨rfl, hw⟩
    rw [hw]; clear hw w2
    have HLT := Lib.hid (show lev L N k < p from by omega)
    go_upto_region 6 with fail
    clear q1 q2 q3 q4 HLVC hgt heq
    obtain ⟨i, n, rfl, hn⟩ := node_at hk2 hk
    replace hlk : (Instr.lookup 73 (.map (some mb)) (.int .i64 ((i : Int) + 2)) true).run Tryz.prog w = .ok (.tuple #[.int .i64 0, .bool false]) w := hlk
    obtain ⟨mf, mp, v, fm, pm, hm, hq, hbd⟩ := h.dg
    obtain ⟨g, cap, rfl, d0, d1, d2, hmx⟩ := hm.node hn
    have c4 : w.cell? ⟨sb, 1, none⟩ = some (.slice (some ⟨g, 0, none⟩) N.length cap) := (cell_of_blk hm.blk).trans rfl
    have l4 := lt_of_heap hm.blk
    have hi : i < N.length := (List.getElem?_eq_some_iff.1 hn).1
    have hmx' : N.length ≤ 9223372036854775807 := by unfold maxLen at hmx; omega
    have i1 : (((i + 2 : Nat) : Int) - 2) = (i : Int) := by omega
    have i2 : (0 : Int) ≤ (i : Int) := by omega
    have i3 : (i : Int) < (N.length : Int) := by omega
    have ok := h.dg.ok
    have HOK := Lib.hid ok
    have HLV := Lib.hid (show lev L N (i + 2) = n.lv ∧ n.lv < L ∧ n.lo < i + 2 ∧ n.hi < i + 2 ∧ n.lv < lev L N n.lo ∧ n.lv < lev L N n.hi from ⟨lev_node hn, ok.lv _ _ hn, ok.lo _ _ hn, ok.hi _ _ hn, ok.llo _ _ hn, ok.lhi _ _ hn⟩)
    have HNX := Lib.hid (show ∀ m, exT p (dv N (i + 2)) m = if m.testBit n.lv then exT p (dv N n.hi) m else exT p (dv N n.lo) m from fun m => ex_below ok hn (by have h1 := HLT.out; rw [lev_node hn] at h1; omega) m)
    have KA := (Keeps.refl (fun _ => False) w).alloc (.cells #[.int .i64 (n.lv : Int), .int .i64 (n.lo : Int), .int .i64 (n.hi : Int)] 110)
    have HKA := Lib.hid KA
    have HH1 := Lib.hid (h.keeps0 KA)
    have HXB := Lib.hid (heap_alloc_new w (.cells #[.int .i64 (n.lv : Int), .int .i64 (n.lo : Int), .int .i64 (n.hi : Int)] 110))
    have HBX := Lib.hid (show ¬ G w.heap.size ∧ w.heap.size ≠ mb from ⟨fun h => by have := hbd _ h; omega, by have := h.mp.lt; omega⟩)
    clear h ih hbig hk hf hk2 hm hq hbd hmx hn ok KA HH hz
    go_upto_region 9 with fail
    generalize (w.alloc (.cells #[.int .i64 (n.lv : Int), .int .i64 (n.lo : Int), .int .i64 (n.hi : Int)] 110)) = w1 at HKA HH1 HXB ⊢
    generalize w.heap.size = bx at HBX HXB ⊢
    clear c1 c2 c3 c4 l1 l2 l3 l4 d0 d1 d2 hlk i1 i2 i3 hmx' hi
    have KD := (Keeps.refl (fun _ => False) w1).drew
    have HH2 := Lib.hid (HH1.out.keeps0 KD); have HXB2 := Lib.hid (KD.heap HXB.out (fun h => h)); have HK2 := Lib.hid (HKA.out.trans KD)
    clear KD
    obtain ⟨c1, c2, c3, _, l1, l2, l3, _⟩ := ex_cells HH1.out
    have x0 : w1.cell? ⟨bx, 0, none⟩ = some (.int .i64 (n.lv : Int)) := by simp [World.cell?, HXB.out]
    have x1 : w1.cell? ⟨bx, 1, none⟩ = some (.int .i64 (n.lo : Int)) := by simp [World.cell?, HXB.out]
    have x2 : w1.cell? ⟨bx, 2, none⟩ = some (.int .i64 (n.hi : Int)) := by simp [World.cell?, HXB.out]
    have xl := lt_of_heap HXB.out
    clear c1 c2 c3 x0 x1 x2 xl l1 l2 l3
    obtain ⟨_, c2, c3, _, _, _, _, _⟩ := ex_cells HH2.out
    have x0 : w1.drew.cell? ⟨bx, 0, none⟩ = some (.int .i64 (n.lv : Int)) := (cell_of_blk HXB2.out).trans rfl
    have x1 : w1.drew.cell? ⟨bx, 1, none⟩ = some (.int .i64 (n.lo : Int)) := (cell_of_blk HXB2.out).trans rfl
    have x2 : w1.drew.cell? ⟨bx, 2, none⟩ = some (.int .i64 (n.hi : Int)) := (cell_of_blk HXB2.out).trans rfl
    have HC1 := Lib.hid (HIH.out n.lo HLV.out.2.2.1 w1.drew N G kn HH2.out (by have := HKL.out; have := HLV.out.2.2.1; omega) (by
      have h1 := HBIG.out; have h2 := lowB_anti (L := L) (show n.lv ≤ lev L N n.lo from Nat.le_of_lt HLV.out.2.2.2.2.1); rw [HLV.out.1] at h1; omega))
    have HLO := Lib.hid (show n.lo < N.length + 2 ∧ n.hi < N.length + 2 from by have h0 := HKL.out; have h1 := HLV.out.2.2.1; have h2 := HLV.out.2.2.2.1; exact ⟨by omega, by omega⟩)
    have HBG := Lib.hid (show low N + lowB L n.lv ≤ 5800000000000 from by have h1 := HBIG.out; rw [HLV.out.1] at h1; exact h1)
    go_region_held3 (fun w' => w'.cell? ⟨rb, 0, none⟩ = some (.pointer (some ⟨sb, 0, none⟩)) ∧ w'.cell? ⟨fb, 0, none⟩ = some (.func (.func 119) #[] #[.pointer (some ⟨rb, 0, none⟩), .pointer (some ⟨lb, 0, none⟩), .pointer (some ⟨kb, 0, none⟩), .pointer (some ⟨fb, 0, none⟩)]) ∧ w'.cell? ⟨bx, 0, none⟩ = some (.int .i64 (n.lv : Int)) ∧ w'.cell? ⟨bx, 1, none⟩ = some (.int .i64 (n.lo : Int)) ∧ w'.cell? ⟨bx, 2, none⟩ = some (.int .i64 (n.hi : Int)))
      (go_keep)
      (first
        | (go_at_call 64; refine HC3.out.mono ?_; rintro en w7 ⟨x, N3, G3, rfl, hp3, hd3, hk3, hn3⟩; have HP3 := Lib.hid hp3; have HS3 := Lib.hid (HS2.out.op hp3 hd3 hk3 hn3); have HK3 := Lib.hid hk3; have HN3 := Lib.hid hn3; have HXB7 := Lib.hid (hk3.heap HXB6.out HBX2.out.1); obtain ⟨_, u1, u2, _, _, _, _, _⟩ := ex_cells HS3.out; have u3 : w7.cell? ⟨bx, 0, none⟩ = some (.int .i64 (n.lv : Int)) := (cell_of_blk HXB7.out).trans rfl; have u4 : w7.cell? ⟨bx, 1, none⟩ = some (.int .i64 (n.lo : Int)) := (cell_of_blk HXB7.out).trans rfl; have u5 : w7.cell? ⟨bx, 2, none⟩ = some (.int .i64 (n.hi : Int)) := (cell_of_blk HXB7.out).trans rfl; clear hp3 hd3 hk3 hn3)
        | (go_at_call 119; refine HC2.out.mono ?_; rintro en w6 ⟨k2, N2, G2, kn2, rfl, hp2, hs2, hk2, hn2⟩; rw [HP1.out.le.lev HLO.out.2] at hp2; have HP2 := Lib.hid (hp2.min (l' := n.lv + 1) HLV.out.2.2.2.2.2); have HS2 := Lib.hid hs2; have HK2' := Lib.hid hk2; have HN2 := Lib.hid hn2; have HXB6 := Lib.hid (hk2.heap HXB5.out (fun h => h.elim HBX1.out.1 HBX1.out.2)); have HBX2 := Lib.hid (show ¬ G2 bx ∧ bx ≠ mb from ⟨fun h => (HN2.out _ h).elim HBX1.out.1 (fun h => by have := lt_of_heap HXB5.out; omega), HBX1.out.2⟩); have HNE := Lib.hid (node_need HP1.out HP2.out HBG.out HLV.out.2.1); have HC3 := Lib.hid (node_any w6 sb L N2 G2 n.lv k1 k2 hs2.dg hL HLV.out.2.1 HNE.out.1 HNE.out.2.1 HNE.out.2.2.1 HNE.out.2.2.2.1 HNE.out.2.2.2.2); obtain ⟨_, s1, s2, _, _, _, _, _⟩ := ex_cells hs2; have s3 : w6.cell? ⟨bx, 0, none⟩ = some (.int .i64 (n.lv : Int)) := (cell_of_blk HXB6.out).trans rfl; have s4 : w6.cell? ⟨bx, 1, none⟩ = some (.int .i64 (n.lo : Int)) := (cell_of_blk HXB6.out).trans rfl; have s5 : w6.cell? ⟨bx, 2, none⟩ = some (.int .i64 (n.hi : Int)) := (cell_of_blk HXB6.out).trans rfl; clear hp2 hs2 hk2 hn2)
        | (go_at_call 119; refine HC1.out.mono ?_; rintro en w5 ⟨k1, N1, G1, kn1, rfl, hp1, hs1, hk1, hn1⟩; have HP1 := Lib.hid (hp1.min (l' := n.lv + 1) HLV.out.2.2.2.2.1); have HS1 := Lib.hid hs1; have HK1 := Lib.hid hk1; have HN1 := Lib.hid hn1; have HXB5 := Lib.hid (hk1.heap HXB2.out (fun h => h.elim HBX.out.1 HBX.out.2)); have HBX1 := Lib.hid (show ¬ G1 bx ∧ bx ≠ mb from ⟨fun h => (HN1.out _ h).elim HBX.out.1 (fun h => by have := lt_of_heap HXB2.out; omega), HBX.out.2⟩); have HC2 := Lib.hid (HIH.out n.hi HLV.out.2.2.2.1 w5 N1 G1 kn1 hs1 (by have h1 := HP1.out.le.len; have h2 := HLO.out.2; omega) (by rw [HP1.out.le.lev HLO.out.2]; have h1 := HBG.out; have h2 := HP1.out.cnt; have h3 := lowB_step HLV.out.2.1; have h4 := lowB_anti (L := L) (show n.lv + 1 ≤ lev L N n.hi from HLV.out.2.2.2.2.2); omega)); obtain ⟨_, t1, t2, _, _, _, _, _⟩ := ex_cells hs1; have t3 : w5.cell? ⟨bx, 0, none⟩ = some (.int .i64 (n.lv : Int)) := (cell_of_blk HXB5.out).trans rfl; have t4 : w5.cell? ⟨bx, 1, none⟩ = some (.int .i64 (n.lo : Int)) := (cell_of_blk HXB5.out).trans rfl; have t5 : w5.cell? ⟨bx, 2, none⟩ = some (.int .i64 (n.hi : Int)) := (cell_of_blk HXB5.out).trans rfl; clear hp1 hs1 hk1 hn1))
    all_goals
      obtain ⟨c1, _, _, _, l1, _, _, _⟩ := ex_cells HS3.out
      obtain ⟨w8, hr8, hm8, hk8⟩ := HS3.out.mp.put (P := Tryz.prog) Tryz.underlying73 Tryz.underlying3 (i + 2) x
      replace hr8 : (Instr.mapUpdate 73 (.map (some mb)) (.int .i64 ((i : Int) + 2)) (.int .i64 (x : Int))).run Tryz.prog w7 = .ok () w8 := hr8
      have HM8 := Lib.hid hm8; have HK8 := Lib.hid hk8
      clear hm8 hk8
      go_wp2_with fail
      go_ret
      have e1 : dv N1 n.hi = dv N n.hi := funext fun m => HP1.out.le.dv HOK.out HLO.out.2 m
      have hfin := node_step HP1.out HP2.out HP3.out (S := exT p (dv N (i + 2))) (fun m => by rw [e1]; exact HNX.out m) HLV.out.2.1
      obtain ⟨hch, hnw⟩ := wk_chain HK2.out HK1.out HN1.out HK2'.out HN2.out HK3.out HN3.out HK8.out
      exact ⟨x, N3, G3, putP kn2 (i + 2) x, rfl, by rw [HLV.out.1]; exact hfin, HS3.out.made HM8.out HK8.out HOK.out HKL.out HLV.out.1 hfin, hch, hnw⟩

set_option maxRecDepth 100000 in
set_option maxHeartbeats 2000000 in
theorem exists_any (w : World) (sb L p : Nat) (N : List Dn) (G : Nat → Prop) (k : Nat) (h : Dg w sb L N G) (hL : L ≤ 24) (hp : p < L) (hk : k < N.length + 2) (hbig : low N + lowB L (lev L N k) ≤ 5800000000000) :
    Calls Tryz.prog 96 #[.pointer (some ⟨sb, 0, none⟩), .int .i64 (k : Int), .int .i64 (p : Int)] w (DgR w sb L N G (lowB L (lev L N k)) (lev L N k) (exT p (dv N k))) := by
  have eg : ∀ args w, (callFunc 119 args).run Tryz.prog w = .ok (.enter 119 args) w := enters_of Tryz.func119 (by kernel_rfl) rfl
  have hsf : ∀ (a : Addr) (fn : Fn) (first cap : Array Value) (m : Mode) (w : World), (store a (.func fn first cap) m).run Tryz.prog w = stored Tryz.prog w a (.func fn first cap) m := fun a fn first cap m w => run_store Tryz.prog w a _ m rfl
  have hmf : ∀ (fn : Fn) (first cap : Array Value) (w : World), (Instr.makeFunc fn first cap).run Tryz.prog w = .ok (.func fn first cap) w := fun _ _ _ _ => rfl
  have hmm := @run_makeMap Tryz.prog
  have K1 := (Keeps.refl (fun _ => False) w).alloc (.cells #[.pointer (some ⟨sb, 0, none⟩)] 57)
  have K2 := (Keeps.refl (fun _ => False) (w.alloc (.cells #[.pointer (some ⟨sb, 0, none⟩)] 57))).alloc (.cells #[.int .i64 (p : Int)] 3)
  have K3 := (Keeps.refl (fun _ => False) ((w.alloc (.cells #[.pointer (some ⟨sb, 0, none⟩)] 57)).alloc (.cells #[.int .i64 (p : Int)] 3))).alloc (.map #[] 0)
  have K4 := (Keeps.refl (fun _ => False) (((w.alloc (.cells #[.pointer (some ⟨sb, 0, none⟩)] 57)).alloc (.cells #[.int .i64 (p : Int)] 3)).alloc (.map #[] 0))).alloc (.cells #[.map (some (w.heap.size + 1 + 1))] 73)
  have K5 := (Keeps.refl (fun _ => False) ((((w.alloc (.cells #[.pointer (some ⟨sb, 0, none⟩)] 57)).alloc (.cells #[.int .i64 (p : Int)] 3)).alloc (.map #[] 0)).alloc (.cells #[.map (some (w.heap.size + 1 + 1))] 73))).alloc (.cells #[(.func (.func 119) #[] #[.pointer (some ⟨w.heap.size, 0, none⟩), .pointer (some ⟨w.heap.size + 1, 0, none⟩), .pointer (some ⟨w.heap.size + 1 + 1 + 1, 0, none⟩), .pointer (some ⟨w.heap.size + 1 + 1 + 1 + 1, 0, none⟩)])] 63)
  have b1 := (K2.trans (K3.trans (K4.trans K5))).heap (heap_alloc_new w (.cells #[.pointer (some ⟨sb, 0, none⟩)] 57)) (fun h => h)
  have b2 := (K3.trans (K4.trans K5)).heap (heap_alloc_new (w.alloc (.cells #[.pointer (some ⟨sb, 0, none⟩)] 57)) (.cells #[.int .i64 (p : Int)] 3)) (fun h => h)
  have m3 := (NMap.made ((w.alloc (.cells #[.pointer (some ⟨sb, 0, none⟩)] 57)).alloc (.cells #[.int .i64 (p : Int)] 3)) natV).keeps (K4.trans K5) (fun h => h)
  have b4 := K5.heap (heap_alloc_new (((w.alloc (.cells #[.pointer (some ⟨sb, 0, none⟩)] 57)).alloc (.cells #[.int .i64 (p : Int)] 3)).alloc (.map #[] 0)) (.cells #[.map (some (w.heap.size + 1 + 1))] 73)) (fun h => h)
  have b5 := heap_alloc_new ((((w.alloc (.cells #[.pointer (some ⟨sb, 0, none⟩)] 57)).alloc (.cells #[.int .i64 (p : Int)] 3)).alloc (.map #[] 0)).alloc (.cells #[.map (some (w.heap.size + 1 + 1))] 73)) (.cells #[(.func (.func 119) #[] #[.pointer (some ⟨w.heap.size, 0, none⟩), .pointer (some ⟨w.heap.size + 1, 0, none⟩), .pointer (some ⟨w.heap.size + 1 + 1 + 1, 0, none⟩), .pointer (some ⟨w.heap.size + 1 + 1 + 1 + 1, 0, none⟩)])] 63)
  simp only [World.size_alloc] at b2 m3 b4 b5
  have HK := Lib.hid (K1.trans (K2.trans (K3.trans (K4.trans K5)))); have B1 := Lib.hid b1; have B2 := Lib.hid b2; have M3 := Lib.hid m3; have B4 := Lib.hid b4; have B5 := Lib.hid b5; have HD := Lib.hid h
  clear K1 K2 K3 K4 K5 b1 b2 m3 b4 b5 h
  go_enter Tryz.func96, Tryz.ntmps96
  go_upto_region 4 with fail
  generalize (((((w.alloc (.cells #[.pointer (some ⟨sb, 0, none⟩)] 57)).alloc (.cells #[.int .i64 (p : Int)] 3)).alloc (.map #[] 0)).alloc (.cells #[.map (some (w.heap.size + 1 + 1))] 73)).alloc (.cells #[(.func (.func 119) #[] #[.pointer (some ⟨w.heap.size, 0, none⟩), .pointer (some ⟨w.heap.size + 1, 0, none⟩), .pointer (some ⟨w.heap.size + 1 + 1 + 1, 0, none⟩), .pointer (some ⟨w.heap.size + 1 + 1 + 1 + 1, 0, none⟩)])] 63)) = W7 at HK B1 B2 M3 B4 B5 ⊢
  have HWS := Lib.hid (show WkS (exT p) (exBl w.heap.size (w.heap.size + 1) (w.heap.size + 1 + 1 + 1) (w.heap.size + 1 + 1 + 1 + 1) (w.heap.size + 1 + 1) sb p) (w.heap.size + 1 + 1) sb L N G (fun _ => none) W7 from
    ⟨fun q hq => by
      simp only [exBl, List.mem_cons, List.not_mem_nil, or_false] at hq
      rcases hq with rfl | rfl | rfl | rfl
      · exact B1.out
      · exact B2.out
      · exact B4.out
      · exact B5.out, fun q hq => by
      have hbd := HD.out.bnd
      simp only [exBl, List.mem_cons, List.not_mem_nil, or_false] at hq
      rcases hq with rfl | rfl | rfl | rfl <;> exact ⟨fun h => by have := hbd _ h; omega, by simp only; omega⟩, M3.out, fun h => by have := HD.out.bnd _ h; omega, HD.out.keeps0 HK.out, fun k x h => by cases h⟩)
  have HC := Lib.hid (ex1_in L p hL hp w.heap.size (w.heap.size + 1) (w.heap.size + 1 + 1 + 1) (w.heap.size + 1 + 1 + 1 + 1) (w.heap.size + 1 + 1) sb k W7 N G _ HWS.out hk hbig)
  obtain ⟨c1, c2, c3, c5, l1, l2, l3, l5⟩ := ex_cells HWS.out
  have HZ := Lib.hid (show w.heap.size ≤ w.heap.size from Nat.le_refl _)
  clear hL hk hbig hp
  go_wp2_with fail
  refine HC.out.mono ?_; rintro e W8 ⟨x, N', G', kn', rfl, hp, hs, hk8, hn8⟩
  have HP := Lib.hid hp; have HS8 := Lib.hid hs.dg; have HK8 := Lib.hid hk8; have HN8 := Lib.hid hn8
  clear hp hs hk8 hn8
  go_wp2_with fail
  go_ret
  exact ⟨x, N', G', rfl, HP.out, HS8.out, (HK.out.mono (fun _ _ h => h.elim)).trans' HK8.out (fun i hi => hi.elim .inl (fun e => .inr (by rw [e]; omega))), fun q hq => (HN8.out q hq).imp (fun h => h) (fun h => Nat.le_trans HK.out.size h)⟩

end Go.Proofs.YtjcgkmodmjckjaaGreat

namespace Go.Proofs.YtjcgkmodmjckjaaGreat
open Go.RowKit

/-- The set m is s from the fact j on. -/
def cubeS (L s j m : Nat) : Bool := (List.range L).all fun i => decide (i < j) || (m.testBit i == s.testBit i)
theorem cubeS_top (L s m : Nat) : cubeS L s L m = true := by
  unfold cubeS
  rw [List.all_eq_true]
  intro i hi
  have := List.mem_range.1 hi
  simp [this]
theorem cubeS_step {L s i m : Nat} (h : i < L) : cubeS L s i m = ((m.testBit i == s.testBit i) && cubeS L s (i + 1) m) := by
  rw [Bool.eq_iff_iff]
  unfold cubeS
  simp only [Bool.and_eq_true, List.all_eq_true, List.mem_range, Bool.or_eq_true, decide_eq_true_eq]
  constructor
  · intro h1
    exact ⟨by have := h1 i h; simpa using this, fun x hx => (h1 x hx).imp (fun h => by omega) (fun h => h)⟩
  · rintro ⟨h1, h2⟩ x hx
    by_cases hxi : x = i
    · subst hxi; exact .inr h1
    · rcases h2 x hx with h3 | h3
      · exact .inl (by omega)
      · exact .inr h3
theorem DgPost.trans {L : Nat} {N N1 N2 : List Dn} {k1 k2 b1 b2 l1 l2 : Nat} {S1 S2 : Nat → Bool} (h : DgPost L N N1 k1 b1 l1 S1) (g : DgPost L N1 N2 k2 b2 l2 S2) : DgPost L N N2 k2 (b1 + b2) l2 S2 :=
  ⟨h.le.trans g.le, g.ok, g.lt, g.val, g.lev, by have := h.cnt; have := g.cnt; omega⟩
theorem nb_le (l : Nat) : nb l ≤ 1 := by unfold nb; split <;> omega
theorem bit_and_one {x k : Nat} : (bits .and .u32 ((x : Int) / 2 ^ k) 1 == 1) = x.testBit k := by
  rw [and_one]
  cases h : x.testBit k <;> simp

set_option maxRecDepth 100000 in
set_option maxHeartbeats 2000000 in
theorem cube_any (w : World) (sb L s : Nat) (N : List Dn) (G : Nat → Prop) (h : Dg w sb L N G) (hL : L ≤ 24) (hbig : low N + L ≤ 5800000000000) :
    Calls Tryz.prog 25 #[.pointer (some ⟨sb, 0, none⟩), .int .u32 (s : Int)] w (DgR w sb L N G L 0 (cubeS L s 0)) := by
  have c0 : w.cell? ⟨sb, 0, none⟩ = some (.int .i64 (L : Int)) := by
    obtain ⟨mf, mp, v, fm, pm, hm, _⟩ := h
    exact (cell_of_blk hm.blk).trans rfl
  have hlt := h.lt
  have HD := Lib.hid h
  clear h
  go_enter Tryz.func25, Tryz.ntmps25
  go_wp2_with fail
  go_loopw [5, 6] (fun kv jv wr => ∃ (j k : Nat) (N' : List Dn) (G' : Nat → Prop), j ≤ L ∧ jv = .int .i64 ((j : Int) - 1) ∧ kv = .int .i64 (k : Int) ∧ DgPost L N N' k (L - j) j (cubeS L s j) ∧ Dg wr sb L N' G' ∧ Keeps G w wr ∧ ∀ q, G' q → G q ∨ w.heap.size ≤ q) (fun _ jv _ => (intOf jv + 1).toNat)
  case atStart => exact ⟨L, 1, N, G, Nat.le_refl _, rfl, rfl, .same HD.out.ok (by omega) (fun m => by rw [dv_one, cubeS_top]) (by rw [lev_lt (by omega)]; exact Nat.le_refl _), HD.out, Keeps.refl _ _, fun q h => .inl h⟩
  case round =>
    obtain ⟨j, k, N', G', hj, rfl, rfl, hp, hd, hk, hn⟩ := hrel
    have HP := Lib.hid hp; have HD' := Lib.hid hd; have HK := Lib.hid hk; have HN := Lib.hid hn
    clear hp hd hk hn
    cases j with
    | zero =>
      go_wp2_with fail
      go_ret
      exact ⟨k, N', G', rfl, HP.out.weak (by omega) (Nat.le_refl _) (fun _ => rfl), HD'.out, HK.out, HN.out⟩
    | succ i =>
      have e1 : (((i + 1 : Nat) : Int) - 1) = (i : Int) := by omega
      rw [e1]
      have i0 : decide ((0 : Int) ≤ (i : Int)) = true := by simp
      have i1 : (i : Int) < 32 := by omega
      have i2 : (i : Int) < 64 := by omega
      have hb := bit_and_one (x := s) (k := i)
      have HC := fun lo hi hlo hhi g1 g2 => node_any wr sb L N' G' i lo hi HD'.out hL (by omega) hlo hhi g1 g2 (by have := HP.out.cnt; omega)
      have HC' := Lib.hid HC
      clear HC e1
      cases ht : s.testBit i with
      | true =>
        rw [ht] at hb
        have HCC := Lib.hid (HC'.out 0 k (by omega) HP.out.lt (by rw [lev_lt (by omega)]; omega) (by have := HP.out.lev; omega))
        go_wp2_with fail
        refine HCC.out.mono ?_; rintro e w2 ⟨k2, N2, G2, rfl, hp2, hd2, hk2, hn2⟩
        have HP2 := Lib.hid ((HP.out.trans hp2).weak (b' := L - i) (l' := i) (S' := cubeS L s i) (by have := nb_le i; omega) (Nat.le_refl _) (fun m => by
          rw [cubeS_step (by omega), ht]
          cases m.testBit i with
          | true => simp only [if_true]; rw [HP.out.val]; rfl
          | false => simp only [Bool.false_eq_true, if_false]; rw [dv_zero]; rfl))
        have HD2 := Lib.hid hd2; have HK2 := Lib.hid (HK.out.trans' hk2 HN.out); have HN2 := Lib.hid (news HN.out hn2 HK.out.size)
        clear hp2 hd2 hk2 hn2
        go_wp2_with fail
        go_roundw
        case rel => exact ⟨i, k2, N2, G2, by omega, by go_num, rfl, HP2.out, HD2.out, HK2.out, HN2.out⟩
        case measure => simp [intOf]
      | false =>
        rw [ht] at hb
        have HCC := Lib.hid (HC'.out k 0 HP.out.lt (by omega) (by have := HP.out.lev; omega) (by rw [lev_lt (by omega)]; omega))
        go_wp2_with fail
        refine HCC.out.mono ?_; rintro e w2 ⟨k2, N2, G2, rfl, hp2, hd2, hk2, hn2⟩
        have HP2 := Lib.hid ((HP.out.trans hp2).weak (b' := L - i) (l' := i) (S' := cubeS L s i) (by have := nb_le i; omega) (Nat.le_refl _) (fun m => by
          rw [cubeS_step (by omega), ht]
          cases m.testBit i with
          | true => simp only [if_true]; rw [dv_zero]; rfl
          | false => simp only [Bool.false_eq_true, if_false]; rw [HP.out.val]; rfl))
        have HD2 := Lib.hid hd2; have HK2 := Lib.hid (HK.out.trans' hk2 HN.out); have HN2 := Lib.hid (news HN.out hn2 HK.out.size)
        clear hp2 hd2 hk2 hn2
        go_wp2_with fail
        go_roundw
        case rel => exact ⟨i, k2, N2, G2, by omega, by go_num, rfl, HP2.out, HD2.out, HK2.out, HN2.out⟩
        case measure => simp [intOf]

end Go.Proofs.YtjcgkmodmjckjaaGreat

namespace Go.Proofs.YtjcgkmodmjckjaaGreat
open Go.RowKit

/-- Between the rounds of Pick: what is still to be chosen, given what has been. -/
structure PkI (L : Nat) (N : List Dn) (k x : Nat) (lo : List Nat) : Prop where
  lt : x < N.length + 2
  ne : x ≠ 0
  low : ∀ p ∈ lo, p < lev L N x ∧ p < L
  len : lo.length ≤ lev L N x
  val : ∀ m, (∀ j, j < lev L N x → m.testBit j = false) → dv N k (wd (intsP lo) ||| m) = dv N x m
theorem PkI.first {L : Nat} {N : List Dn} {k : Nat} (hk : k < N.length + 2) (h0 : k ≠ 0) : PkI L N k k [] :=
  ⟨hk, h0, fun p hp => by simp at hp, by simp, fun m _ => by simp [intsP, wd]⟩
theorem PkI.down {L : Nat} {N : List Dn} (ok : DgOk L N) {k i : Nat} {n : Dn} {lo : List Nat} (h : PkI L N k (i + 2) lo) (hn : N[i]? = some n) (h0 : n.lo ≠ 0) : PkI L N k n.lo lo := by
  have hi := (List.getElem?_eq_some_iff.1 hn).1
  have a1 := ok.lo _ _ hn; have a3 := ok.llo _ _ hn
  have hl := lev_node (L := L) hn
  have h1 := h.low; have h2 := h.len; have h3 := h.val
  rw [hl] at h1 h2 h3
  refine ⟨by omega, h0, fun p hp => ⟨by have := (h1 p hp).1; omega, (h1 p hp).2⟩, by omega, fun m hm => ?_⟩
  rw [h3 m (fun j hj => hm j (by omega)), dv_node ok hn, hm n.lv (by omega)]
  rfl
theorem wd_snocN (lo : List Nat) (p : Nat) : wd (intsP (lo ++ [p])) = wd (intsP lo) ||| 2 ^ p := by
  have e : intsP (lo ++ [p]) = intsP lo ++ [(p : Int)] := by simp [intsP]
  rw [e, wd_append, Nat.or_comm]; simp [wd, Nat.or_comm]
theorem PkI.up {L : Nat} {N : List Dn} (ok : DgOk L N) {k i : Nat} {n : Dn} {lo : List Nat} (h : PkI L N k (i + 2) lo) (hn : N[i]? = some n) (h0 : n.lo = 0) : PkI L N k n.hi (lo ++ [n.lv]) := by
  have hi := (List.getElem?_eq_some_iff.1 hn).1
  have a0 := ok.lv _ _ hn; have a2 := ok.hi _ _ hn; have a4 := ok.lhi _ _ hn; have a5 := ok.ne _ _ hn
  have hl := lev_node (L := L) hn
  have h1 := h.low; have h2 := h.len; have h3 := h.val
  rw [hl] at h1 h2 h3
  refine ⟨by omega, fun e => a5 (by rw [h0, e]), fun p hp => ?_, by rw [List.length_append, List.length_singleton]; omega, fun m hm => ?_⟩
  · rcases List.mem_append.1 hp with hp | hp
    · exact ⟨by have := (h1 p hp).1; omega, (h1 p hp).2⟩
    · simp at hp; subst hp; exact ⟨a4, a0⟩
  · have hb : ∀ j, (2 ^ n.lv ||| m).testBit j = (decide (j = n.lv) || m.testBit j) := fun j => by
      rw [Nat.testBit_or, Nat.testBit_two_pow]
      congr 1
      exact decide_eq_decide.2 ⟨fun h => h.symm, fun h => h.symm⟩
    rw [wd_snocN, Nat.or_assoc, h3 _ (fun j hj => by rw [hb, hm j (by omega)]; simp; omega), dv_node ok hn, hb]
    simp only [decide_true, Bool.true_or, if_true]
    exact dv_indep ok n.hi (by omega) (fun j hj _ => by rw [hb]; simp; omega)
theorem PkI.done {L : Nat} {N : List Dn} {k : Nat} {lo : List Nat} (h : PkI L N k 1 lo) : dv N k (wd (intsP lo)) = true := by
  have := h.val 0 (fun j _ => Nat.zero_testBit j)
  rw [Nat.or_zero, dv_one] at this
  exact this

set_option maxRecDepth 100000 in
set_option maxHeartbeats 2000000 in
theorem pick_any (w : World) (sb L : Nat) (N : List Dn) (G : Nat → Prop) (k : Nat) (h : Dg w sb L N G) (hL : L ≤ 24) (hk : k < N.length + 2) (h0 : k ≠ 0) :
    Calls Tryz.prog 76 #[.pointer (some ⟨sb, 0, none⟩), .int .i64 (k : Int)] w fun e w' => ∃ v lo, e = .returned (.tuple #[v, .bool true]) ∧ Ints w' v (intsP lo) ∧ (∀ p ∈ lo, p < L) ∧ lo.length ≤ 24 ∧ dv N k (wd (intsP lo)) = true ∧ Keeps (fun _ => False) w w' := by
  obtain ⟨i0, hi0, hz0, hz1, hz2⟩ := info_parts Tryz.info3
  obtain ⟨mf, mp, v, fm, pm, hm, _, _⟩ := h
  have HM := Lib.hid hm
  have HF := Lib.hid (PkI.first (L := L) hk h0)
  clear hm hk h0
  go_enter Tryz.func76, Tryz.ntmps76
  go_wp2_with fail
  go_loopw [1, 6] (fun xv ov wr => ∃ (x : Nat) (lo : List Nat), xv = .int .i64 (x : Int) ∧ PkI L N k x lo ∧ wr.ownsRow w.heap.size 3 1 ov lo.length ((intsP lo).map (Value.int .i64)) ∧ Keeps (fun _ => False) w wr) (fun xv _ _ => (intOf xv).toNat)
  case atStart => exact ⟨k, [], rfl, HF.out, World.ownsRow_nil _ _ _ _, Keeps.refl _ _⟩
  case round =>
    obtain ⟨x, lo, rfl, hp, hown, hkw⟩ := hrel
    have HO := Lib.hid hown; have KW := Lib.hid hkw; have HP := Lib.hid hp
    clear hown hkw hp
    by_cases h1 : x ≤ 1
    · have hx1 : x = 1 := by have := HP.out.ne; omega
      subst hx1
      go_wp2_with fail
      refine bodyPost_ret (results_tmp2 rfl _ _ _) rfl ?_
      exact ⟨_, lo, rfl, by unfold Ints; rw [show (intsP lo).length = lo.length from by unfold intsP; rw [List.length_map]]; exact Sl.of_own HO.out, fun p hp => (HP.out.low p hp).2, by have h1 := HP.out.len; have h2 := HM.out.ok.lev_le 1; omega, HP.out.done, KW.out⟩
    · have q1 : decide ((1 : Int) < (x : Int)) = true := by simp; omega
      have q1' : decide (1 < x) = true := by simp; omega
      obtain ⟨i, n, rfl, hn⟩ := node_at (by omega) HP.out.lt
      have hm2 := HM.out.keeps KW.out (fun h => h) (fun h => h) (fun h => h) (fun _ _ h => h)
      obtain ⟨g, cap, rfl, d0, d1, d2, hmx⟩ := hm2.node hn
      have c4 : wr.cell? ⟨sb, 1, none⟩ = some (.slice (some ⟨g, 0, none⟩) N.length cap) := (cell_of_blk hm2.blk).trans rfl
      have l4 := lt_of_heap hm2.blk
      have hi : i < N.length := (List.getElem?_eq_some_iff.1 hn).1
      have hmx' : N.length ≤ 9223372036854775807 := by unfold maxLen at hmx; omega
      have i1 : (((i + 2 : Nat) : Int) - 2) = (i : Int) := by omega
      have i2 : (0 : Int) ≤ (i : Int) := by omega
      have i3 : (i : Int) < (N.length : Int) := by omega
      have HX := Lib.hid (heap_alloc_new wr (.cells #[.int .i64 (n.lv : Int), .int .i64 (n.lo : Int), .int .i64 (n.hi : Int)] 110))
      have K1 := Lib.hid (KW.out.alloc (.cells #[.int .i64 (n.lv : Int), .int .i64 (n.lo : Int), .int .i64 (n.hi : Int)] 110))
      have HO1 := Lib.hid (World.ownsRow.alloc HO.out (.cells #[.int .i64 (n.lv : Int), .int .i64 (n.lo : Int), .int .i64 (n.hi : Int)] 110))
      have HNN := Lib.hid hn
      have HLB := Lib.hid (show n.lo < i + 2 ∧ n.hi < i + 2 ∧ n.lv < L ∧ lo.length ≤ 24 from ⟨HM.out.ok.lo _ _ hn, HM.out.ok.hi _ _ hn, HM.out.ok.lv _ _ hn, by have h1 := HP.out.len; have h2 := HM.out.ok.lev_le (i + 2); omega⟩)
      clear hm2 hn hmx h1
      go_upto_region 4 with fail
      generalize (wr.alloc (.cells #[.int .i64 (n.lv : Int), .int .i64 (n.lo : Int), .int .i64 (n.hi : Int)] 110)) = w1 at HX K1 HO1 ⊢
      generalize wr.heap.size = bx at HX ⊢
      have x0 : w1.cell? ⟨bx, 0, none⟩ = some (.int .i64 (n.lv : Int)) := by simp [World.cell?, HX.out]
      have x1 : w1.cell? ⟨bx, 1, none⟩ = some (.int .i64 (n.lo : Int)) := by simp [World.cell?, HX.out]
      have x2 : w1.cell? ⟨bx, 2, none⟩ = some (.int .i64 (n.hi : Int)) := by simp [World.cell?, HX.out]
      have xl := lt_of_heap HX.out
      clear c4 d0 d1 d2 l4 hi hmx' i1 i2 i3 q1 q1'
      by_cases h0 : n.lo = 0
      · have q2 : ((n.lo : Int) == 0) = true := by simp [h0]
        have q3 : (n.lo == 0) = true := by simp [h0]
        have HN := Lib.hid (HP.out.up HM.out.ok HNN.out h0)
        obtain ⟨av, cv, hv⟩ := ownsRow_form1 HO1.out
        subst hv
        have hl24 : lo.length ≤ 24 := HLB.out.2.2.2
        have hsz := K1.out.size
        go_wp2_with (at_builtin; refine wpList_append_lies _ rfl _ _ _ rfl w.heap.size 3 i0 _ 1 8 Tryz.underlying22 hi0 hz0 hz1 hz2 rfl (by omega) _ lo.length ((intsP lo).map (Value.int .i64)) (by rfl) (World.ownsRow.alloc (o := .cells #[.int .i64 (n.lv : Int)] 3) HO1.out) ⟨w1.heap.size, 0, none⟩ 1 1 [.int .i64 (n.lv : Int)] (by rfl) (by rfl) ?hnews ?hone (by omega) (by unfold maxLen; omega) (by omega) (by simp; omega) (w1.heap.size + 1) (by simp) ?_)
        case hnews => exact World.news_of_block (cs := #[.int .i64 (n.lv : Int)]) (t := 3) (fr := (0, 0)) (heap_alloc_new _ _)
        case hone => simp [Value.oneCell']
        intro g2 cap2 w4 hown hgrow hat hlt4
        have hne : ∀ q, (Value.slice av lo.length cv).ownBlock = some q → ¬ q = bx := by
          intro q hq e
          rcases HO1.out.2 with ⟨h1, _⟩ | ⟨g, cap, cur, h1, _, hg, _⟩
          · rw [h1] at hq; cases hq
          · rw [h1] at hq; cases hq
            rw [show g = bx from e] at hg
            have h2 := HX.out.symm.trans hg
            simp only [Option.some.injEq, Obj.cells.injEq] at h2
            exact absurd h2.2.1 (by decide)
        have KA := (Keeps.refl (fun _ => False) w1).alloc (.cells #[.int .i64 (n.lv : Int)] 3)
        have HX4 := (steady_keeps hgrow).heap (KA.heap HX.out (fun h => h)) (fun h => hne _ h rfl)
        have x4 : w4.cell? ⟨bx, 2, none⟩ = some (.int .i64 (n.hi : Int)) := by simp [World.cell?, HX4]
        have HNO := Lib.hid (show w4.ownsRow w.heap.size 3 1 (.slice (some ⟨g2, 0, none⟩) (lo.length + 1) cap2) (lo ++ [n.lv]).length ((intsP (lo ++ [n.lv])).map (Value.int .i64)) from by
          rw [List.length_append, List.length_singleton, show intsP (lo ++ [n.lv]) = intsP lo ++ [(n.lv : Int)] from by simp [intsP], List.map_append]
          exact hown)
        have HKN := Lib.hid (own_grown HO1.out K1.out KA hgrow)
        clear hne KA HX4 hown hgrow hat x0 x1 x2
        go_wp2_with fail
        go_roundw
        case rel => exact ⟨n.hi, lo ++ [n.lv], rfl, HN.out, HNO.out, HKN.out⟩
        case measure => simp [intOf]; have := HLB.out.2.1; omega
      · have q2 : ((n.lo : Int) == 0) = false := by simp; omega
        have q3 : (n.lo == 0) = false := by simp; omega
        have HN := Lib.hid (HP.out.down HM.out.ok HNN.out h0)
        go_wp2_with fail
        go_roundw
        case rel => exact ⟨n.lo, lo, rfl, HN.out, HO1.out, K1.out⟩
        case measure => simp [intOf]; have := HLB.out.1; omega

end Go.Proofs.YtjcgkmodmjckjaaGreat
