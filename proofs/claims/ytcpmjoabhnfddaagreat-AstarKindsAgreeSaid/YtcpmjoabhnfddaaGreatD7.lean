/- space.Distances, space.Optimal. strips: sets, states and plans in plain words. Plans and the table of costs, in plain words. The least price of a plan, in plain Lean: what a search for best plans must find. A search from both ends, in plain Lean: what its two sides know, and that they have met on a best way when it ends. A search from both ends, in plain Lean: the way back from a state, the measure of the search, its start, and the best plan at its end. A search from both ends, in plain Lean: the state in the middle, and the costs of both parts. A search from both ends, in plain Lean: the arcs of both sides. strips.Contains, Update, Can, Next. strips.Solves, Cost, Play. breadth: BreadthAgreesWithSteps walked. CostOf: the cost of a plan. novelty.Plan. A search by novelty of a width that no state exceeds finds a plan if there is one, in plain words. The reference's BestPlans and BestFault. No condition beyond what each theorem says. -/
import Derived.Test.YtcpmjoabhnfddaaGreatD6
import Derived.Lib.SlicesCompact
import Derived.Test.YtcpmjoabhnfddaaGreatD4
import Derived.Sort.OwnSortedInts
import Derived.Test.YtcpmjoabhnfddaaGreatD1
import Derived.Test.YtcpmjoabhnfddaaGreatD3
import Derived.BigQuiet

namespace Go.Proofs.YtcpmjoabhnfddaaGreat
open Go.RowKit

def OptPost (t : Tsk) (w : World) (e : Ending) (w' : World) : Prop := Keeps (fun _ => False) w w' ∧
  ((∃ c i, c ≠ 0 ∧ expF t = (c, i) ∧ e = .returned (.tuple #[.int .i64 0, fltV c i])) ∨
   (t.Ok ∧ ∃ (l ws : List Nat) (D : Nat → Int), explored t = some l ∧ ws.Perm l ∧ ws.Pairwise ordW ∧ CostOk (arcs (wordsOf t.ops) ws) (ws.map (goalB (wd t.goal))) (ws.map D) ∧ e = .returned (.tuple #[.int .i64 (D (wd t.init)), fltV 0 0])))

/-- What Costs asks for. -/
theorem costs_need {t : Tsk} (ok : t.Ok) {l ws : List Nat} (hx : explored t = some l) (hp : ws.Perm l) :
    wd t.init < 4294967296 ∧ wd t.goal < 4294967296 ∧ (wordsOf t.ops).length ≤ 40 ∧ Shut (wordsOf t.ops) ws ∧ ws.length ≤ 2000 ∧ (∀ x ∈ ws, x < 4294967296) ∧ (∀ o ∈ wordsOf t.ops, 0 ≤ o.cost ∧ o.cost ≤ 1000000) ∧ wd t.init ∈ ws := by
  have hs32 : wd t.init < 4294967296 := wd_lt32 (by have := ok.n1; omega : t.n ≤ 32) ok.init
  have hg32 : wd t.goal < 4294967296 := wd_lt32 (by have := ok.n1; omega : t.n ≤ 32) ok.goal
  have hsh := shut_reached (ops := wordsOf t.ops) (s := wd t.init) (L := l) hx
  have hr := reached_some (ops := wordsOf t.ops) (s := wd t.init) (l := l) hx
  refine ⟨hs32, hg32, by unfold wordsOf; rw [List.length_map]; exact ok.few, ⟨hp.nodup_iff.2 hsh.1, fun x h o ho hc => hp.mem_iff.2 (hsh.2 x (hp.mem_iff.1 h) o ho hc)⟩, by rw [hp.length_eq]; exact hr.2.1, fun x h => reach_small (wops_ok ok) hs32 ((hr.2.2.2 x).1 (hp.mem_iff.1 h)), fun o ho => ?_, hp.mem_iff.2 (List.mem_of_getElem? hr.2.2.1)⟩
  unfold wordsOf at ho
  obtain ⟨o', ho', rfl⟩ := List.mem_map.1 ho
  have h := ok.ops o' ho'
  have hc : o'.word.cost = o'.cost := rfl
  rw [hc]
  exact ⟨h.cost0, by have := h.cost1; omega⟩

set_option maxRecDepth 100000 in
set_option maxHeartbeats 2000000 in
theorem optimal_any (w : World) (vi vg vo : Value) (t : Tsk) (h : TaskAt w vi vg vo t) :
    Calls Tryz.prog 37 #[.agg #[.int .i64 t.n, vi, vg, vo]] w (OptPost t w) := by
  obtain ⟨j0, hj0, jz0, jz1, jz2⟩ := info_parts Tryz.info3
  obtain ⟨ai, ci, h1, _⟩ := h.init.form
  obtain ⟨ag, cg, h2, _⟩ := h.goal.form
  obtain ⟨ao, co, h3, hmo⟩ := h.ops.form
  subst h1 h2 h3
  have K1 := (Keeps.refl (fun _ => False) w).alloc (.cells #[.int .i64 t.n, .slice ai t.init.length ci, .slice ag t.goal.length cg, .slice ao t.ops.length co] 25)
  have HT := h.keeps0 (K1.alloc (.cells #[.int .i64 0, .int .i64 0] 31))
  have HB := (Four.new w (.int .i64 t.n) (.slice ai t.init.length ci) (.slice ag t.goal.length cg) (.slice ao t.ops.length co) 25).keeps0 ((Keeps.refl _ _).alloc (.cells #[.int .i64 0, .int .i64 0] 31))
  have HF : Flt w ((w.alloc (.cells #[.int .i64 t.n, .slice ai t.init.length ci, .slice ag t.goal.length cg, .slice ao t.ops.length co] 25)).alloc (.cells #[.int .i64 0, .int .i64 0] 31)) (w.heap.size + 1) 31 :=
    ⟨by have := heap_alloc_new (w.alloc (.cells #[.int .i64 t.n, .slice ai t.init.length ci, .slice ag t.goal.length cg, .slice ao t.ops.length co] 25)) (.cells #[.int .i64 0, .int .i64 0] 31); rwa [World.size_alloc] at this, by omega, K1.alloc _⟩
  replace HT := Lib.hid HT; replace HB := Lib.hid HB; replace HF := Lib.hid HF
  clear h K1
  go_enter Tryz.func37, Tryz.ntmps37
  go_upto_region 1 with fail
  generalize ((w.alloc (.cells #[.int .i64 t.n, .slice ai t.init.length ci, .slice ag t.goal.length cg, .slice ao t.ops.length co] 25)).alloc (.cells #[.int .i64 0, .int .i64 0] 31)) = w1 at HT HB HF ⊢
  have hbx := HB.out.lt
  obtain ⟨d0, d1, d2, d3⟩ := HB.out
  go_wp2_with fail
  refine (checked_any _ _ _ _ t HT.out).mono ?_; rintro e w2 ⟨hk, hr⟩
  have HF2 := Lib.hid (HF.out.keeps0 hk)
  clear d0 d1 d2 d3 hk
  have hb0 := HF2.out.keep.size
  rcases hr with ⟨hc, rfl⟩ | ⟨hok, hx, rfl⟩ | ⟨hok, l, hx, b, v, vl, ws, rfl, hw, hperm, hord, hown⟩
  · have hc2 : ((taskFault t).1 == 0) = false := by simpa using hc
    have HE := Lib.hid (show expF t = taskFault t by unfold expF; rw [if_neg hc])
    have HC := Lib.hid hc
    clear hc
    generalize hfe : taskFault t = f at hc2 HC HE ⊢
    clear hfe
    have HF3 := Lib.hid (HF2.out.keeps0 ((Keeps.refl _ _).alloc (.cells #[.int .i64 f.1, .int .i64 f.2] 31)))
    obtain ⟨e0, e1, z0, z1, hF⟩ := HF3.out.cells
    go_wp2_with fail
    go_region
    all_goals
      go_wp2
      refine bodyPost_ret (results_tmp_cell _ _ (w.heap.size + 1) 31 #[.int .i64 f.1, .int .i64 f.2] (0, 0) _ rfl rfl (((Keeps.refl (fun _ => False) _).drew).heap (HF3.out.set (.int .i64 f.1) (.int .i64 f.2)).1 (fun h => h)) Tryz.underlying31 rfl (by kernel_rfl)) rfl ?_
      exact ⟨((HF3.out.set (.int .i64 f.1) (.int .i64 f.2)).2).drew, .inl ⟨f.1, f.2, HC.out, HE.out, rfl⟩⟩
  · have HE := Lib.hid (show expF t = (10, -7) by unfold expF; rw [if_pos (taskFault_zero.2 hok), hx])
    clear hx hok
    have HF3 := Lib.hid (HF2.out.keeps0 ((Keeps.refl _ _).alloc (.cells #[.int .i64 10, .int .i64 (-7)] 31)))
    obtain ⟨e0, e1, z0, z1, hF⟩ := HF3.out.cells
    go_wp2_with fail
    go_region
    all_goals
      go_wp2
      refine bodyPost_ret (results_tmp_cell _ _ (w.heap.size + 1) 31 #[.int .i64 10, .int .i64 (-7)] (0, 0) _ rfl rfl (((Keeps.refl (fun _ => False) _).drew).heap (HF3.out.set (.int .i64 10) (.int .i64 (-7))).1 (fun h => h)) Tryz.underlying31 rfl (by kernel_rfl)) rfl ?_
      exact ⟨((HF3.out.set (.int .i64 10) (.int .i64 (-7))).2).drew, .inl ⟨10, -7, by decide, HE.out, rfl⟩⟩
  · have HX := Lib.hid hx; have OK := Lib.hid hok; have PERM := Lib.hid hperm; have ORD := Lib.hid (show ws.Pairwise ordW from hord)
    obtain ⟨n1, n2, n3, n4, hfew, n6, n7, n8⟩ := costs_need hok hx hperm
    have KA := (Keeps.refl (fun _ => False) w2).alloc (.cells #[.int .i64 0, .int .i64 0] 31)
    have HV := Lib.hid (show Sl _ vl ws.length (ws.map encW) from (Sl.of_own hown).keeps0 KA)
    have HWA := Lib.hid (hw.keeps0 KA)
    have HF3 := Lib.hid (HF2.out.keeps0 KA)
    obtain ⟨av, cv, hav⟩ := ownsRow_form1 hown
    subst hav
    have HN := Lib.hid (And.intro n2 (And.intro n3 (And.intro n4 (And.intro n6 (And.intro n7 n8)))))
    clear hx hok hw KA hperm hord hown n1 n2 n3 n4 n6 n7 n8
    have F0 := heap_alloc_new w2 (.cells #[.int .i64 0, .int .i64 0] 31)
    go_upto_region 2 with fail
    generalize w2.alloc (.cells #[.int .i64 0, .int .i64 0] 31) = w3 at HV HF3 HWA F0 ⊢
    have f0 : w3.cell? ⟨w2.heap.size, 0, none⟩ = some (.int .i64 0) := by rw [cell_of_blk F0]; rfl
    have f1 : w3.cell? ⟨w2.heap.size, 1, none⟩ = some (.int .i64 0) := by rw [cell_of_blk F0]; rfl
    clear F0
    have hb2 := HF3.out.keep.size
    have hbF := HF3.out.blk
    go_wp2_with fail
    refine (costs_any w3 b (wd t.init) (wd t.goal) _ v (.slice av ws.length cv) (wordsOf t.ops) ws HWA.out (wops_ok OK.out) HN.out.2.1 HN.out.1 HN.out.2.2.1 hfew HN.out.2.2.2.1 HN.out.2.2.2.2.1 HV.out).mono ?_
    rintro e w4 ⟨hk4, bo, D, rfl, hbo, hI, hco⟩
    have HI := Lib.hid hI; have HCO := Lib.hid hco; have HF4 := Lib.hid (HF3.out.keeps0 hk4); have HW4 := Lib.hid (HWA.out.keeps0 hk4)
    clear hI hco hk4 f0 f1 hbF HF3 HV HWA
    go_wp2_with fail
    refine (start_any _ _ _ _ _ _ _ HW4.out).mono ?_; rintro e w5 ⟨rfl, rfl⟩
    have hlk := (HI.out.run_lookup_hit (P := Tryz.prog) Tryz.underlying75 Tryz.underlying77 (outV_nodup HN.out.2.2.1.1 D) (outV_mem D HN.out.2.2.2.2.2)).2
    obtain ⟨e0, e1, z0, z1, hF⟩ := HF4.out.cells
    have s0 := setCell_id e0
    have s1 := setCell_id e1
    go_wp2_with fail
    refine bodyPost_ret (results_tmp_cell _ _ (w.heap.size + 1) 31 #[.int .i64 0, .int .i64 0] (0, 0) _ rfl rfl HF4.out.blk Tryz.underlying31 rfl (by kernel_rfl)) rfl ?_
    exact ⟨HF4.out.keep, .inr ⟨OK.out, l, ws, D, HX.out, PERM.out, ORD.out, HCO.out, rfl⟩⟩

end Go.Proofs.YtcpmjoabhnfddaaGreat

/- space's example. -/
namespace Go.Proofs.YtcpmjoabhnfddaaGreat
open Go.RowKit

theorem ordW_antisymm {x y : Nat} (hx : x < 4294967296) (hy : y < 4294967296) (h1 : ordW x y) (h2 : ordW y x) : x = y := by
  unfold ordW cmpW at h1 h2
  have h3 := cmpL_neg (facts x) (facts y)
  have h4 : cmpL (facts x) (facts y) = 0 := by omega
  exact facts_inj (by simpa using hx) (by simpa using hy) (cmpL_eq h4)
theorem sorted_same {a b : List Nat} (hp : a.Perm b) (ha : a.Pairwise ordW) (hb : b.Pairwise ordW) (h32 : ∀ x ∈ a, x < 4294967296) : a = b :=
  hp.eq_of_pairwise (le := ordW) (fun x y hx hy h1 h2 => ordW_antisymm (h32 x hx) (h32 y (hp.mem_iff.2 hy)) h1 h2) ha hb

theorem stepT_ws {ws l : List Nat} (hx : explored stepT = some l) (hp : ws.Perm l) (ho : ws.Pairwise ordW) : ws = [0, 1] := by
  rw [stepT_reached] at hx; cases hx
  exact sorted_same hp ho (by unfold ordW; decide) (fun x hx => by have := hp.mem_iff.1 hx; simp at this; omega)

theorem Ints.two {w : World} {b : Nat} {x y : Int} {T : TypeId} (h : w.heap[b]? = some (.cells #[.int .i64 x, .int .i64 y] T (0, 0))) : Ints w (.slice (some ⟨b, 0, none⟩) 2 2) [x, y] := by
  refine ⟨_, 2, rfl, by unfold maxLen; simp, fun _ => ⟨b, 0, rfl, fun i z hz => ?_⟩⟩
  match i, hz with
  | 0, hz => simp at hz; subst hz; rw [cell_of_blk h]; rfl
  | 1, hz => simp at hz; subst hz; rw [cell_of_blk h]; rfl
theorem Lists.two {w : World} {b c : Nat} {x : Int} {T T' : TypeId} (h : w.heap[b]? = some (.cells #[.slice none 0 0, .slice (some ⟨c, 0, none⟩) 1 1] T (0, 0))) (hc : w.heap[c]? = some (.cells #[.int .i64 x] T' (0, 0))) : Lists w (.slice (some ⟨b, 0, none⟩) 2 2) [[], [x]] := by
  refine ⟨_, 2, rfl, by unfold maxLen; simp, fun _ => ⟨b, 0, rfl, fun i l hl => ?_⟩⟩
  match i, hl with
  | 0, hl => simp at hl; subst hl; exact ⟨.slice none 0 0, by rw [cell_of_blk h]; rfl, Ints.nil _⟩
  | 1, hl => simp at hl; subst hl; exact ⟨.slice (some ⟨c, 0, none⟩) 1 1, by rw [cell_of_blk h]; rfl, Ints.one hc⟩

end Go.Proofs.YtcpmjoabhnfddaaGreat

/- space: the law that the functions are the reference's. -/
namespace Go.Proofs.YtcpmjoabhnfddaaGreat
open Go.RowKit

theorem exp_cases (t : Tsk) : (∃ c i, c ≠ 0 ∧ expF t = (c, i)) ∨ (t.Ok ∧ ∃ l, explored t = some l ∧ expF t = (0, 0)) := by
  unfold expF
  by_cases h : (taskFault t).1 = 0
  · rw [if_pos h]
    cases hx : explored t with
    | none => exact .inl ⟨10, -7, by decide, rfl⟩
    | some l => exact .inr ⟨taskFault_zero.1 h, l, rfl, rfl⟩
  · rw [if_neg h]
    exact .inl ⟨_, _, h, rfl⟩
section
variable {w : World} {vi vg vo : Value} {t : Tsk}
end

end Go.Proofs.YtcpmjoabhnfddaaGreat

/- space: SpaceFunctionsMatchSpec walked. -/
namespace Go.Proofs.YtcpmjoabhnfddaaGreat
open Go.RowKit

end Go.Proofs.YtcpmjoabhnfddaaGreat

namespace Go.Proofs.YtcpmjoabhnfddaaGreat

/-! ### sets -/
theorem compact_sorted (d : Array Int) (hs : ∀ i j, i ≤ j → j < d.size → d[i]! ≤ d[j]!) : ∀ m, m ≤ d.size →
    (Lib.compactUpTo d m).Pairwise (· < ·) ∧ (∀ x, x ∈ Lib.compactUpTo d m ↔ ∃ j, j < m ∧ d[j]! = x)
  | 0, _ => ⟨by simp [Lib.compactUpTo], fun x => by simp [Lib.compactUpTo]⟩
  | m + 1, hm => by
    obtain ⟨h1, h2⟩ := compact_sorted d hs m (by omega)
    rw [Lib.compactUpTo_succ]
    by_cases hk : Lib.keeps d m = true
    · rw [if_pos hk]
      have hlt : ∀ x ∈ Lib.compactUpTo d m, x < d[m]! := fun x hx => by
        obtain ⟨j, hj, rfl⟩ := (h2 x).1 hx
        have e1 := hs j (m - 1) (by omega) (by omega)
        have e2 := hs (m - 1) m (by omega) (by omega)
        have e3 : d[m]! ≠ d[m - 1]! := by
          unfold Lib.keeps at hk
          rcases of_decide_eq_true hk with h | h
          · omega
          · exact h
        omega
      refine ⟨List.pairwise_append.2 ⟨h1, by simp, fun a ha b hb => by rw [List.mem_singleton] at hb; subst hb; exact hlt a ha⟩, fun x => ?_⟩
      rw [List.mem_append, h2, List.mem_singleton]
      constructor
      · rintro (⟨j, hj, e⟩ | h)
        · exact ⟨j, by omega, e⟩
        · exact ⟨m, by omega, h.symm⟩
      · rintro ⟨j, hj, e⟩
        by_cases hjm : j = m
        · subst hjm; exact .inr e.symm
        · exact .inl ⟨j, by omega, e⟩
    · have hk' : m ≠ 0 ∧ d[m]! = d[m - 1]! := by
        unfold Lib.keeps at hk
        rw [decide_eq_true_eq] at hk
        exact ⟨fun h => hk (.inl h), Decidable.byContradiction fun h => hk (.inr h)⟩
      rw [if_neg hk, List.append_nil]
      refine ⟨h1, fun x => ?_⟩
      rw [h2]
      constructor
      · rintro ⟨j, hj, e⟩; exact ⟨j, by omega, e⟩
      · rintro ⟨j, hj, e⟩
        by_cases hjm : j = m
        · subst hjm; exact ⟨j - 1, by omega, by rw [← hk'.2]; exact e⟩
        · exact ⟨j, by omega, e⟩

theorem compact_list {l : List Int} (hs : l.Pairwise (· ≤ ·)) : (Lib.compact l).Pairwise (· < ·) ∧ ∀ x, x ∈ Lib.compact l ↔ x ∈ l := by
  have hs' : ∀ i j, i ≤ j → j < l.toArray.size → l.toArray[i]! ≤ l.toArray[j]! := fun i j hij hj => by
    have hj' : j < l.length := by simpa using hj
    rw [getElem!_pos l.toArray i (by simp; omega), getElem!_pos l.toArray j hj]
    simp only [List.getElem_toArray]
    rcases Nat.lt_or_ge i j with h | h
    · exact List.pairwise_iff_getElem.1 hs i j (by omega) hj' h
    · have : i = j := by omega
      subst this; exact Int.le_refl _
  obtain ⟨h1, h2⟩ := compact_sorted l.toArray hs' l.length (by simp)
  have e : Lib.compact l = Lib.compactUpTo l.toArray l.length := by unfold Lib.compact; simp
  rw [e]
  refine ⟨h1, fun x => ?_⟩
  rw [h2]
  constructor
  · rintro ⟨j, hj, rfl⟩
    rw [getElem!_pos l.toArray j (by simpa using hj)]
    simp
  · intro h
    obtain ⟨j, hj, e⟩ := List.mem_iff_getElem.1 h
    exact ⟨j, hj, by rw [getElem!_pos l.toArray j (by simpa using hj)]; simpa using e⟩

def preL (s add del : List Int) : List Int := (s.filter fun x => !decide (x ∈ del)) ++ add
def updL (s add del : List Int) : List Int := Lib.compact ((preL s add del).mergeSort fun x y => decide (x ≤ y))
theorem sort_sorted (l : List Int) : (l.mergeSort fun x y => decide (x ≤ y)).Pairwise (· ≤ ·) := by
  have := List.pairwise_mergeSort (le := fun x y : Int => decide (x ≤ y)) (fun a b c h1 h2 => by simp at *; omega) (fun a b => by simp; omega) l
  exact this.imp (fun h => by simpa using h)
theorem updL_spec (s add del : List Int) : (updL s add del).Pairwise (· < ·) ∧ ∀ x, x ∈ updL s add del ↔ (x ∈ s ∧ x ∉ del) ∨ x ∈ add := by
  obtain ⟨h1, h2⟩ := compact_list (sort_sorted (preL s add del))
  refine ⟨h1, fun x => ?_⟩
  unfold updL
  rw [h2, List.mem_mergeSort, preL, List.mem_append, List.mem_filter]
  simp
theorem preL_len (s add del : List Int) : (preL s add del).length ≤ s.length + add.length := by
  unfold preL; rw [List.length_append]
  have := List.length_filter_le (fun x => !decide (x ∈ del)) s
  omega

/-! ### plans -/
end Go.Proofs.YtcpmjoabhnfddaaGreat

namespace Go.Proofs.YtcpmjoabhnfddaaGreat

def costN (ops : List Wop) : List Nat → Int
  | [] => 0
  | a :: r => ((ops[a]?.map Wop.cost).getD 0) + costN ops r
theorem costN_bound {ops : List Wop} (h : ∀ o ∈ ops, 0 ≤ o.cost ∧ o.cost ≤ 100) : ∀ p : List Nat, 0 ≤ costN ops p ∧ costN ops p ≤ 100 * (p.length : Int)
  | [] => by simp [costN]
  | a :: r => by
    have h2 := costN_bound h r
    rw [costN]
    cases ho : ops[a]? with
    | none => simp; omega
    | some o =>
      have h1 := h o (List.mem_of_getElem? ho)
      simp; omega

theorem down_of_run {ops : List Wop} {L : List Nat} (hsh : Shut ops L) {acc : Nat → Bool} : ∀ {p : List Nat} {x y i : Nat}, L[i]? = some x → runOps ops x p = some y → acc y = true → Down (arcs ops L) (L.map acc) i (costN ops p)
  | [], x, y, i, hi, hr, ha => by cases hr; exact .nil (by rw [List.getElem?_map, hi]; simp [ha])
  | a :: p, x, y, i, hi, hr, ha => by
    rw [runOps] at hr
    cases ho : ops[a]? with
    | none => rw [ho] at hr; cases hr
    | some o =>
      rw [ho] at hr; simp only at hr
      by_cases hc : o.can x = true
      · rw [if_pos hc] at hr
        have hm := hsh.2 x (List.mem_of_getElem? hi) o (List.mem_of_getElem? ho) hc
        obtain ⟨j, hj⟩ := List.mem_iff_getElem?.1 hm
        have hd := down_of_run hsh hj hr ha
        have := Down.cons (a := ⟨i, j, a, o.cost⟩) (mem_arcs.2 ⟨x, o, hi, ho, hc, rfl, hj⟩) hd
        rw [costN, ho]; exact this
      · rw [if_neg hc] at hr; cases hr

theorem run_of_down {ops : List Wop} {L : List Nat} {acc : Nat → Bool} {i : Nat} {c : Int} (h : Down (arcs ops L) (L.map acc) i c) : ∀ x, L[i]? = some x → ∃ p y, runOps ops x p = some y ∧ acc y = true := by
  induction h with
  | nil h =>
    intro x hx
    rw [List.getElem?_map, hx] at h
    exact ⟨[], x, rfl, by simpa using h⟩
  | cons ha _ ih =>
    intro x hx
    obtain ⟨x', o, h1, h2, h3, h4, h5⟩ := mem_arcs.1 ha
    rw [h1] at hx; cases hx
    obtain ⟨p, y, hp, hy⟩ := ih _ h5
    exact ⟨_ :: p, y, by rw [runOps, h2]; simp only [h3, if_true]; exact hp, hy⟩

section
variable {ops : List Wop} {L : List Nat} {acc : Nat → Bool} {D : Nat → Int}
theorem arcs_cost0 (h0 : ∀ o ∈ ops, 0 ≤ o.cost ∧ o.cost ≤ 100) : ∀ a ∈ arcs ops L, 0 ≤ a.cost := fun a ha => by
  obtain ⟨y, o, _, h2, _, h4, _⟩ := mem_arcs.1 ha
  rw [h4]; exact (h0 o (List.mem_of_getElem? h2)).1
theorem opt_some (h : CostOk (arcs ops L) (L.map acc) (L.map D)) {x : Nat} (hx : x ∈ L) (hd : D x < bigC) : ∃ p y, runOps ops x p = some y ∧ acc y = true := by
  obtain ⟨i, hi⟩ := List.mem_iff_getElem?.1 hx
  exact run_of_down (h.real i (D x) (by rw [List.getElem?_map, hi]; rfl) hd) x hi
/-! ### the finite costs are small -/
def below (L : List Nat) (D : Nat → Int) (z : Int) : Nat := (L.filter fun y => decide (D y < z)).length
end

end Go.Proofs.YtcpmjoabhnfddaaGreat

namespace Go.Proofs.YtcpmjoabhnfddaaGreat

/-- k for each cost, st for each step. -/
def wayN (k st : Int) (ops : List Wop) (p : List Nat) : Int := k * costN ops p + st * (p.length : Int)
theorem wayN_nil (k st : Int) (ops : List Wop) : wayN k st ops [] = 0 := by unfold wayN costN; simp
theorem costN_append (ops : List Wop) : ∀ p q : List Nat, costN ops (p ++ q) = costN ops p + costN ops q
  | [], q => by simp [costN]
  | a :: p, q => by rw [List.cons_append, costN, costN, costN_append ops p q]; omega
theorem wayN_append (k st : Int) (ops : List Wop) (p q : List Nat) : wayN k st ops (p ++ q) = wayN k st ops p + wayN k st ops q := by
  unfold wayN
  rw [costN_append, List.length_append, Int.natCast_add, Int.mul_add, Int.mul_add]; omega
theorem wayN_one {k st : Int} {ops : List Wop} {a : Nat} {o : Wop} (h : ops[a]? = some o) : wayN k st ops [a] = k * o.cost + st := by
  unfold wayN; simp [costN, h]
/-- A way of the arcs is a run of the operators, and the other way round. -/
theorem run_of_walk {ops : List Wop} {L : List Nat} {k st : Int} {s i : Nat} {c : Int} (h : WalkA (arcs ops L) (fun a => k * a.cost + st) s i c) {x : Nat} (hx : L[s]? = some x) : ∃ p y, L[i]? = some y ∧ runOps ops x p = some y ∧ wayN k st ops p = c := by
  induction h with
  | nil => exact ⟨[], x, hx, rfl, wayN_nil _ _ _⟩
  | @snoc a _ _ ha ih =>
    obtain ⟨p, y, hy, hr, hc⟩ := ih
    obtain ⟨y', o, h1, h2, h3, h4, h5⟩ := mem_arcs.1 ha
    rw [h1] at hy; cases hy
    refine ⟨p ++ [a.op], _, h5, ?_, ?_⟩
    · rw [runOps_append, hr]; simp [runOps, h2, h3]
    · rw [wayN_append, hc, wayN_one h2, ← h4]
theorem walk_of_run {ops : List Wop} {L : List Nat} (hsh : Shut ops L) {k st : Int} {s : Nat} : ∀ {p : List Nat} {x y i : Nat} {c : Int}, WalkA (arcs ops L) (fun a => k * a.cost + st) s i c → L[i]? = some x → runOps ops x p = some y → ∃ j, L[j]? = some y ∧ WalkA (arcs ops L) (fun a => k * a.cost + st) s j (c + wayN k st ops p)
  | [], x, y, i, c, hw, hi, hr => by cases hr; exact ⟨i, hi, by rw [wayN_nil, Int.add_zero]; exact hw⟩
  | a :: p, x, y, i, c, hw, hi, hr => by
    rw [runOps] at hr
    cases ho : ops[a]? with
    | none => rw [ho] at hr; cases hr
    | some o =>
      rw [ho] at hr; simp only at hr
      by_cases hc : o.can x = true
      · rw [if_pos hc] at hr
        have hm := hsh.2 x (List.mem_of_getElem? hi) o (List.mem_of_getElem? ho) hc
        obtain ⟨j, hj⟩ := List.mem_iff_getElem?.1 hm
        have hd := WalkA.snoc (a := ⟨i, j, a, o.cost⟩) hw (mem_arcs.2 ⟨x, o, hi, ho, hc, rfl, hj⟩)
        obtain ⟨m, hm, hz⟩ := walk_of_run hsh hd hj hr
        refine ⟨m, hm, ?_⟩
        rw [show a :: p = [a] ++ p from rfl, wayN_append, wayN_one ho, ← Int.add_assoc]
        exact hz
      · rw [if_neg hc] at hr; cases hr

/-- b is the least price of a plan, or -1 where there is none. -/
def LeastOf (k st : Int) (ops : List Wop) (s : Nat) (acc : Nat → Bool) (b : Int) : Prop :=
  (b = -1 ∧ ∀ p y, runOps ops s p = some y → acc y = false) ∨
  (0 ≤ b ∧ (∃ p y, runOps ops s p = some y ∧ acc y = true ∧ wayN k st ops p = b) ∧ ∀ p y, runOps ops s p = some y → acc y = true → b ≤ wayN k st ops p)
theorem LeastOf.unique {k st : Int} {ops : List Wop} {s : Nat} {acc : Nat → Bool} {b b' : Int} (h : LeastOf k st ops s acc b) (h' : LeastOf k st ops s acc b') : b = b' := by
  rcases h with ⟨h1, h2⟩ | ⟨h1, ⟨p, y, hp, hy, hb⟩, h3⟩ <;> rcases h' with ⟨g1, g2⟩ | ⟨g1, ⟨q, z, hq, hz, hc⟩, g3⟩
  · rw [h1, g1]
  · rw [h2 q z hq] at hz; cases hz
  · rw [g2 p y hp] at hy; cases hy
  · have := h3 q z hq hz; have := g3 p y hp hy; omega

/-- The least price of the first i places that are goals, or -1. -/
def bestTo (d : List Int) (g : List Bool) : Nat → Int
  | 0 => -1
  | i + 1 => if g[i]? = some true ∧ (bestTo d g i < 0 ∨ d[i]?.getD 0 < bestTo d g i) then d[i]?.getD 0 else bestTo d g i
/-- It is one of the prices, and none is less. -/
theorem bestTo_spec {d : List Int} {g : List Bool} (hl : d.length = g.length) (h : ∀ x ∈ d, 0 ≤ x) : ∀ i, i ≤ d.length →
    (bestTo d g i = -1 ∧ ∀ j, j < i → g[j]? ≠ some true) ∨ (0 ≤ bestTo d g i ∧ (∃ j, j < i ∧ g[j]? = some true ∧ d[j]? = some (bestTo d g i)) ∧ ∀ j x, j < i → g[j]? = some true → d[j]? = some x → bestTo d g i ≤ x)
  | 0, _ => .inl ⟨rfl, fun j hj => by omega⟩
  | i + 1, hi => by
    have ih := bestTo_spec hl h i (by omega)
    obtain ⟨x, hx⟩ : ∃ x, d[i]? = some x := ⟨_, List.getElem?_eq_getElem (by omega)⟩
    have hx0 := h x (List.mem_of_getElem? hx)
    rw [bestTo, hx]
    simp only [Option.getD_some]
    by_cases hg : g[i]? = some true
    · by_cases hb : bestTo d g i < 0 ∨ x < bestTo d g i
      · rw [if_pos ⟨hg, hb⟩]
        refine .inr ⟨hx0, ⟨i, by omega, hg, hx⟩, fun j y hj hgj hy => ?_⟩
        by_cases hji : j = i
        · subst hji; rw [hx] at hy; cases hy; exact Int.le_refl _
        · rcases ih with ⟨_, h2⟩ | ⟨h1, _, h3⟩
          · exact absurd hgj (h2 j (by omega))
          · have := h3 j y (by omega) hgj hy; omega
      · rw [if_neg (fun e => hb e.2)]
        rcases ih with ⟨h1, _⟩ | ⟨h1, ⟨j, hj, hgj, hdj⟩, h3⟩
        · omega
        · refine .inr ⟨h1, ⟨j, by omega, hgj, hdj⟩, fun j' y hj' hgj' hy => ?_⟩
          by_cases hji : j' = i
          · subst hji; rw [hx] at hy; cases hy; omega
          · exact h3 j' y (by omega) hgj' hy
    · rw [if_neg (fun e => hg e.1)]
      rcases ih with ⟨h1, h2⟩ | ⟨h1, ⟨j, hj, hgj, hdj⟩, h3⟩
      · refine .inl ⟨h1, fun j hj => ?_⟩
        by_cases hji : j = i
        · subst hji; exact hg
        · exact h2 j (by omega)
      · refine .inr ⟨h1, ⟨j, by omega, hgj, hdj⟩, fun j' y hj' hgj' hy => ?_⟩
        by_cases hji : j' = i
        · subst hji; exact absurd hgj' hg
        · exact h3 j' y (by omega) hgj' hy

/-- All reached states have a price. -/
theorem PriOk.low {ops : List Wop} {s : Nat} {L : List Nat} (hsh : Shut ops L) (hr : ∀ x ∈ L, ∃ p, runOps ops s p = some x) {i0 : Nat} (h0 : L[i0]? = some s) {k st : Int} {d : List Int} (hA : ∀ a ∈ arcs ops L, 0 ≤ k * a.cost + st) (h : PriOk (arcs ops L) (fun a => k * a.cost + st) L.length i0 d) : ∀ x ∈ d, 0 ≤ x := by
  intro z hz
  obtain ⟨i, hi⟩ := List.mem_iff_getElem?.1 hz
  have hil : i < L.length := by rw [← h.len]; exact (List.getElem?_eq_some_iff.1 hi).1
  obtain ⟨x, hx⟩ : ∃ x, L[i]? = some x := ⟨_, List.getElem?_eq_getElem hil⟩
  obtain ⟨p, hp⟩ := hr x (List.mem_of_getElem? hx)
  obtain ⟨j, hj, hw⟩ := walk_of_run hsh .nil h0 hp
  obtain rfl : j = i := nodup_ix hsh.1 hj hx
  obtain ⟨_, y, hy, hy0, _⟩ := h.walk hA hw
  rw [hi] at hy; cases hy; exact hy0
/-- The least price over the goals is the least price of a plan. -/
theorem best_of_prices {ops : List Wop} {s : Nat} {L : List Nat} (hsh : Shut ops L) (hr : ∀ x ∈ L, ∃ p, runOps ops s p = some x) {i0 : Nat} (h0 : L[i0]? = some s) {k st : Int} {d : List Int} (hA : ∀ a ∈ arcs ops L, 0 ≤ k * a.cost + st) (h : PriOk (arcs ops L) (fun a => k * a.cost + st) L.length i0 d) (acc : Nat → Bool) :
    LeastOf k st ops s acc (bestTo d (L.map acc) L.length) := by
  have hlow := h.low hsh hr h0 hA
  have hlen : d.length = (L.map acc).length := by rw [List.length_map]; exact h.len
  rcases bestTo_spec hlen hlow L.length (by rw [h.len]; exact Nat.le_refl _) with ⟨h1, h2⟩ | ⟨h1, ⟨j, hj, hg, hd⟩, h3⟩
  · refine .inl ⟨h1, fun p y hp => ?_⟩
    obtain ⟨j, hj, _⟩ := walk_of_run hsh (k := k) (st := st) .nil h0 hp
    have := h2 j (List.getElem?_eq_some_iff.1 hj).1
    rw [List.getElem?_map, hj] at this
    simpa using this
  · refine .inr ⟨h1, ?_, fun p y hp hy => ?_⟩
    · obtain ⟨p, y, hy, hr', hc⟩ := run_of_walk (h.real j _ hd h1) h0
      rw [List.getElem?_map, hy] at hg
      exact ⟨p, y, hr', by simpa using hg, hc⟩
    · obtain ⟨m, hm, hw⟩ := walk_of_run hsh (k := k) (st := st) .nil h0 hp
      obtain ⟨_, x, hx, _, hxc⟩ := h.walk hA hw
      have := h3 m x (List.getElem?_eq_some_iff.1 hm).1 (by rw [List.getElem?_map, hm]; simp [hy]) hx
      omega

end Go.Proofs.YtcpmjoabhnfddaaGreat

namespace Go.Proofs.YtcpmjoabhnfddaaGreat

structure SArc where
  op : Nat
  price : Int
  to : Nat

/-- How many states of L have a price. -/
def knownB (L : List Nat) (P : Nat → Option Int) : Nat := L.countP fun x => (P x).isSome
/-- The prices after one of them is set. -/
def putP {α : Type} (P : Nat → Option α) (x : Nat) (v : α) : Nat → Option α := fun y => if y = x then some v else P y
theorem putP_same {α : Type} (P : Nat → Option α) (x : Nat) (v : α) : putP P x v x = some v := by simp [putP]
theorem putP_other {α : Type} (P : Nat → Option α) {x y : Nat} (v : α) (h : y ≠ x) : putP P x v y = P y := by simp [putP, h]
theorem knownB_put {L : List Nat} {P : Nat → Option Int} {x : Nat} {v : Int} (hn : L.Nodup) (hx : x ∈ L) (hP : P x = none) : knownB L (putP P x v) = knownB L P + 1 := by
  unfold knownB
  induction L with
  | nil => simp at hx
  | cons y r ih =>
    rw [List.nodup_cons] at hn
    by_cases hyx : y = x
    · subst hyx
      rw [List.countP_cons, List.countP_cons, putP_same, hP]
      have : r.countP (fun z => (putP P y v z).isSome) = r.countP fun z => (P z).isSome := by
        apply List.countP_congr
        intro z hz
        rw [putP_other P v (fun e => hn.1 (by rw [← e]; exact hz))]
      simp [this]
    · have hxr : x ∈ r := by
        rcases List.mem_cons.1 hx with h | h
        · exact absurd h.symm hyx
        · exact h
      rw [List.countP_cons, List.countP_cons, putP_other P v hyx, ih hn.2 hxr]; omega
theorem knownB_same {L : List Nat} {P : Nat → Option Int} {x : Nat} {v u : Int} (hP : P x = some u) : knownB L (putP P x v) = knownB L P := by
  unfold knownB
  apply List.countP_congr
  intro z _
  by_cases h : z = x
  · subst h; rw [putP_same, hP]; simp
  · rw [putP_other P v h]
theorem knownB_le (L : List Nat) (P : Nat → Option Int) : knownB L P ≤ L.length := List.countP_le_length

/-- What stays of a side while arcs of the state s are looked at: the arcs in R are still to do. -/
structure SideI (G : Nat → List SArc) (S0 : Nat → Prop) (L : List Nat) (C : Int) (P : Nat → Option Int) (par : Nat → Option SArc) (A : List (Int × Int)) (s : Nat) (R : List SArc) : Prop where
  dom : ∀ x p, P x = some p → x ∈ L
  lo : ∀ x p, P x = some p → 0 ≤ p ∧ p ≤ C * (knownB L P : Int)
  start : ∀ x, S0 x → P x = some 0 ∧ par x = none
  from_ : ∀ x p, P x = some p → ¬ S0 x → ∃ a, par x = some a ∧ ⟨a.op, a.price, x⟩ ∈ G a.to ∧ ∃ q, P a.to = some q ∧ q + a.price ≤ p
  key : ∀ z ∈ A, ∃ x : Nat, z.1 = (x : Int) ∧ P x = some z.2
  pend : ∀ x p, P x = some p → ((x : Int), p) ∈ A ∨ ∀ a ∈ G x, (∃ q, P a.to = some q ∧ q ≤ p + a.price) ∨ (x = s ∧ a ∈ R)
theorem SideI.anyS {G : Nat → List SArc} {S0 : Nat → Prop} {L : List Nat} {C : Int} {P : Nat → Option Int} {par : Nat → Option SArc} {A : List (Int × Int)} {s s' : Nat} (h : SideI G S0 L C P par A s []) : SideI G S0 L C P par A s' [] :=
  ⟨h.dom, h.lo, h.start, h.from_, h.key, fun x p hp => by
    rcases h.pend x p hp with h1 | h1
    · exact .inl h1
    · refine .inr fun a ha => ?_
      rcases h1 a ha with h2 | ⟨_, h2⟩
      · exact .inl h2
      · simp at h2⟩

/-- The state at the head of the queue is taken. -/
theorem SideI.take {G : Nat → List SArc} {S0 : Nat → Prop} {L : List Nat} {C : Int} {P : Nat → Option Int} {par : Nat → Option SArc} {A : List (Int × Int)} {s x : Nat} {p : Int} (h : SideI G S0 L C P par A s []) (hp : P x = some p) :
    SideI G S0 L C P par (A.filter fun z => z.1 != (x : Int)) x (G x) :=
  ⟨h.dom, h.lo, h.start, h.from_, fun z hz => h.key z (List.mem_filter.1 hz).1, fun y q hq => by
    by_cases hyx : y = x
    · subst hyx
      exact .inr fun a ha => .inr ⟨rfl, ha⟩
    · rcases h.pend y q hq with h1 | h1
      · refine .inl (List.mem_filter.2 ⟨h1, ?_⟩)
        simp; omega
      · refine .inr fun a ha => ?_
        rcases h1 a ha with h2 | ⟨_, h2⟩
        · exact .inl h2
        · simp at h2⟩
/-- An arc that leads to nothing better. -/
theorem SideI.skip {G : Nat → List SArc} {S0 : Nat → Prop} {L : List Nat} {C : Int} {P : Nat → Option Int} {par : Nat → Option SArc} {A : List (Int × Int)} {x : Nat} {p q : Int} {a : SArc} {R : List SArc} (h : SideI G S0 L C P par A x (a :: R)) (hp : P x = some p) (hq : P a.to = some q) (hle : q ≤ p + a.price) : SideI G S0 L C P par A x R :=
  ⟨h.dom, h.lo, h.start, h.from_, h.key, fun y u hu => by
    rcases h.pend y u hu with h1 | h1
    · exact .inl h1
    · refine .inr fun b hb => ?_
      rcases h1 b hb with h2 | ⟨rfl, h2⟩
      · exact .inl h2
      · rcases List.mem_cons.1 h2 with rfl | h3
        · rw [hp] at hu; cases hu; exact .inl ⟨q, hq, hle⟩
        · exact .inr ⟨rfl, h3⟩⟩
/-- An arc that gives a better price. -/
theorem SideI.fall {G : Nat → List SArc} {S0 : Nat → Prop} {L : List Nat} {C : Int} {P : Nat → Option Int} {par : Nat → Option SArc} {A : List (Int × Int)} {x : Nat} {p : Int} {a : SArc} {R : List SArc} (h : SideI G S0 L C P par A x (a :: R)) (hn : L.Nodup) (hC : ∀ y, ∀ b ∈ G y, 1 ≤ b.price ∧ b.price ≤ C) (hin : a.to ∈ L) (ha : a ∈ G x) (hp : P x = some p) (hlt : ∀ q, P a.to = some q → p + a.price < q) :
    SideI G S0 L C (putP P a.to (p + a.price)) (putP par a.to ⟨a.op, a.price, x⟩) (putA A (a.to : Int) (p + a.price)) x R := by
  have hc := hC x a ha
  have hxp := h.lo x p hp
  have hne : a.to ≠ x := fun e => by have := hlt p (by rw [e]; exact hp); omega
  have hns : ¬ S0 a.to := fun e => by have := hlt 0 (h.start _ e).1; omega
  have hkn : (knownB L P : Int) ≤ knownB L (putP P a.to (p + a.price)) ∧ (P a.to = none → (knownB L (putP P a.to (p + a.price)) : Int) = knownB L P + 1) := by
    cases hq : P a.to with
    | none => rw [knownB_put hn hin hq]; exact ⟨by omega, fun _ => by omega⟩
    | some u => rw [knownB_same hq]; exact ⟨Int.le_refl _, fun e => by cases e⟩
  have hmono : C * (knownB L P : Int) ≤ C * (knownB L (putP P a.to (p + a.price)) : Int) := Int.mul_le_mul_of_nonneg_left hkn.1 (by omega)
  refine ⟨fun y u hu => ?_, fun y u hu => ?_, fun y hy => ?_, fun y u hu hs => ?_, fun z hz => ?_, fun y u hu => ?_⟩
  · by_cases hy : y = a.to
    · subst hy; exact hin
    · rw [putP_other P _ hy] at hu; exact h.dom y u hu
  · by_cases hy : y = a.to
    · subst hy
      rw [putP_same] at hu; cases hu
      refine ⟨by omega, ?_⟩
      cases hq : P a.to with
      | none =>
        rw [hkn.2 hq, Int.mul_add]; omega
      | some u => have := hlt u hq; have := (h.lo _ u hq).2; omega
    · rw [putP_other P _ hy] at hu
      have := h.lo y u hu; omega
  · have hy' : y ≠ a.to := fun e => hns (e ▸ hy)
    rw [putP_other P _ hy', putP_other par _ hy']; exact h.start y hy
  · by_cases hy : y = a.to
    · subst hy
      rw [putP_same] at hu; cases hu
      refine ⟨⟨a.op, a.price, x⟩, putP_same _ _ _, ha, p, ?_, Int.le_refl _⟩
      rw [putP_other P _ (fun e => hne e.symm)]; exact hp
    · rw [putP_other P _ hy] at hu
      obtain ⟨b, hb, hg, q, hq, hle⟩ := h.from_ y u hu hs
      refine ⟨b, by rw [putP_other par _ hy]; exact hb, hg, ?_⟩
      by_cases hbt : b.to = a.to
      · rw [hbt, putP_same]
        have := hlt q (by rw [← hbt]; exact hq)
        exact ⟨_, rfl, by omega⟩
      · rw [putP_other P _ hbt]; exact ⟨q, hq, hle⟩
  · rcases mem_putA.1 hz with ⟨h1, h2⟩ | rfl
    · obtain ⟨y, hy, hPy⟩ := h.key z h1
      refine ⟨y, hy, ?_⟩
      rw [putP_other P _ (fun e => h2 (by rw [hy, e]))]; exact hPy
    · exact ⟨a.to, rfl, putP_same _ _ _⟩
  · by_cases hy : y = a.to
    · subst hy
      rw [putP_same] at hu; cases hu
      exact .inl (mem_putA.2 (.inr rfl))
    · rw [putP_other P _ hy] at hu
      rcases h.pend y u hu with h1 | h1
      · exact .inl (mem_putA.2 (.inl ⟨h1, by simp; omega⟩))
      · refine .inr fun b hb => ?_
        have low : ∀ q, P b.to = some q → q ≤ u + b.price → ∃ q', putP P a.to (p + a.price) b.to = some q' ∧ q' ≤ u + b.price := fun q hq hle => by
          by_cases hbt : b.to = a.to
          · rw [hbt, putP_same]
            have := hlt q (by rw [← hbt]; exact hq)
            exact ⟨_, rfl, by omega⟩
          · rw [putP_other P _ hbt]; exact ⟨q, hq, hle⟩
        rcases h1 b hb with ⟨q, hq, hle⟩ | ⟨rfl, h2⟩
        · exact .inl (low q hq hle)
        · rcases List.mem_cons.1 h2 with rfl | h3
          · rw [hp] at hu; cases hu
            exact .inl ⟨_, putP_same _ _ _, Int.le_refl _⟩
          · exact .inr ⟨rfl, h3⟩

/-! ### where the sides meet -/
/-! ### the end -/
section
variable {ops : List Wop} {L : List Nat} {Gf Gb : Nat → List SArc} {Sf Sb : Nat → Prop} {C : Int} {F B : Nat → Option Int} {pf pb : Nat → Option SArc} {Af Ab : List (Int × Int)} {sf sb : Nat} {best : Int} {at_ : Nat} {found : Bool}
end

end Go.Proofs.YtcpmjoabhnfddaaGreat

namespace Go.Proofs.YtcpmjoabhnfddaaGreat

/-- The operators from a state back to the end of a side. -/
inductive Chain (par : Nat → Option SArc) : Nat → List Nat → Nat → Prop
  | nil {x : Nat} : par x = none → Chain par x [] x
  | cons {x : Nat} {a : SArc} {out : List Nat} {e : Nat} : par x = some a → Chain par a.to out e → Chain par x (a.op :: out) e

section
variable {G : Nat → List SArc} {S0 : Nat → Prop} {L : List Nat} {C : Int} {P : Nat → Option Int} {par : Nat → Option SArc} {A : List (Int × Int)} {s : Nat}
/-- Every state with a price has a way back; the states on it fall in price, so it is no longer than L. -/
theorem SideI.chain (h : SideI G S0 L C P par A s []) (hC : ∀ y, ∀ b ∈ G y, 1 ≤ b.price) [∀ x, Decidable (S0 x)] : ∀ (n : Nat) (x : Nat) (p : Int), P x = some p → p.toNat ≤ n →
    ∃ (out : List Nat) (e : Nat) (vs : List Nat), Chain par x out e ∧ S0 e ∧ vs.length = out.length ∧ vs.Nodup ∧ (∀ y ∈ vs, ∃ q, P y = some q ∧ q ≤ p ∧ y ∈ L)
  | n, x, p, hp, hn => by
    by_cases hs : S0 x
    · exact ⟨[], x, [], .nil (h.start x hs).2, hs, rfl, List.nodup_nil, by simp⟩
    · obtain ⟨a, ha, hg, q, hq, hle⟩ := h.from_ x p hp hs
      have h1 := hC _ _ hg
      simp only at h1
      have hq0 := (h.lo _ q hq).1
      cases n with
      | zero => omega
      | succ n =>
        obtain ⟨out, e, vs, hc, he, hl, hnd, hall⟩ := SideI.chain h hC n a.to q hq (by omega)
        refine ⟨a.op :: out, e, x :: vs, .cons ha hc, he, by simp [hl], List.nodup_cons.2 ⟨fun hx => ?_, hnd⟩, fun y hy => ?_⟩
        · obtain ⟨q', hq', hle', _⟩ := hall x hx
          rw [hp] at hq'; cases hq'; omega
        · rcases List.mem_cons.1 hy with rfl | hy
          · exact ⟨p, hp, Int.le_refl _, h.dom _ _ hp⟩
          · obtain ⟨q', hq', hle', hL⟩ := hall y hy
            exact ⟨q', hq', by omega, hL⟩
theorem SideI.back (h : SideI G S0 L C P par A s []) (hC : ∀ y, ∀ b ∈ G y, 1 ≤ b.price) [∀ x, Decidable (S0 x)] {x : Nat} {p : Int} (hp : P x = some p) : ∃ out e, Chain par x out e ∧ S0 e ∧ out.length ≤ L.length := by
  obtain ⟨out, e, vs, hc, he, hl, hnd, hall⟩ := h.chain hC p.toNat x p hp (Nat.le_refl _)
  exact ⟨out, e, hc, he, by rw [← hl]; exact nodup_sub_length hnd (fun y hy => (hall y hy).choose_spec.2.2)⟩
/-- From the front side: the way back, turned round, leads to the state, for no more than its price. -/
theorem SideI.chainF {ops : List Wop} (h : SideI G S0 L C P par A s []) (hG : ∀ y, ∀ b ∈ G y, ∃ o, ops[b.op]? = some o ∧ o.can y = true ∧ b.to = o.next y ∧ b.price = 4096 * o.cost + 1) {x e : Nat} {out : List Nat} (hc : Chain par x out e) : ∀ {p : Int}, P x = some p → runOps ops e out.reverse = some x ∧ wayN 4096 1 ops out.reverse ≤ p := by
  induction hc with
  | nil hn => intro p hp; exact ⟨rfl, by rw [List.reverse_nil, wayN_nil]; exact (h.lo _ p hp).1⟩
  | @cons x a out e ha hc ih =>
    intro p hp
    have hs : ¬ S0 x := fun hs => by rw [(h.start x hs).2] at ha; cases ha
    obtain ⟨a', ha', hg, q, hq, hle⟩ := h.from_ x p hp hs
    rw [ha] at ha'; cases ha'
    obtain ⟨o, h1, h2, h3, h4⟩ := hG _ _ hg
    simp only at h1 h2 h3 h4
    obtain ⟨i1, i2⟩ := ih hq
    rw [List.reverse_cons, wayN_append, wayN_one h1, runOps_append, i1]
    refine ⟨?_, by omega⟩
    simp only [Option.bind_some, runOps, h1, h2, if_true]
    rw [← h3]
/-! ### the measure -/
def weightB (L : List Nat) (m : Nat) (P : Nat → Option Int) : Nat := (L.map fun x => match P x with | some p => p.toNat | none => m).sum
theorem weightB_put {m x : Nat} {v : Int} (hv : v.toNat < m) : ∀ {L : List Nat}, x ∈ L → (∀ q, P x = some q → v.toNat < q.toNat) → weightB L m (putP P x v) < weightB L m P := by
  have one : ∀ y, (match putP P x v y with | some p => p.toNat | none => m) ≤ (match P y with | some p => p.toNat | none => m) ∨ y = x := fun y => by
    by_cases hy : y = x
    · exact .inr hy
    · rw [putP_other P v hy]; exact .inl (Nat.le_refl _)
  have hx0 : (∀ q, P x = some q → v.toNat < q.toNat) → (match putP P x v x with | some p => p.toNat | none => m) < (match P x with | some p => p.toNat | none => m) := fun h => by
    rw [putP_same]
    cases hq : P x with
    | none => exact hv
    | some q => exact h q hq
  have le : (∀ q, P x = some q → v.toNat < q.toNat) → ∀ L : List Nat, weightB L m (putP P x v) ≤ weightB L m P := fun h L => by
    induction L with
    | nil => exact Nat.le_refl _
    | cons y r ih =>
      unfold weightB at ih ⊢
      rw [List.map_cons, List.map_cons, List.sum_cons, List.sum_cons]
      rcases one y with h1 | rfl
      · omega
      · have := hx0 h; omega
  intro L
  induction L with
  | nil => intro h; simp at h
  | cons y r ih =>
    intro hx h
    have hle := le h r
    have hlt := hx0 h
    by_cases hy : y = x
    · subst hy
      unfold weightB at hle ⊢
      rw [List.map_cons, List.map_cons, List.sum_cons, List.sum_cons]; omega
    · have hxr : x ∈ r := by
        rcases List.mem_cons.1 hx with e | e
        · exact absurd e.symm hy
        · exact e
      have ih' := ih hxr h
      have h1 := one y
      unfold weightB at ih' ⊢
      rw [List.map_cons, List.map_cons, List.sum_cons, List.sum_cons]
      rcases h1 with h1 | h1
      · omega
      · exact absurd h1 hy
end

/-! ### the start -/
def startP (S : List Nat) : Nat → Option Int := fun x => if x ∈ S then some 0 else none
def startA (S : List Nat) : List (Int × Int) := S.foldl (fun A (x : Nat) => putA A (x : Int) 0) []
theorem startA_mem (S : List Nat) : ∀ z, z ∈ startA S ↔ ∃ x ∈ S, z = ((x : Int), 0) := by
  have key : ∀ (S : List Nat) (A : List (Int × Int)), (∀ z ∈ A, z.2 = 0) → ∀ z, z ∈ S.foldl (fun A (x : Nat) => putA A (x : Int) 0) A ↔ z ∈ A ∨ ∃ x ∈ S, z = ((x : Int), 0) := by
    intro S
    induction S with
    | nil => intro A _ z; simp
    | cons x r ih =>
      intro A hA z
      rw [List.foldl_cons, ih _ (fun z hz => by
        rcases mem_putA.1 hz with ⟨h, _⟩ | rfl
        · exact hA z h
        · rfl), mem_putA]
      constructor
      · rintro ((⟨h, _⟩ | rfl) | ⟨y, hy, rfl⟩)
        · exact .inl h
        · exact .inr ⟨x, by simp, rfl⟩
        · exact .inr ⟨y, by simp [hy], rfl⟩
      · rintro (h | ⟨y, hy, rfl⟩)
        · by_cases e : z.1 = (x : Int)
          · refine .inl (.inr ?_)
            have := hA z h
            cases z; simp at this e; rw [this, e]
          · exact .inl (.inl ⟨h, e⟩)
        · rcases List.mem_cons.1 hy with rfl | hy
          · exact .inl (.inr rfl)
          · exact .inr ⟨y, hy, rfl⟩
  intro z
  unfold startA
  rw [key S [] (by simp)]; simp
theorem SideI.init {G : Nat → List SArc} {L S : List Nat} {C : Int} (hC : 0 ≤ C) (hS : ∀ x ∈ S, x ∈ L) (s : Nat) : SideI G (fun x => x ∈ S) L C (startP S) (fun _ => none) (startA S) s [] := by
  have hP : ∀ {x : Nat} {p : Int}, startP S x = some p → x ∈ S ∧ p = 0 := fun {x p} h => by
    unfold startP at h
    split at h
    · cases h; exact ⟨by assumption, rfl⟩
    · cases h
  refine ⟨fun x p h => hS x (hP h).1, fun x p h => ?_, fun x hx => ⟨by unfold startP; rw [if_pos hx], rfl⟩, fun x p h hn => absurd (hP h).1 hn, fun z hz => ?_, fun x p h => .inl ?_⟩
  · rw [(hP h).2]; exact ⟨Int.le_refl _, Int.mul_nonneg hC (Int.natCast_nonneg _)⟩
  · obtain ⟨x, hx, rfl⟩ := (startA_mem S z).1 hz
    exact ⟨x, rfl, by unfold startP; rw [if_pos hx]⟩
  · rw [(hP h).2]; exact (startA_mem S _).2 ⟨x, (hP h).1, rfl⟩
end Go.Proofs.YtcpmjoabhnfddaaGreat

namespace Go.Proofs.YtcpmjoabhnfddaaGreat

theorem run_cut {ops : List Wop} {p : List Nat} {x y : Nat} (h : runOps ops x p = some y) (i : Nat) : ∃ z, runOps ops x (p.take i) = some z ∧ runOps ops z (p.drop i) = some y := by
  rw [← List.take_append_drop i p, runOps_append] at h
  cases hz : runOps ops x (p.take i) with
  | none => rw [hz] at h; cases h
  | some z => rw [hz] at h; exact ⟨z, rfl, h⟩
/-- Every run has one of no greater cost that is no longer than there are states. -/
theorem short_run {ops : List Wop} {L : List Nat} (h0 : ∀ o ∈ ops, 0 ≤ o.cost ∧ o.cost ≤ 100) {x : Nat} (hL : ∀ p y, runOps ops x p = some y → y ∈ L) : ∀ (n : Nat) {p : List Nat} {y : Nat}, p.length ≤ n → runOps ops x p = some y → ∃ q, runOps ops x q = some y ∧ costN ops q ≤ costN ops p ∧ q.length ≤ L.length
  | n, p, y, hn, hr => by
    by_cases hle : p.length ≤ L.length
    · exact ⟨p, hr, Int.le_refl _, hle⟩
    · have hrep : ∃ i j, i < j ∧ j ≤ p.length ∧ runOps ops x (p.take i) = runOps ops x (p.take j) := by
        refine Classical.byContradiction fun hno => hle ?_
        have hnd : ((List.range (p.length + 1)).map fun i => (runOps ops x (p.take i)).getD 0).Nodup := by
          unfold List.Nodup
          rw [List.pairwise_iff_getElem]
          intro i j hi hj hij e
          simp only [List.getElem_map, List.getElem_range] at e
          simp only [List.length_map, List.length_range] at hi hj
          obtain ⟨zi, hzi, _⟩ := run_cut hr i
          obtain ⟨zj, hzj, _⟩ := run_cut hr j
          rw [hzi, hzj] at e
          simp only [Option.getD_some] at e
          exact hno ⟨i, j, hij, by omega, by rw [hzi, hzj, e]⟩
        have := nodup_sub_length hnd (b := L) (fun z hz => by
          obtain ⟨i, _, rfl⟩ := List.mem_map.1 hz
          obtain ⟨zi, hzi, _⟩ := run_cut hr i
          rw [hzi]; exact hL _ _ hzi)
        rw [List.length_map, List.length_range] at this; omega
      obtain ⟨i, j, hij, hj, he⟩ := hrep
      obtain ⟨z, hz1, hz2⟩ := run_cut hr j
      have hrq : runOps ops x (p.take i ++ p.drop j) = some y := by rw [runOps_append, he, hz1]; exact hz2
      have hlen : (p.take i ++ p.drop j).length < p.length := by simp only [List.length_append, List.length_take, List.length_drop]; omega
      have hcost : costN ops (p.take i ++ p.drop j) ≤ costN ops p := by
        have e1 : costN ops p = costN ops (p.take j) + costN ops (p.drop j) := by rw [← costN_append, List.take_append_drop]
        have e2 : p.take j = p.take i ++ (p.take j).drop i := by
          have := List.take_append_drop i (p.take j)
          rw [List.take_take, Nat.min_eq_left (by omega)] at this
          exact this.symm
        have e3 : costN ops (p.take j) = costN ops (p.take i) + costN ops ((p.take j).drop i) := by rw [← costN_append, ← e2]
        have := (costN_bound h0 ((p.take j).drop i)).1
        rw [costN_append]; omega
      cases n with
      | zero => omega
      | succ n =>
        obtain ⟨q, h1, h2, h3⟩ := short_run h0 hL n (by omega) hrq
        exact ⟨q, h1, by omega, h3⟩

theorem wayN_split (ops : List Wop) (p : List Nat) : wayN 4096 1 ops p = 4096 * costN ops p + (p.length : Int) := by unfold wayN; omega

theorem run_of_down_cost {ops : List Wop} {L : List Nat} {acc : Nat → Bool} {i : Nat} {c : Int} (h : Down (arcs ops L) (L.map acc) i c) : ∀ x, L[i]? = some x → ∃ p y, runOps ops x p = some y ∧ acc y = true ∧ costN ops p = c := by
  induction h with
  | nil h =>
    intro x hx
    rw [List.getElem?_map, hx] at h
    exact ⟨[], x, rfl, by simpa using h, rfl⟩
  | @cons a _ ha _ ih =>
    intro x hx
    obtain ⟨x', o, h1, h2, h3, h4, h5⟩ := mem_arcs.1 ha
    rw [h1] at hx; cases hx
    obtain ⟨p, y, hp, hy, hc⟩ := ih _ h5
    exact ⟨a.op :: p, y, by rw [runOps, h2]; simp only [h3, if_true]; exact hp, hy, by rw [costN, h2, hc, h4]; rfl⟩
/-- The cheapest cost from a state. -/
theorem opt_is {ops : List Wop} {L : List Nat} (hsh : Shut ops L) (h0 : ∀ o ∈ ops, 0 ≤ o.cost ∧ o.cost ≤ 100) {acc : Nat → Bool} {D : Nat → Int} (h : CostOk (arcs ops L) (L.map acc) (L.map D)) {x y : Nat} (hx : x ∈ L) {p : List Nat} (hr : runOps ops x p = some y) (hy : acc y = true) (hl : p.length ≤ 1000000) (hp : ∀ q z, runOps ops x q = some z → acc z = true → costN ops p ≤ costN ops q) : D x = costN ops p := by
  obtain ⟨i, hi⟩ := List.mem_iff_getElem?.1 hx
  have hb := costN_bound h0 p
  have hbig : bigC = 1000000000 := rfl
  obtain ⟨z, hz, hle⟩ := (h.down (arcs_cost0 h0) (down_of_run hsh hi hr hy)).2 (by omega)
  rw [List.getElem?_map, hi] at hz
  simp only [Option.map_some, Option.some.injEq] at hz
  have h1 : D x ≤ costN ops p := by omega
  have h2 : D x < bigC := by omega
  obtain ⟨q, z, hq, hz, hc⟩ := run_of_down_cost (h.real i (D x) (by rw [List.getElem?_map, hi]; rfl) h2) x hi
  have := hp q z hq hz
  omega

end Go.Proofs.YtcpmjoabhnfddaaGreat

namespace Go.Proofs.YtcpmjoabhnfddaaGreat

def arcOf (e : Stp) : SArc := ⟨e.op, 4096 * e.cost + 1, e.to⟩
/-- The arcs from the states of a list. -/
def nextG (ops : List Wop) (ss : List Nat) (x : Nat) : List SArc := if x ∈ ss then (wsteps ops x).map arcOf else []
section
variable {ops : List Wop} {L : List Nat}
theorem nextG_all : ∀ x o (i : Nat), x ∈ L → ops[i]? = some o → o.can x = true → (⟨i, 4096 * o.cost + 1, o.next x⟩ : SArc) ∈ nextG ops L x := fun x o i hx ho hc => by
  unfold nextG
  rw [if_pos hx]
  exact List.mem_map.2 ⟨⟨i, o.cost, o.next x⟩, wsteps_mem.2 ⟨o, ho, hc, rfl, rfl⟩, rfl⟩
theorem nextG_only : ∀ y, ∀ b ∈ nextG ops L y, ∃ o, ops[b.op]? = some o ∧ o.can y = true ∧ b.to = o.next y ∧ b.price = 4096 * o.cost + 1 := fun y b hb => by
  unfold nextG at hb
  split at hb
  · obtain ⟨e, he, rfl⟩ := List.mem_map.1 hb
    obtain ⟨o, h1, h2, h3, h4⟩ := wsteps_mem.1 he
    exact ⟨o, h1, h2, h4, by unfold arcOf; simp only; rw [h3]⟩
  · simp at hb
theorem nextG_in (hsh : Shut ops L) : ∀ y, ∀ b ∈ nextG ops L y, b.to ∈ L := fun y b hb => by
  obtain ⟨o, h1, h2, h3, _⟩ := nextG_only y b hb
  unfold nextG at hb
  split at hb
  · rename_i hy; rw [h3]; exact hsh.2 y hy o (List.mem_of_getElem? h1) h2
  · simp at hb
theorem nextG_price (h0 : ∀ o ∈ ops, 0 ≤ o.cost ∧ o.cost ≤ 100) : ∀ y, ∀ b ∈ nextG ops L y, 1 ≤ b.price ∧ b.price ≤ 409601 := fun y b hb => by
  obtain ⟨o, h1, _, _, h4⟩ := nextG_only y b hb
  have := h0 o (List.mem_of_getElem? h1); omega
end

end Go.Proofs.YtcpmjoabhnfddaaGreat

namespace Go.Proofs.YtcpmjoabhnfddaaGreat
open Go.RowKit Go.Sort Go.Proofs

/-! ### Contains -/
def Behind (s : List Int) (x : Int) (i : Nat) : Prop := i ≤ s.length ∧ ∀ j y, j < i → s[j]? = some y → y < x
theorem behind_end {s : List Int} {x : Int} {i : Nat} (h : Behind s x i) (hi : s.length ≤ i) : x ∉ s := fun hm => by
  obtain ⟨j, hj⟩ := List.mem_iff_getElem?.1 hm
  have := (List.getElem?_eq_some_iff.1 hj).1
  have := h.2 j x (by omega) hj
  omega
theorem behind_not {s : List Int} (hs : s.Pairwise (· < ·)) {x y : Int} {i : Nat} (h : Behind s x i) (hy : s[i]? = some y) (hxy : x < y) : x ∉ s := fun hm => by
  obtain ⟨j, hj⟩ := List.mem_iff_getElem?.1 hm
  by_cases hji : j < i
  · have := h.2 j x hji hj; omega
  · obtain ⟨hjl, ej⟩ := List.getElem?_eq_some_iff.1 hj
    obtain ⟨hil, ei⟩ := List.getElem?_eq_some_iff.1 hy
    rcases Nat.lt_or_ge i j with h2 | h2
    · have := List.pairwise_iff_getElem.1 hs i j hil hjl h2; omega
    · have : i = j := by omega
      subst this; omega
theorem subB_false {a b : List Int} {x : Int} (hx : x ∈ a) (hn : x ∉ b) : subB a b = false := by
  unfold subB; rw [List.all_eq_false]; exact ⟨x, hx, by simp [hn]⟩

set_option maxHeartbeats 1000000 in
theorem contains_any (w : World) (vs vp : Value) (s part : List Int) (hs : Ints w vs s) (hp : Ints w vp part) (ss : s.Pairwise (· < ·)) (sp : part.Pairwise (· < ·)) :
    Calls Tryz.prog 133 #[vs, vp] w fun e w' => e = .returned (.bool (subB part s)) ∧ w = w' := by
  obtain ⟨ao, ca, h1, ma⟩ := hs.form
  obtain ⟨po, cp, h2, mp⟩ := hp.form
  have CS := Lib.hid (hs.cell h1); have CP := Lib.hid (hp.cell h2); have SS := Lib.hid ss; have SP := Lib.hid sp
  subst h1 h2
  clear hs hp ss sp
  go_enter Tryz.func133, Tryz.ntmps133
  go_wp2_with fail
  go_loop [5, 10] (fun v5 v10 => ∃ k i : Nat, k ≤ part.length ∧ v10 = .int .i64 (k : Int) ∧ v5 = .int .i64 (i : Int) ∧ i ≤ s.length ∧ subB (part.take k) s = true ∧ ∀ x, part[k]? = some x → Behind s x i) (fun _ v10 => part.length - (intOf v10).toNat)
  case atStart => exact ⟨0, 0, Nat.zero_le _, rfl, rfl, Nat.zero_le _, rfl, fun x _ => ⟨Nat.zero_le _, fun j _ hj => by omega⟩⟩
  case round =>
    obtain ⟨k, i, hk, rfl, rfl, hi, ht, hb⟩ := hrel
    have HT := Lib.hid ht; have HB := Lib.hid hb
    clear ht hb
    by_cases hlt : k < part.length
    · obtain ⟨bp, op, rfl, hc⟩ := CP.out (by omega)
      obtain ⟨x, hx⟩ : ∃ x, part[k]? = some x := ⟨_, List.getElem?_eq_getElem hlt⟩
      have hcx := hc k _ hx
      have HX := Lib.hid hx
      have HB0 := Lib.hid (HB.out x hx)
      clear hc hx HB
      go_wp2_with fail
      go_loop [5] (fun v5 => ∃ i : Nat, v5 = .int .i64 (i : Int) ∧ Behind s x i) (fun v5 => s.length - (intOf v5).toNat)
      case atStart => exact ⟨i, rfl, HB0.out⟩
      case round =>
        obtain ⟨i, rfl, hb⟩ := hrel
        have hil := hb.1
        have HB := Lib.hid hb
        clear hb
        by_cases hin : i < s.length
        · obtain ⟨bs, os, rfl, hc⟩ := CS.out (by omega)
          obtain ⟨y, hy⟩ : ∃ y, s[i]? = some y := ⟨_, List.getElem?_eq_getElem hin⟩
          have hcy := hc i _ hy
          have HY := Lib.hid hy
          clear hc hy
          by_cases hyx : y < x
          · have HB1 : Hid (Behind s x (i + 1)) := by
              unfold Hid
              refine ⟨by omega, fun j z hj hz => ?_⟩
              rcases Nat.lt_or_ge j i with h | h
              · exact HB.out.2 j z h hz
              · have : j = i := by omega
                subst this
                rw [HY.out] at hz; cases hz; exact hyx
            go_wp2_with fail
            go_round
            case rel => exact ⟨i + 1, by go_num, HB1.out⟩
            case measure => simp [intOf]; omega
          · by_cases hne : y = x
            · subst hne
              have HN : Hid (subB (part.take (k + 1)) s = true) := by
                unfold Hid
                rw [take_getS HX.out]
                have := HT.out
                unfold subB at this ⊢
                rw [List.all_append, this]
                simp [List.mem_of_getElem? HY.out]
              have HB2 : Hid (∀ z, part[k + 1]? = some z → Behind s z i) := by
                unfold Hid
                intro z hz
                obtain ⟨l1, e1⟩ := List.getElem?_eq_some_iff.1 HX.out
                obtain ⟨l2, e2⟩ := List.getElem?_eq_some_iff.1 hz
                have := List.pairwise_iff_getElem.1 SP.out k (k + 1) l1 l2 (by omega)
                refine ⟨HB.out.1, fun j u hj hu => ?_⟩
                have := HB.out.2 j u hj hu
                omega
              have hd1 : decide (y < y) = false := by simp
              have hd2 : (y != y) = false := by simp
              clear hyx
              go_wp2_with fail
              go_round
              case rel => exact ⟨k + 1, i, by omega, by go_num, rfl, hil, HN.out, HB2.out⟩
              case measure => simp [intOf]; omega
            · have hf : Hid (subB part s = false) := by
                unfold Hid
                exact subB_false (List.mem_of_getElem? HX.out) (behind_not SS.out HB.out HY.out (by omega))
              have hd1 : decide (y < x) = false := by simpa using hyx
              have hd2 : (y != x) = true := by simpa using hne
              clear hyx hne
              go_wp2_with fail
              go_ret
              exact ⟨congrArg (fun b => Ending.returned (Value.bool b)) hf.out.symm, rfl⟩
        · have hf : Hid (subB part s = false) := by
            unfold Hid
            exact subB_false (List.mem_of_getElem? HX.out) (behind_end HB.out (by omega))
          have hie : i = s.length := by omega
          subst hie
          clear hin hil
          go_wp2_with fail
          go_ret
          exact ⟨congrArg (fun b => Ending.returned (Value.bool b)) hf.out.symm, rfl⟩
    · have hf : Hid (subB part s = true) := by
        unfold Hid
        have := HT.out
        rwa [List.take_of_length_le (by omega)] at this
      go_wp2_with fail
      go_ret
      exact ⟨congrArg (fun b => Ending.returned (Value.bool b)) hf.out.symm, rfl⟩

/-! ### the library's Sort and Compact over a row of the call's own -/
theorem sortI_any (w : World) (base : Nat) (v : Value) (l : List Int) (hown : w.ownsRow base 3 1 v l.length (l.map (Value.int .i64))) (hlen : l.length < 4611686018427387904) :
    Calls Tryz.prog 166 #[v] w fun e w' => e = .returned (.tuple #[]) ∧ w'.ownsRow base 3 1 v l.length ((l.mergeSort fun x y => decide (x ≤ y)).map (Value.int .i64)) ∧ Keeps (fun b => v.ownBlock = some b) w w' := by
  rcases hown.2 with ⟨rfl, h0⟩ | ⟨g, cap, cur, rfl, hb, hg, hn, hm, hs, ht⟩
  · have hz : l = [] := List.length_eq_zero_iff.1 h0
    subst hz
    refine (Tryz.slices_Sort_int_none none 0 w).mono ?_
    rintro e w' ⟨rfl, rfl⟩
    exact ⟨rfl, by simpa using World.ownsRow_nil _ _ _ _, Keeps.refl _ _⟩
  · have ht' : cur.toList.take l.length = l.map (Value.int .i64) := by simpa using ht
    refine (Tryz.slices_Sort_int g 0 cap l w (holds_of_blockI hg ht') (lt_of_heap hg) hlen).mono ?_
    rintro e w' ⟨rfl, n, os, rfl⟩
    exact ⟨rfl, ownsRow_sortedI (by simp) hb hg hn hm hs, (steady_keeps (grownBy_sortedI _)).mono (fun i _ h => by cases h; rfl)⟩

theorem keeps_putRow {w : World} {g q : Nat} (d : Array Int) : Keeps (fun b => b = g) w (putRow (Value.int .i64) (Sort.ahead w q) g 0 d) := by
  refine ⟨rfl, rfl, rfl, by simp [putRow, mapBlock, Sort.ahead], fun k _ hne => ?_⟩
  have : g ≠ k := fun e => hne e.symm
  simp [putRow, mapBlock, Sort.ahead, Array.getElem?_modify, this]
theorem heap_putRow {w : World} {g q : Nat} {cur : Array Value} {e : TypeId} {fr : Nat × Nat} (d : Array Int) (hb : w.heap[g]? = some (.cells cur e fr)) :
    (putRow (Value.int .i64) (Sort.ahead w q) g 0 d).heap[g]? = some (.cells (putCells (Value.int .i64) 0 d cur) e fr) := by
  simp [putRow, mapBlock, Sort.ahead, Array.getElem?_modify, hb, onCells]

theorem compactI_any (w : World) (base : Nat) (v : Value) (l : List Int) (hown : w.ownsRow base 3 1 v l.length (l.map (Value.int .i64))) (hlen : l.length < 4611686018427387904) :
    Calls Tryz.prog 167 #[v] w fun e w' => ∃ v', e = .returned v' ∧ w'.ownsRow base 3 1 v' (Lib.compact l).length ((Lib.compact l).map (Value.int .i64)) ∧ v'.ownBlock = v.ownBlock ∧ Keeps (fun b => v.ownBlock = some b) w w' := by
  rcases hown.2 with ⟨rfl, h0⟩ | ⟨g, cap, cur, rfl, hb, hg, hn, hm, hs, ht⟩
  · have hz : l = [] := List.length_eq_zero_iff.1 h0
    subst hz
    refine (Tryz.slices_Compact_int_empty none 0 w).mono ?_
    rintro e w' ⟨rfl, rfl⟩
    exact ⟨_, rfl, by simpa [Lib.compact, Lib.compactUpTo] using World.ownsRow_nil _ _ _ _, rfl, Keeps.refl _ _⟩
  · have ht' : cur.toList.take l.length = l.map (Value.int .i64) := by simpa using ht
    have hcl := Lib.compact_length_le l
    refine (Tryz.slices_Compact_int g 0 cap l w (holds_of_blockI hg ht') (by omega) hn).mono ?_
    rintro e w' ⟨rfl, q, rfl⟩
    have hsz : cur.size = cap := by simpa using hs
    have htk := take_putCellsI cur (Lib.compact l ++ List.replicate (l.length - (Lib.compact l).length) 0) (by simp; omega)
    refine ⟨_, rfl, ⟨by simp, .inr ⟨g, cap, _, rfl, hb, heap_putRow _ hg, by omega, hm, by simp [putCells, hs], ?_⟩⟩, rfl, (keeps_putRow _).mono (fun i _ h => by cases h; rfl)⟩
    have := congrArg (List.take (Lib.compact l).length) htk
    rw [List.take_take, List.map_append, List.take_left' (by simp)] at this
    rw [Nat.mul_one]
    rw [Nat.min_eq_left (by simp)] at this
    exact this

/-! ### an append of whatever slice -/
section
variable {P : Program} {w : World}
theorem run_appendS_zero (base : Nat) (t ty e : TypeId) (i : TypeInfo) (size : Nat) (ht : P.underlying t = some (.slice e)) (hi : P.info? e = some i)
    (v : Value) (n : Nat) (xs : List Value) (hown : w.ownsRow base e size v n xs) (ao : Option Addr) (c : Nat) :
    (Builtin.append_ #[t, t] ty #[v, .slice ao 0 c]).run P w = .ok v w := by
  rcases hown.2 with ⟨rfl, rfl⟩ | ⟨g, cap, cur, rfl, _, _, hnc, _⟩
  · cases ao <;> simp [Builtin.append_, run_underlying ht, sizeOf, typeInfo, hi, Builtin.lenOf, Builtin.firstCells, loadCells, loadCellsFrom]
  · cases ao <;> simp [Builtin.append_, run_underlying ht, sizeOf, typeInfo, hi, Builtin.lenOf, Builtin.firstCells, hnc, storeCells, loadCells, loadCellsFrom]
theorem wpList_appendS_zero {ops : Array Oper} {rest : List Oper} {o : Oper} {a : Act} {Q : Exit → Act → World → Prop} (hgd : o.guard = none) (s x : Operand) (t : TypeId)
    (ho : o.op = .call { callee := .builtin .append, args := #[s, x], argTypes := #[t, t] })
    (base : Nat) (e : TypeId) (i : TypeInfo) (size : Nat) (ht : P.underlying t = some (.slice e)) (hi : P.info? e = some i)
    (v : Value) (n : Nat) (xs : List Value) (hs : a.eval s = v) (hown : w.ownsRow base e size v n xs) (ao : Option Addr) (c : Nat) (hx : a.eval x = .slice ao 0 c)
    (h : wpList P ops Q rest (a.put o.dst v) w) : wpList P ops Q (o :: rest) a w := by
  refine wpList_plain hgd fun K hK => ?_
  have hrun := run_appendS_zero (P := P) (w := w) base t o.type e i size ht hi v n xs hown ao c
  unfold Oper.wp
  simp [execOp, ho, resolve, invoke, builtin, hs, hx, hrun, Result.andThen]
  exact hK _ _ h
theorem grownBy_refl (w : World) (row : Option Nat) : w.grownBy w row := ⟨rfl, rfl, rfl, Nat.le_refl _, fun _ _ _ => rfl⟩
/-- append(out, x...) to a row of the call's own, x whatever slice. -/
theorem wpList_append_src {ops : Array Oper} {rest : List Oper} {o : Oper} {a : Act} {Q : Exit → Act → World → Prop} (hgd : o.guard = none) (s x : Operand) (t : TypeId)
    (ho : o.op = .call { callee := .builtin .append, args := #[s, x], argTypes := #[t, t] })
    (base : Nat) (e : TypeId) (i : TypeInfo) (z : Value) (bytes : Nat) (ht : P.underlying t = some (.slice e)) (hi : P.info? e = some i) (hz : i.zero = some z)
    (hsize : i.size = 1) (hby : i.bytes = bytes) (hzs : z.cells.size = 1)
    (v : Value) (n : Nat) (xs : List Value) (hs : a.eval s = v) (hown : w.ownsRow base e 1 v n xs)
    (vx : Value) (m : Nat) (news : List Value) (hx : a.eval x = vx) (hsl : Sl w vx m news) (hl : news.length = m) (h1 : ∀ u ∈ news, u.oneCell' = true)
    (h63 : n + m ≤ maxLen) (hbytes : (n + m) * bytes ≤ 140737488355328) (hbase : base ≤ w.heap.size)
    (h : ∀ v' w', w'.ownsRow base e 1 v' (n + m) (xs ++ news) → w.grownBy w' v.ownBlock → (∀ g, v'.ownBlock = some g → v.ownBlock = some g ∨ w.heap.size ≤ g) → w.drawn ≤ w'.drawn → wpList P ops Q rest (a.put o.dst v') w') : wpList P ops Q (o :: rest) a w := by
  obtain ⟨ao, c, rfl, hm, hc⟩ := hsl
  rcases Nat.eq_zero_or_pos m with h0 | h0
  · subst h0
    have : news = [] := List.length_eq_zero_iff.1 hl
    subst this
    refine wpList_appendS_zero hgd s x t ho base e i 1 ht hi v n xs hs hown ao c hx (h v w (by simpa using hown) (grownBy_refl w _) (fun g hg => .inl hg) (Nat.le_refl _))
  · obtain ⟨b, off, rfl, hcell⟩ := hc h0
    refine wpList_append_d hgd s x t ho base e i z 1 bytes ht hi hz hsize hby hzs (by omega) v n xs hs hown ⟨b, off, none⟩ m c news hx (by omega) (fun j u hj => by
      have h := hcell j u hj
      by_cases hj0 : j = 0
      · subst hj0; simpa [Addr.add] using h
      · simpa [Addr.add, hj0] using h) h1 h0 h63 hbytes hbase w.heap.size rfl fun g cap w' h2 h3 h4 _ h6 => h _ w' h2 h3 (fun k hk => ?_) h6
    rcases h4 with h4 | h4
    · left; rw [h4]; exact hk
    · right; cases (show some g = some k from hk); omega
end

/-! ### Update -/
def sansL (s del : List Int) : List Int := s.filter fun x => !decide (x ∈ del)
theorem sansL_step {s del : List Int} {k : Nat} {x : Int} (hx : s[k]? = some x) : sansL (s.take (k + 1)) del = if x ∈ del then sansL (s.take k) del else sansL (s.take k) del ++ [x] := by
  unfold sansL
  rw [take_getS hx, List.filter_append]
  by_cases h : x ∈ del <;> simp [h]
theorem sansL_le (s del : List Int) (k : Nat) : (sansL (s.take k) del).length ≤ k := by
  unfold sansL
  have := List.length_filter_le (fun x => !decide (x ∈ del)) (s.take k)
  have := List.length_take_le k s
  omega

set_option maxRecDepth 100000 in
set_option maxHeartbeats 1000000 in
theorem update_any (w : World) (vs va vd : Value) (s add del : List Int) (hs : Ints w vs s) (ha : Ints w va add) (hd : Ints w vd del) (sd : del.Pairwise (· < ·)) (ls : s.length ≤ 1000) (la : add.length ≤ 1000) (ld : del.length ≤ 1000) :
    Calls Tryz.prog 162 #[vs, va, vd] w fun e w' => ∃ v, e = .returned v ∧ w'.ownsRow w.heap.size 3 1 v (updL s add del).length ((updL s add del).map (Value.int .i64)) ∧ Keeps (fun _ => False) w w' := by
  obtain ⟨i0, hi0, hz0, hz1, hz2⟩ := info_parts Tryz.info3
  obtain ⟨ao, ca, h1, _⟩ := hs.form
  obtain ⟨bo, cb, h2, _⟩ := ha.form
  obtain ⟨co, cc, h3, _⟩ := hd.form
  have CS := Lib.hid (hs.cell h1); have HA := Lib.hid ha; have HD := Lib.hid hd; have SD := Lib.hid sd
  subst h1 h2 h3
  clear hs ha hd sd
  go_enter Tryz.func162, Tryz.ntmps162
  go_wp2_with fail
  go_loopw [7, 14] (fun v7 v14 wr => ∃ k : Nat, k ≤ s.length ∧ v14 = .int .i64 (k : Int) ∧ wr.ownsRow w.heap.size 3 1 v7 (sansL (s.take k) del).length ((sansL (s.take k) del).map (Value.int .i64)) ∧ Keeps (fun _ => False) w wr) (fun _ v14 _ => s.length - (intOf v14).toNat)
  case atStart => exact ⟨0, Nat.zero_le _, rfl, World.ownsRow_nil _ _ _ _, Keeps.refl _ _⟩
  case round =>
    obtain ⟨k, hk, rfl, hown, hkw⟩ := hrel
    have HO := Lib.hid hown; have KW := Lib.hid hkw
    have hle := sansL_le s del k
    obtain ⟨av, cv, hv⟩ := ownsRow_form1 hown
    subst hv
    clear hown hkw
    by_cases hlt : k < s.length
    · obtain ⟨bs, os, rfl, hc⟩ := CS.out (by omega)
      obtain ⟨x, hx⟩ : ∃ x, s[k]? = some x := ⟨_, List.getElem?_eq_getElem hlt⟩
      have hcx := KW.out.cell (hc k _ hx) (fun h => h)
      have HST := Lib.hid (sansL_step (del := del) hx)
      clear hc hx
      go_wp2_with fail
      refine (bsearch_any _ _ _ x (HD.out.keeps0 KW.out) SD.out (by omega)).mono ?_; rintro e w2 ⟨j, rfl, q, rfl⟩
      have KQ := Lib.hid (KW.out.drewN q)
      have HOQ := Lib.hid (((Keeps.refl (fun _ => False) wr).drewN q).ownsRow HO.out (fun _ _ h => h))
      clear hcx HO KW
      generalize wr.drewN q = wq at KQ HOQ ⊢
      have hsz := KQ.out.size
      by_cases hm : x ∈ del
      · have HE := Lib.hid (show sansL (s.take (k + 1)) del = sansL (s.take k) del by rw [HST.out, if_pos hm])
        rw [decide_eq_true hm]
        clear hm
        go_wp2_with fail
        go_roundw
        case rel => exact ⟨k + 1, by omega, by go_num, by rw [HE.out]; exact HOQ.out, KQ.out⟩
        case measure => simp only [intOf]; omega
      · have HE := Lib.hid (show sansL (s.take (k + 1)) del = sansL (s.take k) del ++ [x] by rw [HST.out, if_neg hm])
        rw [decide_eq_false hm]
        clear hm
        go_wp2_with (at_builtin; refine wpList_append_d rfl _ _ _ rfl w.heap.size 3 i0 _ 1 8 Tryz.underlying22 hi0 hz0 hz1 hz2 rfl (by omega) _ (sansL (s.take k) del).length ((sansL (s.take k) del).map (Value.int .i64)) (by rfl) (World.ownsRow.alloc HOQ.out (.cells #[.int .i64 x] 3)) ⟨wq.heap.size, 0, none⟩ 1 1 [.int .i64 x] (by rfl) (by rfl) (World.news_of_block (cs := #[.int .i64 x]) (t := 3) (fr := (0, 0)) (heap_alloc_new _ _)) (by simp [Value.oneCell']) (by omega) (by unfold maxLen; omega) (by omega) (by simp; omega) (wq.heap.size + 1) (by simp) ?_)
        intro gg cap2 w4 hown hgrow hat hlt4 hd4
        have HN := Lib.hid (show w4.ownsRow w.heap.size 3 1 (.slice (some ⟨gg, 0, none⟩) ((sansL (s.take k) del).length + 1) cap2) (sansL (s.take (k + 1)) del).length ((sansL (s.take (k + 1)) del).map (Value.int .i64)) by
          rw [HE.out, List.map_append, List.length_append]; exact hown)
        have HKN := Lib.hid (own_grown HOQ.out KQ.out ((Keeps.refl _ wq).alloc (.cells #[.int .i64 x] 3)) hgrow)
        clear hown hgrow hat hd4
        go_wp2_with fail
        go_roundw
        case rel => exact ⟨k + 1, by omega, by go_num, HN.out, HKN.out⟩
        case measure => simp only [intOf]; omega
    · have hke : k = s.length := by omega
      subst hke
      have HO2 := Lib.hid (show wr.ownsRow w.heap.size 3 1 (.slice av (sansL (s.take s.length) del).length cv) (sansL s del).length ((sansL s del).map (Value.int .i64)) by
        have h := HO.out
        have e : sansL (s.take s.length) del = sansL s del := by rw [List.take_length]
        generalize (Value.slice av (sansL (s.take s.length) del).length cv) = v at h ⊢
        rw [e] at h; exact h)
      have hle2 : (sansL s del).length ≤ s.length := by have := sansL_le s del s.length; rwa [List.take_length] at this
      have hsz := KW.out.size
      have HAw := Lib.hid (HA.out.keeps0 KW.out)
      clear HO hle
      generalize (sansL (s.take s.length) del).length = nn at HO2 ⊢
      go_wp2_with (at_builtin; refine wpList_append_src rfl _ _ _ rfl w.heap.size 3 i0 _ 8 Tryz.underlying22 hi0 hz0 hz1 hz2 rfl _ (sansL s del).length ((sansL s del).map (Value.int .i64)) (by rfl) HO2.out _ add.length (add.map (Value.int .i64)) (by rfl) HAw.out (by simp) (by simp [Value.oneCell']) (by unfold maxLen; omega) (by omega) (by omega) ?_)
      intro v4 w4 hown hgrow hblk hd4
      have HN := Lib.hid (show w4.ownsRow w.heap.size 3 1 v4 (preL s add del).length ((preL s add del).map (Value.int .i64)) by
        unfold preL; rw [List.map_append, List.length_append]; exact hown)
      have HK4 := Lib.hid (own_grown HO2.out KW.out (Keeps.refl _ wr) hgrow)
      have hpl := preL_len s add del
      clear hown hgrow hblk hd4 HO2 KW
      go_wp2_with fail
      refine (sortI_any _ _ _ (preL s add del) HN.out (by omega)).mono ?_; rintro e w5 ⟨rfl, hown, hk⟩
      have HN5 := Lib.hid (show w5.ownsRow w.heap.size 3 1 v4 ((preL s add del).mergeSort fun x y => decide (x ≤ y)).length (((preL s add del).mergeSort fun x y => decide (x ≤ y)).map (Value.int .i64)) by rw [List.length_mergeSort]; exact hown)
      have HK5 := Lib.hid (HK4.out.trans' hk (fun b hb => .inr (World.ownsRow.lt HN.out b hb).1))
      clear hown hk HN HK4
      go_wp2_with fail
      refine (compactI_any _ _ _ _ HN5.out (by rw [List.length_mergeSort]; omega)).mono ?_; rintro e w6 ⟨v6, rfl, hown, _, hk⟩
      have HN6 := Lib.hid hown
      have HK6 := Lib.hid (HK5.out.trans' hk (fun b hb => .inr (World.ownsRow.lt HN5.out b hb).1))
      clear hown hk HN5 HK5
      go_wp2_with fail
      go_ret
      exact ⟨_, rfl, HN6.out, HK6.out⟩

/-! ### Can, Next -/
end Go.Proofs.YtcpmjoabhnfddaaGreat

namespace Go.Proofs.YtcpmjoabhnfddaaGreat
open Go.RowKit

theorem ops_cost0 {t : Tsk} (ok : t.Ok) : ∀ o ∈ wordsOf t.ops, 0 ≤ o.cost ∧ o.cost ≤ 100 := fun o ho => by
  unfold wordsOf at ho
  obtain ⟨o', ho', rfl⟩ := List.mem_map.1 ho
  exact ⟨(ok.ops o' ho').cost0, (ok.ops o' ho').cost1⟩

end Go.Proofs.YtcpmjoabhnfddaaGreat

namespace Go.Proofs.YtcpmjoabhnfddaaGreat
open Go.RowKit

theorem reach_path {ops : List Wop} {s x : Nat} (h : Reach ops s x) : ∃ q, runOps ops s q = some x := by
  induction h with
  | refl => exact ⟨[], rfl⟩
  | step _ hy ih =>
    obtain ⟨q, hq⟩ := ih
    obtain ⟨o, ho, rfl⟩ := List.mem_map.1 hy
    obtain ⟨ho, hc⟩ := List.mem_filter.1 ho
    obtain ⟨k, hk⟩ := List.mem_iff_getElem?.1 ho
    exact ⟨q ++ [k], runOps_snoc' hq hk hc⟩
section
variable {w : World} {vi vg vo vs : Value} {t : Tsk}
end

end Go.Proofs.YtcpmjoabhnfddaaGreat

namespace Go.Proofs.YtcpmjoabhnfddaaGreat
open Go.RowKit

def costAt (t : Tsk) (x : Int) : Int := ((t.ops[x.toNat]?).map Opr.cost).getD 0
def costL (t : Tsk) : List Int → Int
  | [] => 0
  | x :: r => costAt t x + costL t r
def PlanIn (t : Tsk) (p : List Int) : Prop := ∀ x ∈ p, 0 ≤ x ∧ x < (t.ops.length : Int)

theorem costL_append (t : Tsk) : ∀ (a b : List Int), costL t (a ++ b) = costL t a + costL t b
  | [], b => by simp [costL]
  | x :: a, b => by
    show costAt t x + costL t (a ++ b) = (costAt t x + costL t a) + costL t b
    rw [costL_append t a b]; omega
theorem costAt_bound {t : Tsk} (ok : t.Ok) (x : Int) : 0 ≤ costAt t x ∧ costAt t x ≤ 100 := by
  unfold costAt
  cases h : t.ops[x.toNat]? with
  | none => simp
  | some o =>
    have := ok.ops o (List.mem_of_getElem? h)
    simp; exact ⟨this.cost0, this.cost1⟩
theorem costL_bound {t : Tsk} (ok : t.Ok) : ∀ p : List Int, 0 ≤ costL t p ∧ costL t p ≤ 100 * (p.length : Int)
  | [] => by simp [costL]
  | x :: r => by
    have h1 := costAt_bound ok x
    have h2 := costL_bound ok r
    unfold costL
    rw [List.length_cons]
    omega

set_option maxRecDepth 100000 in
set_option maxHeartbeats 2000000 in
theorem costOf_any (w : World) (vi vg vo vp : Value) (t : Tsk) (p : List Int) (h : TaskAt w vi vg vo t) (ok : t.Ok) (hp : Ints w vp p) (hin : PlanIn t p) (hlen : p.length ≤ 1000000) :
    Calls Tryz.prog 59 #[.agg #[.int .i64 t.n, vi, vg, vo], vp] w fun e w' => e = .returned (.int .i64 (costL t p)) ∧ Keeps (fun _ => False) w w' := by
  obtain ⟨ai, ci, h1, _⟩ := h.init.form
  obtain ⟨ag, cg, h2, _⟩ := h.goal.form
  obtain ⟨ao, co, h3, hmo⟩ := h.ops.form
  obtain ⟨ap, cp, h4, _⟩ := hp.form
  subst h1 h2 h3 h4
  have K1 := (Keeps.refl (fun _ => False) w).alloc (.cells #[.int .i64 t.n, .slice ai t.init.length ci, .slice ag t.goal.length cg, .slice ao t.ops.length co] 25)
  have HB := Lib.hid (Four.new w (.int .i64 t.n) (.slice ai t.init.length ci) (.slice ag t.goal.length cg) (.slice ao t.ops.length co) 25)
  have HOC := Lib.hid (h.ops.cell rfl)
  have CP := Lib.hid (hp.cell rfl)
  have HK := Lib.hid K1; have OK := Lib.hid ok; have HIN := Lib.hid hin
  clear h K1 ok hin hp
  go_enter Tryz.func59, Tryz.ntmps59
  go_upto_region 1 with fail
  generalize (w.alloc (.cells #[.int .i64 t.n, .slice ai t.init.length ci, .slice ag t.goal.length cg, .slice ao t.ops.length co] 25)) = w1 at HB HK ⊢
  go_wp2_with fail
  go_loopw [5, 6] (fun v5 v6 wr => ∃ i : Nat, i ≤ p.length ∧ v6 = .int .i64 (i : Int) ∧ v5 = .int .i64 (costL t (p.take i)) ∧ Keeps (fun _ => False) w1 wr) (fun _ v6 _ => p.length - (intOf v6).toNat)
  case atStart => exact ⟨0, Nat.zero_le _, rfl, rfl, Keeps.refl _ _⟩
  case round =>
    obtain ⟨i, hi, rfl, rfl, hkr⟩ := hrel
    have HKR := Lib.hid hkr
    have HB2 := Lib.hid (HB.out.keeps0 hkr)
    obtain ⟨d0, d1, d2, d3⟩ := HB2.out
    have hbx := HB2.out.lt
    have hsz := hkr.size
    clear hkr
    by_cases hlt : i < p.length
    · obtain ⟨bp, op, rfl, hx'⟩ := CP.out (by omega)
      obtain ⟨x, hx⟩ : ∃ x, p[i]? = some x := ⟨_, List.getElem?_eq_getElem hlt⟩
      have hu := HKR.out.cell (HK.out.cell (hx' i x hx) (fun h => h)) (fun h => h)
      have hxi := HIN.out x (List.mem_of_getElem? hx)
      obtain ⟨xn, rfl⟩ : ∃ xn : Nat, x = (xn : Int) := ⟨x.toNat, by omega⟩
      obtain ⟨bo, oo, rfl, ho'⟩ := HOC.out (by omega)
      obtain ⟨o, ho⟩ : ∃ o, t.ops[xn]? = some o := ⟨_, List.getElem?_eq_getElem (by omega)⟩
      obtain ⟨va, vb, vc, _, _, _, c3, _⟩ := ho' xn o ho
      have c3' := HKR.out.cell (HK.out.cell c3 (fun h => h)) (fun h => h)
      have HTK : Hid (costL t (p.take (i + 1)) = costL t (p.take i) + o.cost) := by
        unfold Hid
        rw [take_getS hx, costL_append]
        simp [costL, costAt, ho]
      have hbd := costL_bound OK.out (p.take i)
      have hbl : ((p.take i).length : Int) ≤ 1000000 := by rw [List.length_take]; omega
      have hoc := OK.out.ops o (List.mem_of_getElem? ho)
      have ho0 := hoc.cost0
      have ho1 := hoc.cost1
      have q1 : IntKind.i64.wrap (costL t (p.take i) + o.cost) = costL t (p.take i) + o.cost := IntWalk.i64_in _ (by omega)
      have q2 : ((xn : Int)).toNat = xn := by omega
      have q3 : (0 : Int) ≤ (xn : Int) := by omega
      have q4 : (xn : Int) < (t.ops.length : Int) := hxi.2
      clear hx' hx ho' ho c3 hxi hoc hbl hbd
      go_wp2_with fail
      go_quiet (fail)
      have KD := Lib.hid (HKR.out.drewN nq)
      clear d0 d1 d2 d3 hu c3'
      generalize wr.drewN nq = w5 at KD ⊢
      go_wp2_with fail
      go_roundw
      case rel => exact ⟨i + 1, by omega, by go_num, by rw [HTK.out], KD.out⟩
      case measure => simp only [intOf]; omega
    · have hie : i = p.length := by omega
      subst hie
      go_wp2_with fail
      go_ret
      exact ⟨congrArg (fun u => Ending.returned (Value.int .i64 u)) (show costL t (p.take p.length) = costL t p by rw [List.take_length]), HK.out.trans HKR.out⟩

end Go.Proofs.YtcpmjoabhnfddaaGreat

/- space.Result. -/
namespace Go.Proofs.YtcpmjoabhnfddaaGreat
open Go.RowKit

/-- A SearchResult. -/
def resV (found : Bool) (vp : Value) (c n : Int) : Value := .agg #[.bool found, vp, .int .i64 c, .int .i64 n]

theorem quad_set {w : World} {B : Nat} {x0 x1 x2 x3 : Value} {T : TypeId} (h : w.heap[B]? = some (.cells #[x0, x1, x2, x3] T (0, 0))) (a b c d : Value) :
    ((((w.setCell ⟨B, 0, none⟩ a).setCell ⟨B, 1, none⟩ b).setCell ⟨B, 2, none⟩ c).setCell ⟨B, 3, none⟩ d).heap[B]? = some (.cells #[a, b, c, d] T (0, 0)) := by
  rw [blk_set_same (blk_set_same (blk_set_same (blk_set_same h a) b) c) d]; rfl
theorem keeps_quad {w : World} (B : Nat) (a b c d : Value) : Keeps (fun k => k = B) w ((((w.setCell ⟨B, 0, none⟩ a).setCell ⟨B, 1, none⟩ b).setCell ⟨B, 2, none⟩ c).setCell ⟨B, 3, none⟩ d) :=
  ((((Keeps.refl (fun k => k = B) w).setCell (p := ⟨B, 0, none⟩) (.inl rfl) _).setCell (p := ⟨B, 1, none⟩) (.inl rfl) _).setCell (p := ⟨B, 2, none⟩) (.inl rfl) _).setCell (p := ⟨B, 3, none⟩) (.inl rfl) _

def ResultPost (t : Tsk) (vp : Value) (p : List Int) (found : Bool) (n : Int) (w : World) (e : Ending) (w' : World) : Prop := Keeps (fun _ => False) w w' ∧
  ((60 < p.length ∧ e = .returned (.tuple #[resV false (.slice none 0 0) 0 0, fltV 10 (-9)])) ∨
   (p.length ≤ 60 ∧ e = .returned (.tuple #[resV found vp (costL t p) n, fltV 0 0])))

set_option maxRecDepth 100000 in
set_option maxHeartbeats 2000000 in
theorem result_any (w : World) (vi vg vo vp : Value) (t : Tsk) (p : List Int) (found : Bool) (n : Int) (h : TaskAt w vi vg vo t) (ok : t.Ok) (hp : Ints w vp p) (hin : PlanIn t p) :
    Calls Tryz.prog 49 #[.agg #[.int .i64 t.n, vi, vg, vo], vp, .bool found, .int .i64 n] w (ResultPost t vp p found n w) := by
  obtain ⟨ai, ci, h1, _⟩ := h.init.form
  obtain ⟨ag, cg, h2, _⟩ := h.goal.form
  obtain ⟨ao, co, h3, hmo⟩ := h.ops.form
  obtain ⟨ap, cp, h4, _⟩ := hp.form
  have K1 := (Keeps.refl (fun _ => False) w).alloc (.cells #[.int .i64 t.n, vi, vg, vo] 25)
  have KA := (Keeps.refl (fun _ => False) (w.alloc (.cells #[.int .i64 t.n, vi, vg, vo] 25))).alloc (.cells #[.bool false, .slice none 0 0, .int .i64 0, .int .i64 0] 29)
  have KB := (Keeps.refl (fun _ => False) ((w.alloc (.cells #[.int .i64 t.n, vi, vg, vo] 25)).alloc (.cells #[.bool false, .slice none 0 0, .int .i64 0, .int .i64 0] 29))).alloc (.cells #[.int .i64 0, .int .i64 0] 31)
  have HB := Lib.hid ((Four.new w (.int .i64 t.n) vi vg vo 25).keeps0 (KA.trans KB))
  have HR := Lib.hid (KB.heap (heap_alloc_new (w.alloc (.cells #[.int .i64 t.n, vi, vg, vo] 25)) (.cells #[.bool false, .slice none 0 0, .int .i64 0, .int .i64 0] 29)) (fun h => h))
  have HF : Flt w _ _ 31 := ⟨heap_alloc_new ((w.alloc (.cells #[.int .i64 t.n, vi, vg, vo] 25)).alloc (.cells #[.bool false, .slice none 0 0, .int .i64 0, .int .i64 0] 29)) (.cells #[.int .i64 0, .int .i64 0] 31), by simp; omega, K1.trans (KA.trans KB)⟩
  replace HF := Lib.hid HF
  have HT := Lib.hid (h.keeps0 (K1.trans (KA.trans KB))); have HP := Lib.hid (show Ints _ vp p from hp.keeps0 (K1.trans (KA.trans KB)))
  have OK := Lib.hid ok; have HIN := Lib.hid hin
  rw [World.size_alloc] at HR HF
  rw [World.size_alloc] at HF
  subst h1 h2 h3 h4
  clear h hp hin ok K1 KA KB
  go_enter Tryz.func49, Tryz.ntmps49
  go_upto_region 1 with fail
  generalize ((w.alloc (.cells #[.int .i64 t.n, .slice ai t.init.length ci, .slice ag t.goal.length cg, .slice ao t.ops.length co] 25)).alloc (.cells #[.bool false, .slice none 0 0, .int .i64 0, .int .i64 0] 29)).alloc (.cells #[.int .i64 0, .int .i64 0] 31) = w1 at HB HR HF HT HP ⊢
  have r0 : w1.cell? ⟨w.heap.size + 1, 0, none⟩ = some (.bool false) := by rw [cell_of_blk HR.out]; rfl
  have r1 : w1.cell? ⟨w.heap.size + 1, 1, none⟩ = some (.slice none 0 0) := by rw [cell_of_blk HR.out]; rfl
  have r2 : w1.cell? ⟨w.heap.size + 1, 2, none⟩ = some (.int .i64 0) := by rw [cell_of_blk HR.out]; rfl
  have r3 : w1.cell? ⟨w.heap.size + 1, 3, none⟩ = some (.int .i64 0) := by rw [cell_of_blk HR.out]; rfl
  have y0 := frozen_of_blk (o := 0) HR.out
  have y1 := frozen_of_blk (o := 1) HR.out
  have y2 := frozen_of_blk (o := 2) HR.out
  have y3 := frozen_of_blk (o := 3) HR.out
  have hlR := lt_of_heap HR.out
  obtain ⟨e0, e1, z0, z1, hF⟩ := HF.out.cells
  by_cases hlen : 60 < p.length
  · have q1 : decide ((60 : Int) < (p.length : Int)) = true := by simp; omega
    have HLEN := Lib.hid hlen
    have kq := keeps_quad (w := w1) (w.heap.size + 1) (.bool false) (.slice none 0 0) (.int .i64 0) (.int .i64 0)
    have HQ := Lib.hid (quad_set HR.out (.bool false) (.slice none 0 0) (.int .i64 0) (.int .i64 0))
    have HF2 := Lib.hid (HF.out.keepsS kq (by omega) (fun i hi => by omega))
    clear hlen kq
    go_wp2_with fail
    refine bodyPost_ret (results_cell_cell _ _ (w.heap.size + 1 + 1) 31 #[.int .i64 10, .int .i64 (-9)] (0, 0) _ rfl rfl (HF2.out.set (.int .i64 10) (.int .i64 (-9))).1 Tryz.underlying31 rfl (by kernel_rfl) rfl ((keeps_pair (w.heap.size + 1 + 1) _ _).heap HQ.out (by omega)) Tryz.underlying29 rfl (by kernel_rfl)) rfl ?_
    exact ⟨(HF2.out.set _ _).2, .inl ⟨HLEN.out, rfl⟩⟩
  · have q1 : decide ((60 : Int) < (p.length : Int)) = false := by simp; omega
    have hlen2 : p.length ≤ 60 := by omega
    have HLEN := Lib.hid hlen2
    have hs1 := HF.out.keep.size
    have HOC := Lib.hid (HT.out.ops.cell rfl)
    have CP := Lib.hid (HP.out.cell rfl)
    have K3 := Lib.hid ((Keeps.refl (fun _ => False) w1).alloc (.cells #[.bool found, .slice ap p.length cp, .int .i64 0, .int .i64 n] 29))
    have HX3 := Lib.hid (heap_alloc_new w1 (.cells #[.bool found, .slice ap p.length cp, .int .i64 0, .int .i64 n] 29))
    have hbw := HB.out.lt
    clear hlen HT HP r0 r1 r2 r3 y0 y1 y2 y3 e0 e1 z0 z1
    go_upto_region 5 with fail
    generalize w1.alloc (.cells #[.bool found, .slice ap p.length cp, .int .i64 0, .int .i64 n] 29) = w3 at K3 HX3 ⊢
    obtain ⟨bx, hbx⟩ : ∃ bx, w1.heap.size = bx := ⟨_, rfl⟩
    have HBX := Lib.hid hbx
    rw [hbx] at hF hlR hs1 hbw
    rw [show w1.heap.size = bx from hbx] at HX3
    rw [hbx]
    clear hbx
    go_loopw [24] (fun v24 wr => ∃ i : Nat, i ≤ p.length ∧ v24 = .int .i64 (i : Int) ∧ wr.heap[bx]? = some (.cells #[.bool found, .slice ap p.length cp, .int .i64 (costL t (p.take i)), .int .i64 n] 29 (0, 0)) ∧ Keeps (fun _ => False) w1 wr) (fun v24 _ => p.length - (intOf v24).toNat)
    case atStart => exact ⟨0, Nat.zero_le _, rfl, HX3.out, K3.out⟩
    case round =>
      obtain ⟨i, hi, rfl, hx, hkr⟩ := hrel
      have HX := Lib.hid hx
      have HKR := Lib.hid hkr
      have HB2 := Lib.hid (HB.out.keeps0 hkr)
      have HF2 := Lib.hid (HF.out.keeps0 hkr)
      have HR2 := Lib.hid (hkr.heap HR.out (fun h => h))
      have s0 : wr.cell? ⟨bx, 0, none⟩ = some (.bool found) := by rw [cell_of_blk hx]; rfl
      have s1 : wr.cell? ⟨bx, 1, none⟩ = some (.slice ap p.length cp) := by rw [cell_of_blk hx]; rfl
      have s2 : wr.cell? ⟨bx, 2, none⟩ = some (.int .i64 (costL t (p.take i))) := by rw [cell_of_blk hx]; rfl
      have s3 : wr.cell? ⟨bx, 3, none⟩ = some (.int .i64 n) := by rw [cell_of_blk hx]; rfl
      have v2 := frozen_of_blk (o := 2) hx
      have hlx := lt_of_heap hx
      clear hkr hx
      by_cases hlt : i < p.length
      · obtain ⟨d0, d1, d2, d3⟩ := HB2.out
        have hbl2 := HB2.out.lt
        obtain ⟨bp, op, rfl, hx'⟩ := CP.out (by omega)
        obtain ⟨x, hx⟩ : ∃ x, p[i]? = some x := ⟨_, List.getElem?_eq_getElem hlt⟩
        have hu := HKR.out.cell (hx' i x hx) (fun h => h)
        have hxi := HIN.out x (List.mem_of_getElem? hx)
        obtain ⟨xn, rfl⟩ : ∃ xn : Nat, x = (xn : Int) := ⟨x.toNat, by omega⟩
        obtain ⟨bo, oo, rfl, ho'⟩ := HOC.out (by omega)
        obtain ⟨o, ho⟩ : ∃ o, t.ops[xn]? = some o := ⟨_, List.getElem?_eq_getElem (by omega)⟩
        obtain ⟨va, vb, vc, _, _, _, c3, _⟩ := ho' xn o ho
        have c3' := HKR.out.cell c3 (fun h => h)
        have HTK : Hid (costL t (p.take (i + 1)) = costL t (p.take i) + o.cost) := by
          unfold Hid
          rw [take_getS hx, costL_append]
          simp [costL, costAt, ho]
        have hbd := costL_bound OK.out (p.take i)
        have hbl : ((p.take i).length : Int) ≤ 1000000 := by rw [List.length_take]; omega
        have hoc := OK.out.ops o (List.mem_of_getElem? ho)
        have ho0 := hoc.cost0
        have ho1 := hoc.cost1
        have q1 : IntKind.i64.wrap (costL t (p.take i) + o.cost) = costL t (p.take i) + o.cost := IntWalk.i64_in _ (by omega)
        have q2 : ((xn : Int)).toNat = xn := by omega
        have q3 : (0 : Int) ≤ (xn : Int) := by omega
        have q4 : (xn : Int) < (t.ops.length : Int) := hxi.2
        clear hx' hx ho' ho c3 hxi hoc hbl hbd
        go_upto_region 7 with fail
        go_still_tail 10, (by kernel_rfl)
        change wpList _ _ _ _ _ wr.drew
        have KD := (Keeps.refl (fun _ => False) wr).drew
        have HXD := Lib.hid (KD.heap HX.out (fun h => h))
        have HKD := Lib.hid (HKR.out.trans KD)
        clear KD d0 d1 d2 d3 hbl2 hu c3' s0 s1 s2 s3 v2 hlx
        generalize wr.drew = w5 at HXD HKD ⊢
        have s2 : w5.cell? ⟨bx, 2, none⟩ = some (.int .i64 (costL t (p.take i))) := by rw [cell_of_blk HXD.out]; rfl
        have v2 := frozen_of_blk (o := 2) HXD.out
        have hlx := lt_of_heap HXD.out
        have HN := Lib.hid (blk_set_same HXD.out (o := 2) (.int .i64 (costL t (p.take i) + o.cost)))
        have HKN := Lib.hid (HKD.out.trans' ((Keeps.refl (fun k => k = bx) w5).setCell (p := ⟨bx, 2, none⟩) (.inl rfl) (.int .i64 (costL t (p.take i) + o.cost))) (fun k hk => .inr (by have := HBX.out; omega)))
        go_wp2_with fail
        go_roundw
        case rel => exact ⟨i + 1, by omega, by go_num, by rw [HTK.out]; exact HN.out, HKN.out⟩
        case measure => simp only [intOf]; omega
      · have hie : i = p.length := by omega
        subst hie
        have r0 : wr.cell? ⟨w.heap.size + 1, 0, none⟩ = some (.bool false) := by rw [cell_of_blk HR2.out]; rfl
        have r1 : wr.cell? ⟨w.heap.size + 1, 1, none⟩ = some (.slice none 0 0) := by rw [cell_of_blk HR2.out]; rfl
        have r2 : wr.cell? ⟨w.heap.size + 1, 2, none⟩ = some (.int .i64 0) := by rw [cell_of_blk HR2.out]; rfl
        have r3 : wr.cell? ⟨w.heap.size + 1, 3, none⟩ = some (.int .i64 0) := by rw [cell_of_blk HR2.out]; rfl
        have y0 := frozen_of_blk (o := 0) HR2.out
        have y1 := frozen_of_blk (o := 1) HR2.out
        have y2 := frozen_of_blk (o := 2) HR2.out
        have y3 := frozen_of_blk (o := 3) HR2.out
        have hlR2 := lt_of_heap HR2.out
        obtain ⟨e0, e1, z0, z1, hF2⟩ := HF2.out.cells
        have HCE : Hid (costL t (p.take p.length) = costL t p) := by unfold Hid; rw [List.take_length]
        have kq := keeps_quad (w := wr) (w.heap.size + 1) (.bool found) (.slice ap p.length cp) (.int .i64 (costL t p)) (.int .i64 n)
        have HQ := Lib.hid (quad_set HR2.out (.bool found) (.slice ap p.length cp) (.int .i64 (costL t p)) (.int .i64 n))
        have HF4 := Lib.hid (HF2.out.keepsS kq (by omega) (fun i hi => by omega))
        rw [HCE.out] at s2
        clear kq HX
        go_wp2_with fail
        refine bodyPost_ret (results_cell_cell _ _ (w.heap.size + 1 + 1) 31 #[.int .i64 0, .int .i64 0] (0, 0) _ rfl rfl (HF4.out.set (.int .i64 0) (.int .i64 0)).1 Tryz.underlying31 rfl (by kernel_rfl) rfl ((keeps_pair (w.heap.size + 1 + 1) _ _).heap HQ.out (by omega)) Tryz.underlying29 rfl (by kernel_rfl)) rfl ?_
        exact ⟨(HF4.out.set _ _).2, .inr ⟨HLEN.out, rfl⟩⟩

end Go.Proofs.YtcpmjoabhnfddaaGreat

namespace Go.Proofs.YtcpmjoabhnfddaaGreat
open Go.RowKit

/-! ### the plans of a search -/
theorem runOps_lt {ops : List Wop} : ∀ {p : List Nat} {x y : Nat}, runOps ops x p = some y → ∀ o ∈ p, o < ops.length
  | [], _, _, _, _, h => by cases h
  | o :: r, x, y, h, k, hk => by
    rw [runOps] at h
    cases ho : ops[o]? with
    | none => rw [ho] at h; cases h
    | some op =>
      rw [ho] at h; simp only at h
      split at h
      · rcases List.mem_cons.1 hk with rfl | hk
        · exact (List.getElem?_eq_some_iff.1 ho).1
        · exact runOps_lt h k hk
      · cases h

theorem planIn_run {t : Tsk} {p : List Nat} {x y : Nat} (h : runOps (wordsOf t.ops) x p = some y) : PlanIn t (intsP p) := by
  intro z hz
  unfold intsP at hz
  obtain ⟨o, ho, rfl⟩ := List.mem_map.1 hz
  have := runOps_lt h o ho
  unfold wordsOf at this
  rw [List.length_map] at this
  omega

/-! ### two blocks of results -/
structure RFl (w w1 : World) (R F : Nat) : Prop where
  res : w1.heap[R]? = some (.cells #[.bool false, .slice none 0 0, .int .i64 0, .int .i64 0] 29 (0, 0))
  flt : Flt w w1 F 31
  base : w.heap.size ≤ R
  ne : R ≠ F
theorem RFl.keeps0 {w w1 w2 : World} {R F : Nat} (h : RFl w w1 R F) (hk : Keeps (fun _ => False) w1 w2) : RFl w w2 R F := ⟨hk.heap h.res (fun h => h), h.flt.keeps0 hk, h.base, h.ne⟩
theorem RFl.cells {w w1 : World} {R F : Nat} (h : RFl w w1 R F) : w1.cell? ⟨R, 0, none⟩ = some (.bool false) ∧ w1.cell? ⟨R, 1, none⟩ = some (.slice none 0 0) ∧ w1.cell? ⟨R, 2, none⟩ = some (.int .i64 0) ∧ w1.cell? ⟨R, 3, none⟩ = some (.int .i64 0) ∧
    w1.frozen? ⟨R, 0, none⟩ = false ∧ w1.frozen? ⟨R, 1, none⟩ = false ∧ w1.frozen? ⟨R, 2, none⟩ = false ∧ w1.frozen? ⟨R, 3, none⟩ = false ∧ R < w1.heap.size :=
  ⟨by rw [cell_of_blk h.res]; rfl, by rw [cell_of_blk h.res]; rfl, by rw [cell_of_blk h.res]; rfl, by rw [cell_of_blk h.res]; rfl, frozen_of_blk h.res, frozen_of_blk h.res, frozen_of_blk h.res, frozen_of_blk h.res, lt_of_heap h.res⟩
theorem RFl.set {w w1 : World} {R F : Nat} (h : RFl w w1 R F) (a b c d x y : Value) :
    ((((((w1.setCell ⟨R, 0, none⟩ a).setCell ⟨R, 1, none⟩ b).setCell ⟨R, 2, none⟩ c).setCell ⟨R, 3, none⟩ d).setCell ⟨F, 0, none⟩ x).setCell ⟨F, 1, none⟩ y).heap[R]? = some (.cells #[a, b, c, d] 29 (0, 0)) ∧
    ((((((w1.setCell ⟨R, 0, none⟩ a).setCell ⟨R, 1, none⟩ b).setCell ⟨R, 2, none⟩ c).setCell ⟨R, 3, none⟩ d).setCell ⟨F, 0, none⟩ x).setCell ⟨F, 1, none⟩ y).heap[F]? = some (.cells #[x, y] 31 (0, 0)) ∧
    Keeps (fun _ => False) w ((((((w1.setCell ⟨R, 0, none⟩ a).setCell ⟨R, 1, none⟩ b).setCell ⟨R, 2, none⟩ c).setCell ⟨R, 3, none⟩ d).setCell ⟨F, 0, none⟩ x).setCell ⟨F, 1, none⟩ y) ∧
    Keeps (fun k => k = R ∨ k = F) w1 ((((((w1.setCell ⟨R, 0, none⟩ a).setCell ⟨R, 1, none⟩ b).setCell ⟨R, 2, none⟩ c).setCell ⟨R, 3, none⟩ d).setCell ⟨F, 0, none⟩ x).setCell ⟨F, 1, none⟩ y) := by
  have kq := keeps_quad (w := w1) R a b c d
  have hq := quad_set h.res a b c d
  have hf := h.flt.keepsS kq (fun e => h.ne e.symm) (fun i hi => by subst hi; exact h.base)
  have hs := hf.set x y
  exact ⟨(keeps_pair F x y).heap hq h.ne, hs.1, hs.2, (kq.mono (fun _ _ h => .inl h)).trans ((keeps_pair F x y).mono (fun _ _ h => .inr h))⟩

/-- The zero result stays as it is. -/
theorem RFl.ids {w w1 : World} {R F : Nat} (h : RFl w w1 R F) : w1.setCell ⟨R, 0, none⟩ (.bool false) = w1 ∧ w1.setCell ⟨R, 1, none⟩ (.slice none 0 0) = w1 ∧ w1.setCell ⟨R, 2, none⟩ (.int .i64 0) = w1 ∧ w1.setCell ⟨R, 3, none⟩ (.int .i64 0) = w1 :=
  ⟨setCell_id h.cells.1, setCell_id h.cells.2.1, setCell_id h.cells.2.2.1, setCell_id h.cells.2.2.2.1⟩
theorem RFl.fin {w w1 : World} {R F : Nat} (h : RFl w w1 R F) (x y : Value) : ((w1.setCell ⟨F, 0, none⟩ x).setCell ⟨F, 1, none⟩ y).drew.heap[R]? = some (.cells #[.bool false, .slice none 0 0, .int .i64 0, .int .i64 0] 29 (0, 0)) ∧
    ((w1.setCell ⟨F, 0, none⟩ x).setCell ⟨F, 1, none⟩ y).drew.heap[F]? = some (.cells #[x, y] 31 (0, 0)) ∧ Keeps (fun _ => False) w ((w1.setCell ⟨F, 0, none⟩ x).setCell ⟨F, 1, none⟩ y).drew :=
  ⟨(keeps_pair F x y).drew.heap h.res h.ne, (h.flt.set x y).1, (h.flt.set x y).2.drew⟩

theorem quad_cells {w : World} {B : Nat} {a b c d : Value} {T : TypeId} (h : w.heap[B]? = some (.cells #[a, b, c, d] T (0, 0))) : w.cell? ⟨B, 0, none⟩ = some a ∧ w.cell? ⟨B, 1, none⟩ = some b ∧ w.cell? ⟨B, 2, none⟩ = some c ∧ w.cell? ⟨B, 3, none⟩ = some d ∧ B < w.heap.size :=
  ⟨by rw [cell_of_blk h]; rfl, by rw [cell_of_blk h]; rfl, by rw [cell_of_blk h]; rfl, by rw [cell_of_blk h]; rfl, lt_of_heap h⟩

/-! ### what Plan hands back -/
end Go.Proofs.YtcpmjoabhnfddaaGreat

namespace Go.Proofs.YtcpmjoabhnfddaaGreat

/-! ### greater states -/
theorem goalB_iff {g x : Nat} : goalB g x = true ↔ under g x := by
  unfold goalB
  rw [beq_iff_eq]
  constructor
  · intro h i hi
    have := congrArg (fun z => z.testBit i) h
    simp only [Nat.testBit_and, hi, Bool.and_true] at this
    exact this
  · intro h
    refine Nat.eq_of_testBit_eq fun i => ?_
    rw [Nat.testBit_and]
    cases hg : g.testBit i with
    | false => simp
    | true => rw [h i hg]; rfl
theorem can_iff {o : Wop} {x : Nat} : o.can x = true ↔ under o.pre x := goalB_iff (g := o.pre) (x := x)
theorem reach_run {ops : List Wop} {s : Nat} : ∀ (q : List Nat) {x y : Nat}, Reach ops s x → runOps ops x q = some y → Reach ops s y
  | [], x, y, hx, hy => by cases hy; exact hx
  | a :: q, x, y, hx, hy => by
    rw [runOps] at hy
    cases ho : ops[a]? with
    | none => rw [ho] at hy; cases hy
    | some o =>
      rw [ho] at hy; simp only at hy
      by_cases hc : o.can x = true
      · rw [if_pos hc] at hy
        exact reach_run q (.step hx (List.mem_map.2 ⟨o, List.mem_filter.2 ⟨List.mem_of_getElem? ho, hc⟩, rfl⟩)) hy
      · rw [if_neg hc] at hy; cases hy

/-! ### the search that finds nothing -/
section
variable {acc : Nat → Bool} {cov : Nat → List Nat → Bool}
end

theorem ops_cost {t : Tsk} (ok : t.Ok) : ∀ o ∈ wordsOf t.ops, 0 ≤ o.cost ∧ o.cost ≤ 100 := fun o ho => by
  unfold wordsOf at ho
  obtain ⟨o', ho', rfl⟩ := List.mem_map.1 ho
  exact ⟨(ok.ops o' ho').cost0, (ok.ops o' ho').cost1⟩

end Go.Proofs.YtcpmjoabhnfddaaGreat

namespace Go.Proofs.YtcpmjoabhnfddaaGreat
open Go.RowKit

/-- What BestPlans hands back for the least price b, or -1. -/
def bestV (b : Int) : Value := if b < 0 then .tuple #[.int .i64 0, .int .i64 0, .bool false] else .tuple #[.int .i64 (b / 4096), .int .i64 (b % 4096), .bool true]
/-- The least price of a plan of the task. -/
def BestT (t : Tsk) (b : Int) : Prop := LeastOf 4096 1 (wordsOf t.ops) (wd t.init) (goalB (wd t.goal)) b
theorem best_small {t : Tsk} (ok : t.Ok) {l : List Nat} (hx : explored t = some l) {b : Int} (h : BestT t b) : -1 ≤ b ∧ b ≤ 1000000000 := by
  rcases h with ⟨h1, _⟩ | ⟨h1, ⟨p, y, hp, hy, _⟩, h3⟩
  · omega
  · obtain ⟨_, _, _, hsh, hfew, _, _, n8⟩ := costs_need ok hx (List.Perm.refl l)
    have hr := (reached_some (ops := wordsOf t.ops) (s := wd t.init) (l := l) hx).2.2.2
    obtain ⟨q, h4, h5, h6⟩ := short_run (L := l) (ops_cost0 ok) (fun p z hz => (hr z).2 (reach_run p .refl hz)) p.length (Nat.le_refl _) hp
    have := h3 q y h4 hy
    have h7 := (costN_bound (ops_cost0 ok) q).2
    rw [wayN_split] at this
    omega

set_option maxRecDepth 100000 in
set_option maxHeartbeats 4000000 in
theorem bestPlans_any (w : World) (vi vg vo : Value) (t : Tsk) {l : List Nat} (h : TaskAt w vi vg vo t) (ok : t.Ok) (hx : explored t = some l) :
    Calls Tryz.prog 54 #[.agg #[.int .i64 t.n, vi, vg, vo]] w fun e w' => ∃ b, e = .returned (bestV b) ∧ BestT t b ∧ Keeps (fun _ => False) w w' := by
  obtain ⟨ai, ci, h1, _⟩ := h.init.form
  obtain ⟨ag, cg, h2, _⟩ := h.goal.form
  obtain ⟨ao, co, h3, hmo⟩ := h.ops.form
  subst h1 h2 h3
  have HB := Lib.hid (Four.new w (.int .i64 t.n) (.slice ai t.init.length ci) (.slice ag t.goal.length cg) (.slice ao t.ops.length co) 25)
  have K1 := (Keeps.refl (fun _ => False) w).alloc (.cells #[.int .i64 t.n, .slice ai t.init.length ci, .slice ag t.goal.length cg, .slice ao t.ops.length co] 25)
  have HT := Lib.hid (h.keeps0 K1); have HK := Lib.hid K1
  have OK := Lib.hid ok; have HX := Lib.hid hx
  obtain ⟨_, _, _, hsh, hfew, _, _, n8⟩ := costs_need ok hx (List.Perm.refl l)
  have hrs := reached_some (ops := wordsOf t.ops) (s := wd t.init) (l := l) hx
  have HSH := Lib.hid hsh; have HR := Lib.hid hrs.2.2.2; have H0 := Lib.hid hrs.2.2.1
  have HG := Lib.hid (show ∀ x ∈ l, Good t.n x from fun x h => good_reach ok (good_wd (by have := ok.n1; omega) ok.init) ((hrs.2.2.2 x).1 h))
  have HAR := Lib.hid (show ∀ a ∈ arcs (wordsOf t.ops) l, a.frm < l.length ∧ a.to < l.length ∧ 0 ≤ a.cost ∧ a.cost ≤ 100 from fun a ha => by
    obtain ⟨x, o, g1, g2, g3, g4, g5⟩ := mem_arcs.1 ha
    have := ops_cost0 ok o (List.mem_of_getElem? g2)
    rw [g4]
    exact ⟨(List.getElem?_eq_some_iff.1 g1).1, (List.getElem?_eq_some_iff.1 g5).1, this⟩)
  have hl0 : 0 < l.length := List.length_pos_of_mem n8
  clear h K1 ok hx hsh n8 hrs
  go_enter Tryz.func54, Tryz.ntmps54
  go_upto_region 1 with fail
  generalize (w.alloc (.cells #[.int .i64 t.n, .slice ai t.init.length ci, .slice ag t.goal.length cg, .slice ao t.ops.length co] 25)) = w1 at HB HT HK ⊢
  generalize w.heap.size = bt at HB ⊢
  have hbx := HB.out.lt
  obtain ⟨d0, d1, d2, d3⟩ := HB.out
  go_wp2_with fail
  refine (reached_any _ _ _ _ t HT.out OK.out).mono ?_; rintro e w2 ⟨hk, hr⟩
  rcases hr with ⟨hn, _⟩ | ⟨l', hl', v, vw, vs, rfl, hrows⟩
  · exact absurd (hn.symm.trans HX.out) (by simp)
  obtain rfl : l = l' := by have := hl'.symm.trans HX.out; cases this; rfl
  have hli := hrows.lists
  obtain ⟨a5, c5, hv5, _⟩ := hli.form
  rw [List.length_map] at hv5
  subst hv5
  have HL2 := Lib.hid hli; have HB2 := Lib.hid (HB.out.keeps0 hk); have HT2 := Lib.hid (HT.out.keeps0 hk); have K2 := Lib.hid (HK.out.trans hk)
  clear hk hl' hrows hli d0 d1 d2 d3 hbx HB HT HK
  have hbx := HB2.out.lt
  obtain ⟨d0, d1, d2, d3⟩ := HB2.out
  go_wp2_with fail
  refine (arcs_any _ _ _ _ _ t l HT2.out OK.out HL2.out HG.out hfew).mono ?_; rintro e w3 ⟨va, rfl, hoa, hk⟩
  obtain ⟨aa, ca, haa⟩ := ownsRow_formS hoa
  subst haa
  have HA3 := Lib.hid hoa.at
  have HL3 := Lib.hid (HL2.out.keeps0 hk); have HB3 := Lib.hid (HB2.out.keeps0 hk); have HT3 := Lib.hid (HT2.out.keeps0 hk); have K3 := Lib.hid (K2.out.trans hk)
  clear hk hoa d0 d1 d2 d3 hbx HB2 HT2 K2 HL2
  go_wp2_with fail
  refine (prices_any _ _ _ (l.map facts) (arcs (wordsOf t.ops) l) 0 4096 1 HL3.out HA3.out (by rw [List.length_map]; omega) (by rw [List.length_map]; exact hl0) (by rw [List.length_map]; exact HAR.out) (by decide) (by decide) (by decide) (by decide)).mono ?_; rintro e w4 ⟨vp, d, rfl, hpo, hown, hk⟩
  rw [List.length_map] at hpo hown
  have HPO := Lib.hid hpo
  have hpl : d.length = l.length := hpo.len
  rw [← hpl] at hown
  obtain ⟨ap, cp, hv⟩ := ownsRow_form1 hown
  have HP4 := Lib.hid (Ints.of_own hown)
  rw [hpl] at hv
  subst hv
  have HL4 := Lib.hid (HL3.out.keeps0 hk); have HB4 := Lib.hid (HB3.out.keeps0 hk); have HT4 := Lib.hid (HT3.out.keeps0 hk); have K4 := Lib.hid (K3.out.trans hk)
  clear hk hown hpo HB3 HT3 K3 HL3 HA3
  have hbx := HB4.out.lt
  obtain ⟨d0, d1, d2, d3⟩ := HB4.out
  go_wp2_with fail
  refine (goals_any _ _ _ _ _ t l HT4.out HL4.out hfew).mono ?_; rintro e w5 ⟨vb, rfl, hob, hk⟩
  obtain ⟨ab, cb, hab⟩ := ownsRow_form1 hob
  subst hab
  have HO5 := Lib.hid (show Bools w5 (.slice ab l.length cb) (l.map (goalB (wd t.goal))) by rw [← goals_eq OK.out HG.out]; unfold Bools; rw [List.length_map]; exact Sl.of_own hob)
  have HP5 := Lib.hid (HP4.out.keeps0 hk); have K5 := Lib.hid (K4.out.trans hk)
  clear hk hob d0 d1 d2 d3 hbx HB4 HT4 K4 HL4 HP4
  have HCP := Lib.hid (HP5.out.cell (show Value.slice ap l.length cp = .slice ap l.length cp from rfl))
  have HCB := Lib.hid (Sl.cellN HO5.out rfl)
  have HLEN := Lib.hid hpl
  have HGL := Lib.hid (show (l.map (goalB (wd t.goal))).length = l.length from List.length_map _)
  go_wp2_with fail
  go_loopw [9, 10] (fun v9 v10 wr => ∃ i : Nat, i ≤ l.length ∧ v10 = .int .i64 (i : Int) ∧ v9 = .int .i64 (bestTo d (l.map (goalB (wd t.goal))) i) ∧ Keeps (fun _ => False) w5 wr) (fun _ v10 _ => l.length - (intOf v10).toNat)
  case atStart => exact ⟨0, Nat.zero_le _, rfl, rfl, Keeps.refl _ _⟩
  case round =>
    obtain ⟨i, hi, rfl, rfl, hkr⟩ := hrel
    have HKR := Lib.hid hkr
    clear hkr
    by_cases hlt : i < l.length
    · obtain ⟨x, hx⟩ : ∃ x, l[i]? = some x := ⟨_, List.getElem?_eq_getElem hlt⟩
      obtain ⟨z, hz⟩ : ∃ z, d[i]? = some z := ⟨_, List.getElem?_eq_getElem (by omega)⟩
      obtain ⟨bp, op, rfl, hpc⟩ := HCP.out (by omega)
      obtain ⟨bb, ob, rfl, hbc⟩ := HCB.out (by rw [HGL.out]; omega)
      have q1 := HKR.out.cell (hpc i z hz) (fun h => h)
      have hgi : (l.map (goalB (wd t.goal)))[i]? = some (goalB (wd t.goal) x) := by rw [List.getElem?_map, hx]; rfl
      have q2 := HKR.out.cell (hbc i (.bool (goalB (wd t.goal) x)) (by rw [List.getElem?_map, hgi]; rfl)) (fun h => h)
      have HN := Lib.hid (show bestTo d (l.map (goalB (wd t.goal))) (i + 1) = if goalB (wd t.goal) x = true ∧ (bestTo d (l.map (goalB (wd t.goal))) i < 0 ∨ z < bestTo d (l.map (goalB (wd t.goal))) i) then z else bestTo d (l.map (goalB (wd t.goal))) i by
        rw [bestTo, hgi, hz]; simp)
      clear hpc hbc hgi hz hx
      generalize hbt : bestTo d (l.map (goalB (wd t.goal))) i = b at HN ⊢
      have hilt : (i : Int) < (l.length : Int) := by omega
      cases hg : goalB (wd t.goal) x with
      | false =>
        rw [hg] at q2
        have HE := Lib.hid (show bestTo d (l.map (goalB (wd t.goal))) (i + 1) = b by rw [HN.out, hg]; simp)
        clear hg HN hbt
        go_wp2_with fail
        go_roundw
        case rel => exact ⟨i + 1, by omega, by go_num, by rw [HE.out], HKR.out⟩
        case measure => simp [intOf]; omega
      | true =>
        rw [hg] at q2
        by_cases hb0 : b < 0
        · have hb1 : decide (b < 0) = true := by simpa using hb0
          have HE := Lib.hid (show bestTo d (l.map (goalB (wd t.goal))) (i + 1) = z by rw [HN.out, hg, if_pos ⟨rfl, .inl hb0⟩])
          clear hg HN hbt hb0
          go_wp2_with fail
          go_roundw
          case rel => exact ⟨i + 1, by omega, by go_num, by rw [HE.out], HKR.out⟩
          case measure => simp [intOf]; omega
        · have hb1 : decide (b < 0) = false := by simpa using hb0
          by_cases hzb : z < b
          · have hb2 : decide (z < b) = true := by simpa using hzb
            have HE := Lib.hid (show bestTo d (l.map (goalB (wd t.goal))) (i + 1) = z by rw [HN.out, hg, if_pos ⟨rfl, .inr hzb⟩])
            clear hg HN hbt hb0 hzb
            go_wp2_with fail
            go_roundw
            case rel => exact ⟨i + 1, by omega, by go_num, by rw [HE.out], HKR.out⟩
            case measure => simp [intOf]; omega
          · have hb2 : decide (z < b) = false := by simpa using hzb
            have HE := Lib.hid (show bestTo d (l.map (goalB (wd t.goal))) (i + 1) = b by rw [HN.out, hg, if_neg (fun e => by rcases e.2 with e | e <;> omega)])
            clear hg HN hbt hb0 hzb
            go_wp2_with fail
            go_roundw
            case rel => exact ⟨i + 1, by omega, by go_num, by rw [HE.out], HKR.out⟩
            case measure => simp [intOf]; omega
    · obtain rfl : i = l.length := by omega
      have HBT := Lib.hid (show BestT t (bestTo d (l.map (goalB (wd t.goal))) l.length) from best_of_prices HSH.out (fun x hx => reach_path ((HR.out x).1 hx)) H0.out (fun a ha => by have := (HAR.out a ha).2.2.1; omega) HPO.out (goalB (wd t.goal)))
      obtain ⟨hb1, hb2⟩ := best_small OK.out HX.out HBT.out
      generalize bestTo d (l.map (goalB (wd t.goal))) l.length = b at HBT hb1 hb2 ⊢
      by_cases hb0 : b < 0
      · have hb3 : decide (b < 0) = true := by simpa using hb0
        go_wp2_with fail
        go_ret3
        have ev : bestV b = .tuple #[.int .i64 0, .int .i64 0, .bool false] := by unfold bestV; rw [if_pos (by omega)]
        exact ⟨b, by rw [ev]; rfl, HBT.out, K5.out.trans HKR.out⟩
      · have hb3 : decide (b < 0) = false := by simpa using hb0
        have e1 : Int.tdiv b 4096 = b / 4096 := Int.tdiv_eq_ediv_of_nonneg (by omega)
        have e2 : Int.tmod b 4096 = b % 4096 := Int.tmod_eq_emod_of_nonneg (by omega)
        go_wp2_with fail
        go_ret3
        have ev : bestV b = .tuple #[.int .i64 (b / 4096), .int .i64 (b % 4096), .bool true] := by unfold bestV; rw [if_neg (by omega)]
        exact ⟨b, by rw [ev]; rfl, HBT.out, K5.out.trans HKR.out⟩

end Go.Proofs.YtcpmjoabhnfddaaGreat
