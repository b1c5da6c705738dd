/- space.Explore. strips.StateFault, breadth.Reach. The example task of the laws; breadth's example. breadth: the law that Plan is the reference's. breadth: the law that Reach is the reference's. space.Distances, space.Optimal. strips: sets, states and plans in plain words. Plans and the table of costs, in plain words. The least price of a plan, in plain Lean: what a search for best plans must find. A search from both ends, in plain Lean: what its two sides know, and that they have met on a best way when it ends. A map with words as keys, as a function that is not defined everywhere. A search from both ends, in plain Lean: the way back from a state, the measure of the search, its start, and the best plan at its end. bothends: a side in memory, and (*side).back. bothends: the closure that notes where the sides meet (meet$1). space.Path along a chain of parents that may have changed on the way. A search from both ends, in plain Lean: the state in the middle, and the costs of both parts. A search from both ends, in plain Lean: the arcs of both sides. astar: what a best-first search with an admissible heuristic finds, in plain Lean. bothends: the rows of arcs of both sides, as they grow; the cells of a row of arcs. bothends: both sides in memory, apart from each other, and what one call of advance leaves of them. bothends: both sides in memory as meet has made them. astar: what a best-first search has in memory, and a heuristic as a function value. astar.Best: what the search has in memory between its steps. No condition beyond what each theorem says. -/
import Derived.Test.YtkjmgafnaddhkaaGreatH4
import Derived.Lib.SlicesCompact

namespace Go.Proofs.YtkjmgafnaddhkaaGreat
open Go.RowKit

/-- A row of slices of facts, each in memory of its own. -/
structure SRow (W : World) (base : Nat) (v : Value) (ws : List Nat) (vs : List Value) : Prop where
  out : W.ownsRow base 22 1 v ws.length vs
  st : ∀ (i : Nat) (x : Nat), ws[i]? = some x → ∃ u, vs[i]? = some u ∧ Ints W u (facts x) ∧ (∀ k, u.ownBlock = some k → v.ownBlock ≠ some k) ∧ ∀ k, u.ownBlock = some k → base ≤ k ∧ k < W.heap.size

theorem SRow.keepsS {S : Nat → Prop} {W W' : World} {base : Nat} {v : Value} {ws : List Nat} {vs : List Value} (h : SRow W base v ws vs) (hk : Keeps S W W') (hs : ∀ k, S k → k < base) : SRow W' base v ws vs :=
  ⟨hk.ownsRow h.out (fun k hv hS => by have := (World.ownsRow.lt h.out k hv).1; have := hs k hS; omega), fun i x hx => by
    obtain ⟨u, h1, h2, h3, h4⟩ := h.st i x hx
    exact ⟨u, h1, h2.keepsS hk (fun _ k hk' hS => by have := (h4 k hk').1; have := hs k hS; omega), h3, fun k hk' => ⟨(h4 k hk').1, Nat.lt_of_lt_of_le (h4 k hk').2 hk.size⟩⟩⟩
theorem SRow.keeps0 {W W' : World} {base : Nat} {v : Value} {ws : List Nat} {vs : List Value} (h : SRow W base v ws vs) (hk : Keeps (fun _ => False) W W') : SRow W' base v ws vs := h.keepsS hk (fun _ h => h.elim)
theorem SRow.snoc {W7 W8 : World} {base : Nat} {v vo' vn : Value} {Q : List Nat} {vs : List Value} {y : Nat} (h : SRow W7 base v Q vs) (hn : Ints W7 vn (facts y))
    (hnb : ∀ k, vn.ownBlock = some k → v.ownBlock ≠ some k) (hnl : ∀ k, vn.ownBlock = some k → base ≤ k ∧ k < W7.heap.size)
    (K78 : Keeps (fun k => v.ownBlock = some k) W7 W8) (ho : W8.ownsRow base 22 1 vo' (Q.length + 1) (vs ++ [vn])) (hg : ∀ k, vo'.ownBlock = some k → v.ownBlock = some k ∨ W7.heap.size ≤ k) : SRow W8 base vo' (Q ++ [y]) (vs ++ [vn]) := by
  have hsz := K78.size
  have hvl : vs.length = Q.length := by simpa using h.out.1
  refine ⟨by rw [List.length_append]; exact ho, fun i x hx => ?_⟩
  have key : ∀ u, Ints W7 u (facts x) → (∀ k, u.ownBlock = some k → v.ownBlock ≠ some k) → (∀ k, u.ownBlock = some k → base ≤ k ∧ k < W7.heap.size) → Ints W8 u (facts x) ∧ (∀ k, u.ownBlock = some k → vo'.ownBlock ≠ some k) ∧ ∀ k, u.ownBlock = some k → base ≤ k ∧ k < W8.heap.size := fun u h1 h2 h3 =>
    ⟨h1.keepsS K78 (fun _ k hk e => h2 k hk e), fun k hk e => by
      rcases hg k e with h4 | h4
      · exact h2 k hk h4
      · have := (h3 k hk).2; omega, fun k hk => ⟨(h3 k hk).1, Nat.lt_of_lt_of_le (h3 k hk).2 hsz⟩⟩
  by_cases hlt : i < Q.length
  · rw [List.getElem?_append_left hlt] at hx
    obtain ⟨u, h1, h2, h3, h4⟩ := h.st i x hx
    exact ⟨u, by rw [List.getElem?_append_left (by omega)]; exact h1, key u h2 h3 h4⟩
  · have hil := (List.getElem?_eq_some_iff.1 hx).1
    have hi : i = Q.length := by simp at hil; omega
    subst hi
    rw [List.getElem?_append_right (Nat.le_refl _)] at hx
    simp at hx; subst hx
    exact ⟨vn, by rw [← hvl, List.getElem?_append_right (Nat.le_refl _)]; simp, key vn hn hnb hnl⟩
theorem SRow.lists {W : World} {base : Nat} {v : Value} {L : List Nat} {vs : List Value} (h : SRow W base v L vs) : Lists W v (L.map facts) := by
  obtain ⟨ao, cap, hv, hm, hc⟩ := Sl.of_own h.out
  refine ⟨ao, cap, by rw [List.length_map]; exact hv, by rw [List.length_map]; exact hm.1, fun h0 => ?_⟩
  rw [List.length_map] at h0
  obtain ⟨b, off, ha, hx⟩ := hc h0
  refine ⟨b, off, ha, fun i l hl => ?_⟩
  rw [List.getElem?_map] at hl
  cases hy : L[i]? with
  | none => rw [hy] at hl; cases hl
  | some y =>
    rw [hy] at hl; cases hl
    obtain ⟨u, h1, h2, _⟩ := h.st i y hy
    exact ⟨u, hx i u h1, h2⟩

def ExplPost (t : Tsk) (w : World) (e : Ending) (w' : World) : Prop := Keeps (fun _ => False) w w' ∧
  ((∃ c i, c ≠ 0 ∧ expF t = (c, i) ∧ e = .returned (.tuple #[.slice none 0 0, fltV c i])) ∨
   (t.Ok ∧ ∃ (l ws : List Nat) (v : Value), explored t = some l ∧ ws.Perm l ∧ ws.Pairwise ordW ∧ e = .returned (.tuple #[v, fltV 0 0]) ∧ Lists w' v (ws.map facts)))

set_option maxRecDepth 100000 in
set_option maxHeartbeats 2000000 in
theorem explore_any (w : World) (vi vg vo : Value) (t : Tsk) (h : TaskAt w vi vg vo t) :
    Calls Tryz.prog 24 #[.agg #[.int .i64 t.n, vi, vg, vo]] w (ExplPost t w) := by
  obtain ⟨j0, hj0, jz0, jz1, jz2⟩ := info_parts Tryz.info22
  obtain ⟨ai, ci, h1, _⟩ := h.init.form
  obtain ⟨ag, cg, h2, _⟩ := h.goal.form
  obtain ⟨ao, co, h3, hmo⟩ := h.ops.form
  subst h1 h2 h3
  have K1 := (Keeps.refl (fun _ => False) w).alloc (.cells #[.int .i64 t.n, .slice ai t.init.length ci, .slice ag t.goal.length cg, .slice ao t.ops.length co] 25)
  have HT := h.keeps0 (K1.alloc (.cells #[.int .i64 0, .int .i64 0] 31))
  have HB := (Four.new w (.int .i64 t.n) (.slice ai t.init.length ci) (.slice ag t.goal.length cg) (.slice ao t.ops.length co) 25).keeps0 ((Keeps.refl _ _).alloc (.cells #[.int .i64 0, .int .i64 0] 31))
  have HF : Flt w ((w.alloc (.cells #[.int .i64 t.n, .slice ai t.init.length ci, .slice ag t.goal.length cg, .slice ao t.ops.length co] 25)).alloc (.cells #[.int .i64 0, .int .i64 0] 31)) (w.heap.size + 1) 31 :=
    ⟨by have := heap_alloc_new (w.alloc (.cells #[.int .i64 t.n, .slice ai t.init.length ci, .slice ag t.goal.length cg, .slice ao t.ops.length co] 25)) (.cells #[.int .i64 0, .int .i64 0] 31); rwa [World.size_alloc] at this, by omega, K1.alloc _⟩
  replace HT := Lib.hid HT; replace HB := Lib.hid HB; replace HF := Lib.hid HF
  clear h K1
  go_enter Tryz.func24, Tryz.ntmps24
  go_upto_region 1 with fail
  generalize ((w.alloc (.cells #[.int .i64 t.n, .slice ai t.init.length ci, .slice ag t.goal.length cg, .slice ao t.ops.length co] 25)).alloc (.cells #[.int .i64 0, .int .i64 0] 31)) = w1 at HT HB HF ⊢
  have hbx := HB.out.lt
  obtain ⟨d0, d1, d2, d3⟩ := HB.out
  go_wp2_with fail
  refine (checked_any _ _ _ _ t HT.out).mono ?_; rintro e w2 ⟨hk, hr⟩
  have HF2 := Lib.hid (HF.out.keeps0 hk)
  clear d0 d1 d2 d3 hk
  have hb0 := HF2.out.keep.size
  rcases hr with ⟨hc, rfl⟩ | ⟨hok, hx, rfl⟩ | ⟨hok, l, hx, b, v, vl, ws, rfl, hw, hperm, hord, hown⟩
  · have hc2 : ((taskFault t).1 == 0) = false := by simpa using hc
    have HE := Lib.hid (show expF t = taskFault t by unfold expF; rw [if_neg hc])
    have HC := Lib.hid hc
    clear hc
    generalize hfe : taskFault t = f at hc2 HC HE ⊢
    clear hfe
    have HF3 := Lib.hid (HF2.out.keeps0 ((Keeps.refl _ _).alloc (.cells #[.int .i64 f.1, .int .i64 f.2] 31)))
    obtain ⟨e0, e1, z0, z1, hF⟩ := HF3.out.cells
    go_wp2_with fail
    go_region
    all_goals
      go_wp2
      refine bodyPost_ret (results_tmp_cell _ _ (w.heap.size + 1) 31 #[.int .i64 f.1, .int .i64 f.2] (0, 0) _ rfl rfl (((Keeps.refl (fun _ => False) _).drew).heap (HF3.out.set (.int .i64 f.1) (.int .i64 f.2)).1 (fun h => h)) Tryz.underlying31 rfl (by kernel_rfl)) rfl ?_
      exact ⟨((HF3.out.set (.int .i64 f.1) (.int .i64 f.2)).2).drew, .inl ⟨f.1, f.2, HC.out, HE.out, rfl⟩⟩
  · have HE := Lib.hid (show expF t = (10, -7) by unfold expF; rw [if_pos (taskFault_zero.2 hok), hx])
    clear hx hok
    have HF3 := Lib.hid (HF2.out.keeps0 ((Keeps.refl _ _).alloc (.cells #[.int .i64 10, .int .i64 (-7)] 31)))
    obtain ⟨e0, e1, z0, z1, hF⟩ := HF3.out.cells
    go_wp2_with fail
    go_region
    all_goals
      go_wp2
      refine bodyPost_ret (results_tmp_cell _ _ (w.heap.size + 1) 31 #[.int .i64 10, .int .i64 (-7)] (0, 0) _ rfl rfl (((Keeps.refl (fun _ => False) _).drew).heap (HF3.out.set (.int .i64 10) (.int .i64 (-7))).1 (fun h => h)) Tryz.underlying31 rfl (by kernel_rfl)) rfl ?_
      exact ⟨((HF3.out.set (.int .i64 10) (.int .i64 (-7))).2).drew, .inl ⟨10, -7, by decide, HE.out, rfl⟩⟩
  · have HX := Lib.hid hx; have OK := Lib.hid hok; have PERM := Lib.hid hperm; have ORD := Lib.hid (show ws.Pairwise ordW from hord)
    have hfew : ws.length ≤ 2000 := by rw [hperm.length_eq]; exact (reached_some hx).2.1
    have KA := (Keeps.refl (fun _ => False) w2).alloc (.cells #[.int .i64 0, .int .i64 0] 31)
    have HV := Lib.hid (show Sl _ vl ws.length (ws.map encW) from (Sl.of_own hown).keeps0 KA)
    have HF3 := Lib.hid (HF2.out.keeps0 KA)
    obtain ⟨av, cv, hav⟩ := ownsRow_form1 hown
    subst hav
    clear hx hok hw KA hperm hord hown
    have F0 := heap_alloc_new w2 (.cells #[.int .i64 0, .int .i64 0] 31)
    go_upto_region 2 with fail
    generalize w2.alloc (.cells #[.int .i64 0, .int .i64 0] 31) = w3 at HV HF3 F0 ⊢
    have HCV := Lib.hid (Sl.cellN HV.out rfl)
    have f0 : w3.cell? ⟨w2.heap.size, 0, none⟩ = some (.int .i64 0) := by rw [cell_of_blk F0]; rfl
    have f1 : w3.cell? ⟨w2.heap.size, 1, none⟩ = some (.int .i64 0) := by rw [cell_of_blk F0]; rfl
    clear F0
    obtain ⟨e0, e1, z0, z1, hF⟩ := HF3.out.cells
    have hb2 := HF3.out.keep.size
    have hbF := HF3.out.blk
    go_wp2_with fail
    go_loopw [7, 22] (fun v7 v22 wr => ∃ (i : Nat) (vs : List Value), i ≤ ws.length ∧ v22 = .int .i64 (i : Int) ∧ SRow wr w3.heap.size v7 (ws.take i) vs ∧ Keeps (fun _ => False) w3 wr) (fun _ v22 _ => ws.length - (intOf v22).toNat)
    case atStart => exact ⟨0, [], Nat.zero_le _, rfl, ⟨World.ownsRow_nil _ _ _ _, fun i x hx => by simp at hx⟩, Keeps.refl _ _⟩
    case round =>
      obtain ⟨i, vs, hi, rfl, hrow, hkr⟩ := hrel
      have HR := Lib.hid hrow; have HKR := Lib.hid hkr
      have hsz := hkr.size
      have HTL := Lib.hid (show (ws.take i).length = i by rw [List.length_take]; omega)
      obtain ⟨ar, cr, har⟩ := ownsRow_form1 hrow.out
      rw [HTL.out] at har
      subst har
      clear hrow hkr
      by_cases hlt : i < ws.length
      · obtain ⟨bl, ol, rfl, hx'⟩ := HCV.out (by omega)
        obtain ⟨x, hx⟩ : ∃ x, ws[i]? = some x := ⟨_, List.getElem?_eq_getElem hlt⟩
        have hu := HKR.out.cell (hx' i (.int .u32 (x : Int)) (by rw [List.getElem?_map, hx]; rfl)) (fun h => h)
        have HTK := Lib.hid (take_getS hx)
        clear hx' hx
        go_wp2_with fail
        refine (facts_any _ x).mono ?_; rintro e w4 ⟨vf, rfl, hown, hk1, hd1⟩
        obtain ⟨af, cf, haf⟩ := ownsRow_form1 hown
        subst haf
        have HO := Lib.hid hown; have HK1 := Lib.hid hk1
        have HR4 := Lib.hid (HR.out.keeps0 hk1)
        have hs4 := hk1.size
        have HNL := Lib.hid (show ∀ k, (Value.slice af (facts x).length cf).ownBlock = some k → w3.heap.size ≤ k ∧ k < w4.heap.size from fun k hk => by have := World.ownsRow.lt hown k hk; omega)
        have HNB := Lib.hid (show ∀ k, (Value.slice af (facts x).length cf).ownBlock = some k → (Value.slice ar i cr).ownBlock ≠ some k from fun k hk e => by
          have h1 := (World.ownsRow.lt hown k hk).1
          have h2 := (World.ownsRow.lt HR.out.out k (by rw [HTL.out] at *; exact e)).2
          omega)
        clear hown hk1 hd1 hu
        go_wp2_with (at_builtin; refine wpList_append_d rfl _ _ _ rfl w3.heap.size 22 j0 _ 1 24 Tryz.underlying38 hj0 jz0 jz1 jz2 rfl (by omega) _ i vs (by rfl) (World.ownsRow.alloc (by have h := HR4.out.out; rw [HTL.out] at h; exact h) (.cells #[.slice af (facts x).length cf] 22)) ⟨w4.heap.size, 0, none⟩ 1 1 [.slice af (facts x).length cf] (by rfl) (by rfl) (World.news_of_block (cs := #[.slice af (facts x).length cf]) (t := 22) (fr := (0, 0)) (heap_alloc_new _ _)) (by simp [Value.oneCell']) (by omega) (by unfold maxLen; omega) (by omega) (by simp; omega) (w4.heap.size + 1) (by simp) ?_)
        intro gg cap2 w5 hown hgrow hat hlt5 hd5
        have hk5 : Keeps (fun k => (Value.slice ar i cr).ownBlock = some k) w4 w5 := ((Keeps.refl _ w4).alloc _).grown hgrow (fun k hk => .inl hk)
        have HROW : Hid (SRow w5 w3.heap.size (.slice (some ⟨gg, 0, none⟩) (i + 1) cap2) (ws.take (i + 1)) (vs ++ [.slice af (facts x).length cf])) := by
          unfold Hid
          rw [HTK.out]
          exact SRow.snoc HR4.out (Ints.of_own HO.out) HNB.out HNL.out hk5 (by rw [HTL.out]; exact hown) (fun k hk => by
            simp [Value.ownBlock] at hk
            subst hk
            rcases hat with h | h
            · exact .inl h
            · exact .inr (by omega))
        have HK5 := Lib.hid (own_grown (by have h := HR4.out.out; rw [HTL.out] at h; exact h) (HKR.out.trans HK1.out) ((Keeps.refl _ w4).alloc (.cells #[.slice af (facts x).length cf] 22)) hgrow)
        clear hown hgrow hat hd5 hk5
        go_wp2_with fail
        go_roundw
        case rel => exact ⟨i + 1, _, by omega, by go_num, HROW.out, HK5.out⟩
        case measure => simp only [intOf]; omega
      · have hie : i = ws.length := by omega
        subst hie
        have HR2 := Lib.hid (show SRow wr w3.heap.size (.slice ar ws.length cr) ws vs by have h := HR.out; rw [List.take_length] at h; exact h)
        have HFr := Lib.hid (HF3.out.keeps0 HKR.out)
        clear e0 e1 z0 z1 f0 f1
        obtain ⟨e0, e1, z0, z1, hF2⟩ := HFr.out.cells
        go_wp2_with fail
        refine bodyPost_ret (results_tmp_cell _ _ (w.heap.size + 1) 31 #[.int .i64 0, .int .i64 0] (0, 0) _ rfl rfl (HFr.out.set (.int .i64 0) (.int .i64 0)).1 Tryz.underlying31 rfl (by kernel_rfl)) rfl ?_
        refine ⟨(HFr.out.set (.int .i64 0) (.int .i64 0)).2, .inr ⟨OK.out, l, ws, _, HX.out, PERM.out, ORD.out, rfl, ?_⟩⟩
        exact (HR2.out.keepsS (keeps_pair (w.heap.size + 1) _ _) (fun k hk => by omega)).lists

end Go.Proofs.YtkjmgafnaddhkaaGreat

namespace Go.Proofs.YtkjmgafnaddhkaaGreat
open Go.RowKit

def stateFault (t : Tsk) (s : List Int) : Int × Int := if (taskFault t).1 = 0 then (if isSetB s t.n = true then (0, 0) else (5, -4)) else taskFault t

set_option maxHeartbeats 1000000 in
theorem stateFault_any (w : World) (vi vg vo vs : Value) (t : Tsk) (s : List Int) (h : TaskAt w vi vg vo t) (hs : Ints w vs s) :
    Calls Tryz.prog 103 #[.agg #[.int .i64 t.n, vi, vg, vo], vs] w fun e w' => e = .returned (.agg #[.int .i64 (stateFault t s).1, .int .i64 (stateFault t s).2]) ∧ Keeps (fun _ => False) w w' := by
  obtain ⟨ai, ci, h1, _⟩ := h.init.form
  obtain ⟨ag, cg, h2, _⟩ := h.goal.form
  obtain ⟨ao, co, h3, hmo⟩ := h.ops.form
  obtain ⟨aa, cs, h4, _⟩ := hs.form
  subst h1 h2 h3 h4
  have K1 := (Keeps.refl (fun _ => False) w).alloc (.cells #[.int .i64 t.n, .slice ai t.init.length ci, .slice ag t.goal.length cg, .slice ao t.ops.length co] 25)
  have HT := h.keeps0 (K1.alloc (.cells #[.int .i64 0, .int .i64 0] 31))
  have HSS : Ints _ _ s := hs.keeps0 (K1.alloc (.cells #[.int .i64 0, .int .i64 0] 31))
  have HB := (Four.new w (.int .i64 t.n) (.slice ai t.init.length ci) (.slice ag t.goal.length cg) (.slice ao t.ops.length co) 25).keeps0 ((Keeps.refl _ _).alloc (.cells #[.int .i64 0, .int .i64 0] 31))
  have HF : Flt w ((w.alloc (.cells #[.int .i64 t.n, .slice ai t.init.length ci, .slice ag t.goal.length cg, .slice ao t.ops.length co] 25)).alloc (.cells #[.int .i64 0, .int .i64 0] 31)) (w.heap.size + 1) 31 :=
    ⟨by have := heap_alloc_new (w.alloc (.cells #[.int .i64 t.n, .slice ai t.init.length ci, .slice ag t.goal.length cg, .slice ao t.ops.length co] 25)) (.cells #[.int .i64 0, .int .i64 0] 31); rwa [World.size_alloc] at this, by omega, K1.alloc _⟩
  replace HT := Lib.hid HT; replace HB := Lib.hid HB; replace HF := Lib.hid HF; replace HSS := Lib.hid HSS
  clear h hs K1
  go_enter Tryz.func103, Tryz.ntmps103
  go_upto_region 1 with fail
  generalize ((w.alloc (.cells #[.int .i64 t.n, .slice ai t.init.length ci, .slice ag t.goal.length cg, .slice ao t.ops.length co] 25)).alloc (.cells #[.int .i64 0, .int .i64 0] 31)) = w1 at HT HB HF HSS ⊢
  have hbx := HB.out.lt
  obtain ⟨d0, d1, d2, d3⟩ := HB.out
  go_wp2_with fail
  refine (validate_any _ _ _ _ t HT.out).mono ?_; rintro e w2 ⟨rfl, hk⟩
  have HF2 := Lib.hid (HF.out.keeps0 hk)
  have HB2 := HB.out.keeps0 hk
  have hbx2 := HB2.lt
  have KA := (Keeps.refl (fun _ => False) w2).alloc (.cells #[.int .i64 (taskFault t).1, .int .i64 (taskFault t).2] 31)
  have HF3 := Lib.hid (HF2.out.keeps0 KA)
  have HS3 := Lib.hid ((HSS.out.keeps0 hk : Ints w2 _ s).keeps0 KA)
  clear d0 d1 d2 d3 hk
  obtain ⟨d0, d1, d2, d3⟩ := HB2.keeps0 KA
  obtain ⟨e0, e1, z0, z1, hF⟩ := HF3.out.cells
  clear KA HB2
  by_cases hc : (taskFault t).1 = 0
  · have hok := taskFault_zero.1 hc
    have hft := taskFault_ok hok
    rw [hft] at HF3 HS3 d0 d1 d2 d3 e0 e1 z0 z1 hF ⊢
    cases b1 : isSetB s t.n with
    | true =>
      have HP : Hid (stateFault t s = (0, 0)) := by unfold Hid stateFault; rw [if_pos hc, if_pos b1]
      have B1 := Lib.hid b1
      clear hc hft hok b1
      go_wp2_with fail
      refine (sIsSet_val HS3.out B1.out).mono ?_; rintro e w5 ⟨rfl, rfl⟩
      go_wp2_with fail
      refine bodyPost_ret (results_cell_row rfl _ _ (w.heap.size + 1) 31 _ (0, 0) _ rfl (HF3.out.set (.int .i64 0) (.int .i64 0)).1 Tryz.underlying31 rfl (by kernel_rfl)) rfl ?_
      exact ⟨by rw [HP.out], (HF3.out.set _ _).2⟩
    | false =>
      have HP : Hid (stateFault t s = (5, -4)) := by unfold Hid stateFault; rw [if_pos hc, if_neg (by simp [b1])]
      have B1 := Lib.hid b1
      clear hc hft hok b1
      go_wp2_with fail
      refine (sIsSet_val HS3.out B1.out).mono ?_; rintro e w5 ⟨rfl, rfl⟩
      go_wp2_with fail
      refine bodyPost_ret (results_cell_row rfl _ _ (w.heap.size + 1) 31 _ (0, 0) _ rfl (HF3.out.set (.int .i64 5) (.int .i64 (-4))).1 Tryz.underlying31 rfl (by kernel_rfl)) rfl ?_
      exact ⟨by rw [HP.out], (HF3.out.set _ _).2⟩
  · have HP : Hid (stateFault t s = taskFault t) := by unfold Hid stateFault; rw [if_neg hc]
    have hc2 : ((taskFault t).1 == 0) = false := by simpa using hc
    clear hc
    generalize hfe : taskFault t = f at hc2 HP HF3 HS3 d0 d1 d2 d3 e0 e1 z0 z1 hF ⊢
    clear hfe
    go_wp2_with fail
    refine bodyPost_ret (results_cell_row rfl _ _ (w.heap.size + 1) 31 _ (0, 0) _ rfl (HF3.out.set (.int .i64 f.1) (.int .i64 f.2)).1 Tryz.underlying31 rfl (by kernel_rfl)) rfl ?_
    exact ⟨by rw [HP.out], (HF3.out.set _ _).2⟩

/-! ### breadth.Reach -/
end Go.Proofs.YtkjmgafnaddhkaaGreat

namespace Go.Proofs.YtkjmgafnaddhkaaGreat
open Go.RowKit

def stepT : Tsk := ⟨1, [], [0], [⟨[], [0], [], 3⟩]⟩

theorem Ints.nil (w : World) : Ints w (.slice none 0 0) [] := ⟨none, 0, rfl, by simp, fun h => by simp at h⟩
theorem Ints.one {w : World} {b : Nat} {x : Int} {T : TypeId} (h : w.heap[b]? = some (.cells #[.int .i64 x] T (0, 0))) : Ints w (.slice (some ⟨b, 0, none⟩) 1 1) [x] := by
  refine ⟨_, _, rfl, by simp [maxLen], fun _ => ⟨b, 0, rfl, fun j y hj => ?_⟩⟩
  rw [Nat.zero_add, cell_of_blk h]
  cases j with
  | zero => simpa using hj
  | succ j => simp at hj

set_option maxRecDepth 100000 in
theorem step_any (w : World) : Calls Tryz.prog 43 #[] w fun e w' => ∃ vi vg vo, e = .returned (.agg #[.int .i64 1, vi, vg, vo]) ∧ TaskAt w' vi vg vo stepT ∧ Keeps (fun _ => False) w w' := by
  go_enter Tryz.func43, Tryz.ntmps43
  go_wp2_with fail
  generalize hw1 : w.alloc (Obj.cells #[.int .i64 1, .slice none 0 0, .slice (some ⟨w.heap.size + 1, 0, none⟩) 1 1, .slice (some ⟨w.heap.size + 1 + 1 + 1, 0, none⟩) 1 1] 25) = w1
  have s1 : w1.heap.size = w.heap.size + 1 := by rw [← hw1]; simp
  have k1 : Keeps (fun _ => False) w w1 := by rw [← hw1]; exact (Keeps.refl _ _).alloc _
  have b1 : w1.heap[w.heap.size]? = some (.cells #[.int .i64 1, .slice none 0 0, .slice (some ⟨w.heap.size + 1, 0, none⟩) 1 1, .slice (some ⟨w.heap.size + 1 + 1 + 1, 0, none⟩) 1 1] 25 (0, 0)) := by rw [← hw1]; exact heap_alloc_new _ _
  clear hw1
  have b2 := heap_alloc_new w1 (.cells #[.int .i64 0] 3)
  have k2 := (Keeps.refl (fun _ => False) w1).alloc (.cells #[.int .i64 0] 3)
  have s2 : (w1.alloc (.cells #[.int .i64 0] 3)).heap.size = w1.heap.size + 1 := by simp
  generalize w1.alloc (.cells #[.int .i64 0] 3) = w2 at b2 k2 s2 ⊢
  have b3 := heap_alloc_new w2 (.cells #[.int .i64 0] 3)
  have k3 := (Keeps.refl (fun _ => False) w2).alloc (.cells #[.int .i64 0] 3)
  have s3 : (w2.alloc (.cells #[.int .i64 0] 3)).heap.size = w2.heap.size + 1 := by simp
  generalize w2.alloc (.cells #[.int .i64 0] 3) = w3 at b3 k3 s3 ⊢
  have b4 := heap_alloc_new w3 (.cells #[.slice none 0 0, .slice (some ⟨w.heap.size + 1 + 1, 0, none⟩) 1 1, .slice none 0 0, .int .i64 3] 109)
  have k4 := (Keeps.refl (fun _ => False) w3).alloc (.cells #[.slice none 0 0, .slice (some ⟨w.heap.size + 1 + 1, 0, none⟩) 1 1, .slice none 0 0, .int .i64 3] 109)
  generalize w3.alloc (.cells #[.slice none 0 0, .slice (some ⟨w.heap.size + 1 + 1, 0, none⟩) 1 1, .slice none 0 0, .int .i64 3] 109) = w4 at b4 k4 ⊢
  have k14 := k2.trans (k3.trans k4)
  refine bodyPost_ret (results_cell_row rfl _ _ w.heap.size 25 _ (0, 0) _ rfl (k14.heap b1 (fun h => h)) Tryz.underlying25 rfl (by kernel_rfl)) rfl ?_
  have e1 : w1.heap.size = w.heap.size + 1 := s1
  have e2 : w2.heap.size = w.heap.size + 1 + 1 := by omega
  have e3 : w3.heap.size = w.heap.size + 1 + 1 + 1 := by omega
  rw [e1] at b2; rw [e2] at b3; rw [e3] at b4
  refine ⟨_, _, _, rfl, ⟨Ints.nil _, Ints.one ((k3.trans k4).heap b2 (fun h => h)), ⟨_, _, rfl, by simp [maxLen, stepT], fun _ => ⟨_, 0, rfl, fun i o ho => ?_⟩⟩⟩, k1.trans k14⟩
  cases i with
  | zero =>
    simp [stepT] at ho; subst ho
    refine ⟨.slice none 0 0, .slice (some ⟨w.heap.size + 1 + 1, 0, none⟩) 1 1, .slice none 0 0, ?_, ?_, ?_, ?_, Ints.nil _, Ints.one (k4.heap b3 (fun h => h)), Ints.nil _⟩
    all_goals (rw [cell_of_blk b4]; rfl)
  | succ i => simp [stepT] at ho

theorem stepT_ok : taskFault stepT = (0, 0) := by decide
theorem stepT_reached : explored stepT = some [0, 1] := reached_of_end (i := 2) (by decide) rfl
end Go.Proofs.YtkjmgafnaddhkaaGreat

namespace Go.Proofs.YtkjmgafnaddhkaaGreat
open Go.RowKit

theorem goalW_goalB {t : Tsk} (ok : t.Ok) {x : Nat} (hx : Good t.n x) : goalW t x = goalB (wd t.goal) x := by
  have h := appL_word (n := t.n) (o := ⟨t.goal, [], [], 0⟩) ⟨ok.goal, by rfl, by rfl, by rfl, by simp, by simp⟩ hx.1
  rw [hx.2] at h
  exact h

theorem good_next_mem {t : Tsk} (ok : t.Ok) {x y : Nat} (hx : Good t.n x) (hy : y ∈ nexts (wordsOf t.ops) x) : Good t.n y := by
  unfold nexts at hy
  obtain ⟨wo, hwo, rfl⟩ := List.mem_map.1 hy
  have hm := (List.mem_filter.1 hwo).1
  unfold wordsOf at hm
  obtain ⟨o, ho, rfl⟩ := List.mem_map.1 hm
  exact (good_next (by have := ok.n1; omega) (ok.ops o ho) hx).2.2
theorem good_reach {t : Tsk} (ok : t.Ok) {s x : Nat} (hs : Good t.n s) (h : Reach (wordsOf t.ops) s x) : Good t.n x := by
  induction h with
  | refl => exact hs
  | step _ hy ih => exact good_next_mem ok ih hy
theorem good_explored {t : Tsk} (ok : t.Ok) {L : List Nat} (h : explored t = some L) : ∀ x ∈ L, Good t.n x := by
  intro x hx
  exact good_reach ok (good_wd (by have := ok.n1; omega) ok.init) (((reached_some h).2.2.2 x).1 hx)
theorem goals_eq {t : Tsk} (ok : t.Ok) {L : List Nat} (h : ∀ x ∈ L, Good t.n x) : L.map (goalW t) = L.map (goalB (wd t.goal)) := by
  apply List.map_congr_left
  intro x hx
  exact goalW_goalB ok (h x hx)

end Go.Proofs.YtkjmgafnaddhkaaGreat

namespace Go.Proofs.YtkjmgafnaddhkaaGreat
open Go.RowKit

theorem facts_beq {n : Int} (hn : n ≤ 32) {x : Nat} (hx : Good n x) {s : List Int} (hs : isSetB s n = true) : (facts x == s) = (x == wd s) := by
  rw [Bool.eq_iff_iff, beq_iff_eq, beq_iff_eq]
  constructor
  · rintro rfl; exact hx.2.symm
  · rintro rfl; exact facts_wd (isSet_mono hs hn)

theorem place_mem {n : Int} (hn : n ≤ 32) {L : List Nat} (hg : ∀ x ∈ L, Good n x) {s : List Int} (hs : isSetB s n = true) :
    (∃ k : Nat, L[k]? = some (wd s) ∧ placeL (L.map facts) s = k) ∨ (wd s ∉ L ∧ placeL (L.map facts) s = -1) := by
  by_cases hm : wd s ∈ L
  · left
    unfold placeL
    cases hf : (L.map facts).findIdx? (fun l => l == s) with
    | none =>
      rw [List.findIdx?_eq_none_iff] at hf
      have := hf (facts (wd s)) (List.mem_map.2 ⟨_, hm, rfl⟩)
      simp [facts_wd (isSet_mono hs hn)] at this
    | some k =>
      obtain ⟨h1, h2, _⟩ := List.findIdx?_eq_some_iff_getElem.1 hf
      have h3 : k < L.length := by simpa using h1
      refine ⟨k, ?_, rfl⟩
      rw [List.getElem_map, facts_beq hn (hg _ (List.getElem_mem h3)) hs, beq_iff_eq] at h2
      rw [List.getElem?_eq_getElem h3, h2]
  · right
    refine ⟨hm, placeL_none fun l hl => ?_⟩
    obtain ⟨x, hx, rfl⟩ := List.mem_map.1 hl
    rw [facts_beq hn (hg x hx) hs, beq_eq_false_iff_ne]
    rintro rfl; exact hm hx

end Go.Proofs.YtkjmgafnaddhkaaGreat

namespace Go.Proofs.YtkjmgafnaddhkaaGreat
open Go.RowKit

/-- What Costs asks for. -/
theorem costs_need {t : Tsk} (ok : t.Ok) {l ws : List Nat} (hx : explored t = some l) (hp : ws.Perm l) :
    wd t.init < 4294967296 ∧ wd t.goal < 4294967296 ∧ (wordsOf t.ops).length ≤ 40 ∧ Shut (wordsOf t.ops) ws ∧ ws.length ≤ 2000 ∧ (∀ x ∈ ws, x < 4294967296) ∧ (∀ o ∈ wordsOf t.ops, 0 ≤ o.cost ∧ o.cost ≤ 1000000) ∧ wd t.init ∈ ws := by
  have hs32 : wd t.init < 4294967296 := wd_lt32 (by have := ok.n1; omega : t.n ≤ 32) ok.init
  have hg32 : wd t.goal < 4294967296 := wd_lt32 (by have := ok.n1; omega : t.n ≤ 32) ok.goal
  have hsh := shut_reached (ops := wordsOf t.ops) (s := wd t.init) (L := l) hx
  have hr := reached_some (ops := wordsOf t.ops) (s := wd t.init) (l := l) hx
  refine ⟨hs32, hg32, by unfold wordsOf; rw [List.length_map]; exact ok.few, ⟨hp.nodup_iff.2 hsh.1, fun x h o ho hc => hp.mem_iff.2 (hsh.2 x (hp.mem_iff.1 h) o ho hc)⟩, by rw [hp.length_eq]; exact hr.2.1, fun x h => reach_small (wops_ok ok) hs32 ((hr.2.2.2 x).1 (hp.mem_iff.1 h)), fun o ho => ?_, hp.mem_iff.2 (List.mem_of_getElem? hr.2.2.1)⟩
  unfold wordsOf at ho
  obtain ⟨o', ho', rfl⟩ := List.mem_map.1 ho
  have h := ok.ops o' ho'
  have hc : o'.word.cost = o'.cost := rfl
  rw [hc]
  exact ⟨h.cost0, by have := h.cost1; omega⟩

end Go.Proofs.YtkjmgafnaddhkaaGreat

/- space's example. -/
namespace Go.Proofs.YtkjmgafnaddhkaaGreat
open Go.RowKit

theorem ordW_antisymm {x y : Nat} (hx : x < 4294967296) (hy : y < 4294967296) (h1 : ordW x y) (h2 : ordW y x) : x = y := by
  unfold ordW cmpW at h1 h2
  have h3 := cmpL_neg (facts x) (facts y)
  have h4 : cmpL (facts x) (facts y) = 0 := by omega
  exact facts_inj (by simpa using hx) (by simpa using hy) (cmpL_eq h4)
theorem sorted_same {a b : List Nat} (hp : a.Perm b) (ha : a.Pairwise ordW) (hb : b.Pairwise ordW) (h32 : ∀ x ∈ a, x < 4294967296) : a = b :=
  hp.eq_of_pairwise (le := ordW) (fun x y hx hy h1 h2 => ordW_antisymm (h32 x hx) (h32 y (hp.mem_iff.2 hy)) h1 h2) ha hb

theorem Ints.two {w : World} {b : Nat} {x y : Int} {T : TypeId} (h : w.heap[b]? = some (.cells #[.int .i64 x, .int .i64 y] T (0, 0))) : Ints w (.slice (some ⟨b, 0, none⟩) 2 2) [x, y] := by
  refine ⟨_, 2, rfl, by unfold maxLen; simp, fun _ => ⟨b, 0, rfl, fun i z hz => ?_⟩⟩
  match i, hz with
  | 0, hz => simp at hz; subst hz; rw [cell_of_blk h]; rfl
  | 1, hz => simp at hz; subst hz; rw [cell_of_blk h]; rfl
theorem Lists.two {w : World} {b c : Nat} {x : Int} {T T' : TypeId} (h : w.heap[b]? = some (.cells #[.slice none 0 0, .slice (some ⟨c, 0, none⟩) 1 1] T (0, 0))) (hc : w.heap[c]? = some (.cells #[.int .i64 x] T' (0, 0))) : Lists w (.slice (some ⟨b, 0, none⟩) 2 2) [[], [x]] := by
  refine ⟨_, 2, rfl, by unfold maxLen; simp, fun _ => ⟨b, 0, rfl, fun i l hl => ?_⟩⟩
  match i, hl with
  | 0, hl => simp at hl; subst hl; exact ⟨.slice none 0 0, by rw [cell_of_blk h]; rfl, Ints.nil _⟩
  | 1, hl => simp at hl; subst hl; exact ⟨.slice (some ⟨c, 0, none⟩) 1 1, by rw [cell_of_blk h]; rfl, Ints.one hc⟩

end Go.Proofs.YtkjmgafnaddhkaaGreat

/- space: the law that the functions are the reference's. -/
namespace Go.Proofs.YtkjmgafnaddhkaaGreat
open Go.RowKit

section
variable {w : World} {vi vg vo : Value} {t : Tsk}
/-- The sorted states of a task. -/
def WsOf (_t : Tsk) (l ws : List Nat) : Prop := ws.Perm l ∧ ws.Pairwise ordW
theorem WsOf.same {l a b : List Nat} (ok : t.Ok) (hx : explored t = some l) (ha : WsOf t l a) (hb : WsOf t l b) : a = b :=
  sorted_same (ha.1.trans hb.1.symm) ha.2 hb.2 (costs_need ok hx ha.1).2.2.2.2.2.1

end

theorem WsOf.good {t : Tsk} (ok : t.Ok) {l ws : List Nat} (hx : explored t = some l) (hw : WsOf t l ws) : (∀ x ∈ ws, Good t.n x) ∧ (∃ k : Nat, ws[k]? = some (wd t.init) ∧ placeL (ws.map facts) t.init = k) ∧ (∀ x, x ∈ ws ↔ Reach (wordsOf t.ops) (wd t.init) x) ∧ ∀ a ∈ arcs (wordsOf t.ops) ws, a.frm < ws.length ∧ a.to < ws.length ∧ 0 ≤ a.cost ∧ a.cost ≤ 100 := by
  have hn32 : t.n ≤ 32 := by have := ok.n1; omega
  have hr := (reached_some (ops := wordsOf t.ops) (s := wd t.init) (l := l) hx).2.2.2
  have hr2 : ∀ x, x ∈ ws ↔ Reach (wordsOf t.ops) (wd t.init) x := fun x => hw.1.mem_iff.trans (hr x)
  have hg : ∀ x ∈ ws, Good t.n x := fun x h => good_reach ok (good_wd hn32 ok.init) ((hr2 x).1 h)
  refine ⟨hg, ?_, hr2, fun a ha => ?_⟩
  · rcases place_mem hn32 hg ok.init with h | ⟨h, _⟩
    · exact h
    · exact absurd ((hr2 _).2 .refl) h
  · obtain ⟨x, o, h1, h2, h3, h4, h5⟩ := mem_arcs.1 ha
    refine ⟨(List.getElem?_eq_some_iff.1 h1).1, (List.getElem?_eq_some_iff.1 h5).1, ?_⟩
    rw [h4]
    have ho := List.mem_of_getElem? h2
    unfold wordsOf at ho
    obtain ⟨o', ho', rfl⟩ := List.mem_map.1 ho
    exact ⟨(ok.ops o' ho').cost0, (ok.ops o' ho').cost1⟩

end Go.Proofs.YtkjmgafnaddhkaaGreat

/- space: SpaceFunctionsMatchSpec walked. -/
namespace Go.Proofs.YtkjmgafnaddhkaaGreat
open Go.RowKit

end Go.Proofs.YtkjmgafnaddhkaaGreat

namespace Go.Proofs.YtkjmgafnaddhkaaGreat

/-! ### sets -/
theorem compact_sorted (d : Array Int) (hs : ∀ i j, i ≤ j → j < d.size → d[i]! ≤ d[j]!) : ∀ m, m ≤ d.size →
    (Lib.compactUpTo d m).Pairwise (· < ·) ∧ (∀ x, x ∈ Lib.compactUpTo d m ↔ ∃ j, j < m ∧ d[j]! = x)
  | 0, _ => ⟨by simp [Lib.compactUpTo], fun x => by simp [Lib.compactUpTo]⟩
  | m + 1, hm => by
    obtain ⟨h1, h2⟩ := compact_sorted d hs m (by omega)
    rw [Lib.compactUpTo_succ]
    by_cases hk : Lib.keeps d m = true
    · rw [if_pos hk]
      have hlt : ∀ x ∈ Lib.compactUpTo d m, x < d[m]! := fun x hx => by
        obtain ⟨j, hj, rfl⟩ := (h2 x).1 hx
        have e1 := hs j (m - 1) (by omega) (by omega)
        have e2 := hs (m - 1) m (by omega) (by omega)
        have e3 : d[m]! ≠ d[m - 1]! := by
          unfold Lib.keeps at hk
          rcases of_decide_eq_true hk with h | h
          · omega
          · exact h
        omega
      refine ⟨List.pairwise_append.2 ⟨h1, by simp, fun a ha b hb => by rw [List.mem_singleton] at hb; subst hb; exact hlt a ha⟩, fun x => ?_⟩
      rw [List.mem_append, h2, List.mem_singleton]
      constructor
      · rintro (⟨j, hj, e⟩ | h)
        · exact ⟨j, by omega, e⟩
        · exact ⟨m, by omega, h.symm⟩
      · rintro ⟨j, hj, e⟩
        by_cases hjm : j = m
        · subst hjm; exact .inr e.symm
        · exact .inl ⟨j, by omega, e⟩
    · have hk' : m ≠ 0 ∧ d[m]! = d[m - 1]! := by
        unfold Lib.keeps at hk
        rw [decide_eq_true_eq] at hk
        exact ⟨fun h => hk (.inl h), Decidable.byContradiction fun h => hk (.inr h)⟩
      rw [if_neg hk, List.append_nil]
      refine ⟨h1, fun x => ?_⟩
      rw [h2]
      constructor
      · rintro ⟨j, hj, e⟩; exact ⟨j, by omega, e⟩
      · rintro ⟨j, hj, e⟩
        by_cases hjm : j = m
        · subst hjm; exact ⟨j - 1, by omega, by rw [← hk'.2]; exact e⟩
        · exact ⟨j, by omega, e⟩

theorem compact_list {l : List Int} (hs : l.Pairwise (· ≤ ·)) : (Lib.compact l).Pairwise (· < ·) ∧ ∀ x, x ∈ Lib.compact l ↔ x ∈ l := by
  have hs' : ∀ i j, i ≤ j → j < l.toArray.size → l.toArray[i]! ≤ l.toArray[j]! := fun i j hij hj => by
    have hj' : j < l.length := by simpa using hj
    rw [getElem!_pos l.toArray i (by simp; omega), getElem!_pos l.toArray j hj]
    simp only [List.getElem_toArray]
    rcases Nat.lt_or_ge i j with h | h
    · exact List.pairwise_iff_getElem.1 hs i j (by omega) hj' h
    · have : i = j := by omega
      subst this; exact Int.le_refl _
  obtain ⟨h1, h2⟩ := compact_sorted l.toArray hs' l.length (by simp)
  have e : Lib.compact l = Lib.compactUpTo l.toArray l.length := by unfold Lib.compact; simp
  rw [e]
  refine ⟨h1, fun x => ?_⟩
  rw [h2]
  constructor
  · rintro ⟨j, hj, rfl⟩
    rw [getElem!_pos l.toArray j (by simpa using hj)]
    simp
  · intro h
    obtain ⟨j, hj, e⟩ := List.mem_iff_getElem.1 h
    exact ⟨j, hj, by rw [getElem!_pos l.toArray j (by simpa using hj)]; simpa using e⟩

def preL (s add del : List Int) : List Int := (s.filter fun x => !decide (x ∈ del)) ++ add
def updL (s add del : List Int) : List Int := Lib.compact ((preL s add del).mergeSort fun x y => decide (x ≤ y))
theorem sort_sorted (l : List Int) : (l.mergeSort fun x y => decide (x ≤ y)).Pairwise (· ≤ ·) := by
  have := List.pairwise_mergeSort (le := fun x y : Int => decide (x ≤ y)) (fun a b c h1 h2 => by simp at *; omega) (fun a b => by simp; omega) l
  exact this.imp (fun h => by simpa using h)
theorem updL_spec (s add del : List Int) : (updL s add del).Pairwise (· < ·) ∧ ∀ x, x ∈ updL s add del ↔ (x ∈ s ∧ x ∉ del) ∨ x ∈ add := by
  obtain ⟨h1, h2⟩ := compact_list (sort_sorted (preL s add del))
  refine ⟨h1, fun x => ?_⟩
  unfold updL
  rw [h2, List.mem_mergeSort, preL, List.mem_append, List.mem_filter]
  simp
theorem preL_len (s add del : List Int) : (preL s add del).length ≤ s.length + add.length := by
  unfold preL; rw [List.length_append]
  have := List.length_filter_le (fun x => !decide (x ∈ del)) s
  omega

/-! ### plans -/
end Go.Proofs.YtkjmgafnaddhkaaGreat

namespace Go.Proofs.YtkjmgafnaddhkaaGreat

def costN (ops : List Wop) : List Nat → Int
  | [] => 0
  | a :: r => ((ops[a]?.map Wop.cost).getD 0) + costN ops r
theorem costN_bound {ops : List Wop} (h : ∀ o ∈ ops, 0 ≤ o.cost ∧ o.cost ≤ 100) : ∀ p : List Nat, 0 ≤ costN ops p ∧ costN ops p ≤ 100 * (p.length : Int)
  | [] => by simp [costN]
  | a :: r => by
    have h2 := costN_bound h r
    rw [costN]
    cases ho : ops[a]? with
    | none => simp; omega
    | some o =>
      have h1 := h o (List.mem_of_getElem? ho)
      simp; omega

section
variable {ops : List Wop} {L : List Nat} {acc : Nat → Bool} {D : Nat → Int}
/-! ### the finite costs are small -/
def below (L : List Nat) (D : Nat → Int) (z : Int) : Nat := (L.filter fun y => decide (D y < z)).length
end

end Go.Proofs.YtkjmgafnaddhkaaGreat

namespace Go.Proofs.YtkjmgafnaddhkaaGreat

/-- k for each cost, st for each step. -/
def wayN (k st : Int) (ops : List Wop) (p : List Nat) : Int := k * costN ops p + st * (p.length : Int)
theorem wayN_nil (k st : Int) (ops : List Wop) : wayN k st ops [] = 0 := by unfold wayN costN; simp
theorem costN_append (ops : List Wop) : ∀ p q : List Nat, costN ops (p ++ q) = costN ops p + costN ops q
  | [], q => by simp [costN]
  | a :: p, q => by rw [List.cons_append, costN, costN, costN_append ops p q]; omega
theorem wayN_append (k st : Int) (ops : List Wop) (p q : List Nat) : wayN k st ops (p ++ q) = wayN k st ops p + wayN k st ops q := by
  unfold wayN
  rw [costN_append, List.length_append, Int.natCast_add, Int.mul_add, Int.mul_add]; omega
theorem wayN_one {k st : Int} {ops : List Wop} {a : Nat} {o : Wop} (h : ops[a]? = some o) : wayN k st ops [a] = k * o.cost + st := by
  unfold wayN; simp [costN, h]
/-- b is the least price of a plan, or -1 where there is none. -/
def LeastOf (k st : Int) (ops : List Wop) (s : Nat) (acc : Nat → Bool) (b : Int) : Prop :=
  (b = -1 ∧ ∀ p y, runOps ops s p = some y → acc y = false) ∨
  (0 ≤ b ∧ (∃ p y, runOps ops s p = some y ∧ acc y = true ∧ wayN k st ops p = b) ∧ ∀ p y, runOps ops s p = some y → acc y = true → b ≤ wayN k st ops p)
theorem LeastOf.unique {k st : Int} {ops : List Wop} {s : Nat} {acc : Nat → Bool} {b b' : Int} (h : LeastOf k st ops s acc b) (h' : LeastOf k st ops s acc b') : b = b' := by
  rcases h with ⟨h1, h2⟩ | ⟨h1, ⟨p, y, hp, hy, hb⟩, h3⟩ <;> rcases h' with ⟨g1, g2⟩ | ⟨g1, ⟨q, z, hq, hz, hc⟩, g3⟩
  · rw [h1, g1]
  · rw [h2 q z hq] at hz; cases hz
  · rw [g2 p y hp] at hy; cases hy
  · have := h3 q z hq hz; have := g3 p y hp hy; omega

end Go.Proofs.YtkjmgafnaddhkaaGreat

namespace Go.Proofs.YtkjmgafnaddhkaaGreat

structure SArc where
  op : Nat
  price : Int
  to : Nat

/-- How many states of L have a price. -/
def knownB (L : List Nat) (P : Nat → Option Int) : Nat := L.countP fun x => (P x).isSome
/-- The prices after one of them is set. -/
def putP {α : Type} (P : Nat → Option α) (x : Nat) (v : α) : Nat → Option α := fun y => if y = x then some v else P y
theorem putP_same {α : Type} (P : Nat → Option α) (x : Nat) (v : α) : putP P x v x = some v := by simp [putP]
theorem putP_other {α : Type} (P : Nat → Option α) {x y : Nat} (v : α) (h : y ≠ x) : putP P x v y = P y := by simp [putP, h]
theorem knownB_put {L : List Nat} {P : Nat → Option Int} {x : Nat} {v : Int} (hn : L.Nodup) (hx : x ∈ L) (hP : P x = none) : knownB L (putP P x v) = knownB L P + 1 := by
  unfold knownB
  induction L with
  | nil => simp at hx
  | cons y r ih =>
    rw [List.nodup_cons] at hn
    by_cases hyx : y = x
    · subst hyx
      rw [List.countP_cons, List.countP_cons, putP_same, hP]
      have : r.countP (fun z => (putP P y v z).isSome) = r.countP fun z => (P z).isSome := by
        apply List.countP_congr
        intro z hz
        rw [putP_other P v (fun e => hn.1 (by rw [← e]; exact hz))]
      simp [this]
    · have hxr : x ∈ r := by
        rcases List.mem_cons.1 hx with h | h
        · exact absurd h.symm hyx
        · exact h
      rw [List.countP_cons, List.countP_cons, putP_other P v hyx, ih hn.2 hxr]; omega
theorem knownB_same {L : List Nat} {P : Nat → Option Int} {x : Nat} {v u : Int} (hP : P x = some u) : knownB L (putP P x v) = knownB L P := by
  unfold knownB
  apply List.countP_congr
  intro z _
  by_cases h : z = x
  · subst h; rw [putP_same, hP]; simp
  · rw [putP_other P v h]
theorem knownB_le (L : List Nat) (P : Nat → Option Int) : knownB L P ≤ L.length := List.countP_le_length

/-- What stays of a side while arcs of the state s are looked at: the arcs in R are still to do. -/
structure SideI (G : Nat → List SArc) (S0 : Nat → Prop) (L : List Nat) (C : Int) (P : Nat → Option Int) (par : Nat → Option SArc) (A : List (Int × Int)) (s : Nat) (R : List SArc) : Prop where
  dom : ∀ x p, P x = some p → x ∈ L
  lo : ∀ x p, P x = some p → 0 ≤ p ∧ p ≤ C * (knownB L P : Int)
  start : ∀ x, S0 x → P x = some 0 ∧ par x = none
  from_ : ∀ x p, P x = some p → ¬ S0 x → ∃ a, par x = some a ∧ ⟨a.op, a.price, x⟩ ∈ G a.to ∧ ∃ q, P a.to = some q ∧ q + a.price ≤ p
  key : ∀ z ∈ A, ∃ x : Nat, z.1 = (x : Int) ∧ P x = some z.2
  pend : ∀ x p, P x = some p → ((x : Int), p) ∈ A ∨ ∀ a ∈ G x, (∃ q, P a.to = some q ∧ q ≤ p + a.price) ∨ (x = s ∧ a ∈ R)
theorem SideI.anyS {G : Nat → List SArc} {S0 : Nat → Prop} {L : List Nat} {C : Int} {P : Nat → Option Int} {par : Nat → Option SArc} {A : List (Int × Int)} {s s' : Nat} (h : SideI G S0 L C P par A s []) : SideI G S0 L C P par A s' [] :=
  ⟨h.dom, h.lo, h.start, h.from_, h.key, fun x p hp => by
    rcases h.pend x p hp with h1 | h1
    · exact .inl h1
    · refine .inr fun a ha => ?_
      rcases h1 a ha with h2 | ⟨_, h2⟩
      · exact .inl h2
      · simp at h2⟩

/-- The state at the head of the queue is taken. -/
theorem SideI.take {G : Nat → List SArc} {S0 : Nat → Prop} {L : List Nat} {C : Int} {P : Nat → Option Int} {par : Nat → Option SArc} {A : List (Int × Int)} {s x : Nat} {p : Int} (h : SideI G S0 L C P par A s []) (hp : P x = some p) :
    SideI G S0 L C P par (A.filter fun z => z.1 != (x : Int)) x (G x) :=
  ⟨h.dom, h.lo, h.start, h.from_, fun z hz => h.key z (List.mem_filter.1 hz).1, fun y q hq => by
    by_cases hyx : y = x
    · subst hyx
      exact .inr fun a ha => .inr ⟨rfl, ha⟩
    · rcases h.pend y q hq with h1 | h1
      · refine .inl (List.mem_filter.2 ⟨h1, ?_⟩)
        simp; omega
      · refine .inr fun a ha => ?_
        rcases h1 a ha with h2 | ⟨_, h2⟩
        · exact .inl h2
        · simp at h2⟩
/-- An arc that leads to nothing better. -/
theorem SideI.skip {G : Nat → List SArc} {S0 : Nat → Prop} {L : List Nat} {C : Int} {P : Nat → Option Int} {par : Nat → Option SArc} {A : List (Int × Int)} {x : Nat} {p q : Int} {a : SArc} {R : List SArc} (h : SideI G S0 L C P par A x (a :: R)) (hp : P x = some p) (hq : P a.to = some q) (hle : q ≤ p + a.price) : SideI G S0 L C P par A x R :=
  ⟨h.dom, h.lo, h.start, h.from_, h.key, fun y u hu => by
    rcases h.pend y u hu with h1 | h1
    · exact .inl h1
    · refine .inr fun b hb => ?_
      rcases h1 b hb with h2 | ⟨rfl, h2⟩
      · exact .inl h2
      · rcases List.mem_cons.1 h2 with rfl | h3
        · rw [hp] at hu; cases hu; exact .inl ⟨q, hq, hle⟩
        · exact .inr ⟨rfl, h3⟩⟩
/-- An arc that gives a better price. -/
theorem SideI.fall {G : Nat → List SArc} {S0 : Nat → Prop} {L : List Nat} {C : Int} {P : Nat → Option Int} {par : Nat → Option SArc} {A : List (Int × Int)} {x : Nat} {p : Int} {a : SArc} {R : List SArc} (h : SideI G S0 L C P par A x (a :: R)) (hn : L.Nodup) (hC : ∀ y, ∀ b ∈ G y, 1 ≤ b.price ∧ b.price ≤ C) (hin : a.to ∈ L) (ha : a ∈ G x) (hp : P x = some p) (hlt : ∀ q, P a.to = some q → p + a.price < q) :
    SideI G S0 L C (putP P a.to (p + a.price)) (putP par a.to ⟨a.op, a.price, x⟩) (putA A (a.to : Int) (p + a.price)) x R := by
  have hc := hC x a ha
  have hxp := h.lo x p hp
  have hne : a.to ≠ x := fun e => by have := hlt p (by rw [e]; exact hp); omega
  have hns : ¬ S0 a.to := fun e => by have := hlt 0 (h.start _ e).1; omega
  have hkn : (knownB L P : Int) ≤ knownB L (putP P a.to (p + a.price)) ∧ (P a.to = none → (knownB L (putP P a.to (p + a.price)) : Int) = knownB L P + 1) := by
    cases hq : P a.to with
    | none => rw [knownB_put hn hin hq]; exact ⟨by omega, fun _ => by omega⟩
    | some u => rw [knownB_same hq]; exact ⟨Int.le_refl _, fun e => by cases e⟩
  have hmono : C * (knownB L P : Int) ≤ C * (knownB L (putP P a.to (p + a.price)) : Int) := Int.mul_le_mul_of_nonneg_left hkn.1 (by omega)
  refine ⟨fun y u hu => ?_, fun y u hu => ?_, fun y hy => ?_, fun y u hu hs => ?_, fun z hz => ?_, fun y u hu => ?_⟩
  · by_cases hy : y = a.to
    · subst hy; exact hin
    · rw [putP_other P _ hy] at hu; exact h.dom y u hu
  · by_cases hy : y = a.to
    · subst hy
      rw [putP_same] at hu; cases hu
      refine ⟨by omega, ?_⟩
      cases hq : P a.to with
      | none =>
        rw [hkn.2 hq, Int.mul_add]; omega
      | some u => have := hlt u hq; have := (h.lo _ u hq).2; omega
    · rw [putP_other P _ hy] at hu
      have := h.lo y u hu; omega
  · have hy' : y ≠ a.to := fun e => hns (e ▸ hy)
    rw [putP_other P _ hy', putP_other par _ hy']; exact h.start y hy
  · by_cases hy : y = a.to
    · subst hy
      rw [putP_same] at hu; cases hu
      refine ⟨⟨a.op, a.price, x⟩, putP_same _ _ _, ha, p, ?_, Int.le_refl _⟩
      rw [putP_other P _ (fun e => hne e.symm)]; exact hp
    · rw [putP_other P _ hy] at hu
      obtain ⟨b, hb, hg, q, hq, hle⟩ := h.from_ y u hu hs
      refine ⟨b, by rw [putP_other par _ hy]; exact hb, hg, ?_⟩
      by_cases hbt : b.to = a.to
      · rw [hbt, putP_same]
        have := hlt q (by rw [← hbt]; exact hq)
        exact ⟨_, rfl, by omega⟩
      · rw [putP_other P _ hbt]; exact ⟨q, hq, hle⟩
  · rcases mem_putA.1 hz with ⟨h1, h2⟩ | rfl
    · obtain ⟨y, hy, hPy⟩ := h.key z h1
      refine ⟨y, hy, ?_⟩
      rw [putP_other P _ (fun e => h2 (by rw [hy, e]))]; exact hPy
    · exact ⟨a.to, rfl, putP_same _ _ _⟩
  · by_cases hy : y = a.to
    · subst hy
      rw [putP_same] at hu; cases hu
      exact .inl (mem_putA.2 (.inr rfl))
    · rw [putP_other P _ hy] at hu
      rcases h.pend y u hu with h1 | h1
      · exact .inl (mem_putA.2 (.inl ⟨h1, by simp; omega⟩))
      · refine .inr fun b hb => ?_
        have low : ∀ q, P b.to = some q → q ≤ u + b.price → ∃ q', putP P a.to (p + a.price) b.to = some q' ∧ q' ≤ u + b.price := fun q hq hle => by
          by_cases hbt : b.to = a.to
          · rw [hbt, putP_same]
            have := hlt q (by rw [← hbt]; exact hq)
            exact ⟨_, rfl, by omega⟩
          · rw [putP_other P _ hbt]; exact ⟨q, hq, hle⟩
        rcases h1 b hb with ⟨q, hq, hle⟩ | ⟨rfl, h2⟩
        · exact .inl (low q hq hle)
        · rcases List.mem_cons.1 h2 with rfl | h3
          · rw [hp] at hu; cases hu
            exact .inl ⟨_, putP_same _ _ _, Int.le_refl _⟩
          · exact .inr ⟨rfl, h3⟩

/-! ### where the sides meet -/
/-! ### the end -/
section
variable {ops : List Wop} {L : List Nat} {Gf Gb : Nat → List SArc} {Sf Sb : Nat → Prop} {C : Int} {F B : Nat → Option Int} {pf pb : Nat → Option SArc} {Af Ab : List (Int × Int)} {sf sb : Nat} {best : Int} {at_ : Nat} {found : Bool}
end

end Go.Proofs.YtkjmgafnaddhkaaGreat

namespace Go.Proofs.YtkjmgafnaddhkaaGreat
open Go.RowKit

def FMap {α : Type} (w : World) (b : Nat) (enc : α → Value) (f : Nat → Option α) : Prop :=
  ∃ l : List (Nat × α), IMap w b .u32 (l.map fun p => ((p.1 : Int), enc p.2)) ∧ (l.map Prod.fst).Nodup ∧ ∀ x v, f x = some v ↔ (x, v) ∈ l

section
variable {α : Type} {w : World} {b : Nat} {enc : α → Value} {f : Nat → Option α}
theorem FMap.keeps {S : Nat → Prop} {w' : World} (h : FMap w b enc f) (hk : Keeps S w w') (hs : ¬ S b) : FMap w' b enc f := by
  obtain ⟨l, h1, h2⟩ := h; exact ⟨l, h1.keeps hk hs, h2⟩
theorem FMap.lt (h : FMap w b enc f) : b < w.heap.size := by obtain ⟨l, h1, _⟩ := h; exact h1.lt
theorem FMap.map_block (h : FMap w b enc f) : ∃ es c, w.heap[b]? = some (.map es c) := by obtain ⟨l, ⟨es, c, hb, _⟩, _⟩ := h; exact ⟨es, c, hb⟩
theorem FMap.ne_cells (h : FMap w b enc f) {g : Nat} {cs : Array Value} {T : TypeId} {fr : Nat × Nat} (hg : w.heap[g]? = some (.cells cs T fr)) : b ≠ g := fun e => by
  obtain ⟨es, c, hb⟩ := h.map_block
  rw [e, hg] at hb; cases hb
theorem FMap.made (w : World) (enc : α → Value) : FMap (w.alloc (.map #[] 0)) w.heap.size enc (fun _ => none) :=
  ⟨[], IMap.made w .u32, by simp, fun x v => by simp⟩
theorem fkeys_nodup {l : List (Nat × α)} (h : (l.map Prod.fst).Nodup) : ((l.map fun p => ((p.1 : Int), enc p.2)).map Prod.fst).Nodup := by
  rw [List.map_map]
  have : (l.map ((Prod.fst : Int × Value → Int) ∘ fun p => ((p.1 : Int), enc p.2))) = (l.map Prod.fst).map fun x : Nat => (x : Int) := by rw [List.map_map]; rfl
  rw [this]
  unfold List.Nodup at h ⊢
  rw [List.pairwise_map]
  exact h.imp fun hne e => hne (by omega)
theorem fkeys_miss {l : List (Nat × α)} (hl : ∀ x v, f x = some v ↔ (x, v) ∈ l) {x : Nat} (hx : f x = none) : ∀ p ∈ l.map (fun p => ((p.1 : Int), enc p.2)), p.1 ≠ (x : Int) := fun p hp e => by
  obtain ⟨q, hq, rfl⟩ := List.mem_map.1 hp
  have : q.1 = x := by simp only at e; omega
  have h2 := (hl q.1 q.2).2 hq
  rw [this, hx] at h2; cases h2
variable {P : Program} {t k e : TypeId}
theorem FMap.look_some (h : FMap w b enc f) (ht : P.underlying t = some (.map k e)) (hk : P.underlying k = some (.int .u32)) {x : Nat} {v : α} (hx : f x = some v) :
    (Instr.lookup t (.map (some b)) (.int .u32 (x : Int)) true).run P w = .ok (.tuple #[enc v, .bool true]) w ∧ (Instr.lookup t (.map (some b)) (.int .u32 (x : Int)) false).run P w = .ok (enc v) w := by
  obtain ⟨l, h1, h2, h3⟩ := h
  exact h1.run_lookup_hit ht hk (fkeys_nodup h2) (List.mem_map.2 ⟨(x, v), (h3 x v).1 hx, rfl⟩)
theorem FMap.look_none (h : FMap w b enc f) (ht : P.underlying t = some (.map k e)) (hk : P.underlying k = some (.int .u32)) {z : Value} (hz : (zeroValue e).run P w = .ok z w) {x : Nat} (hx : f x = none) :
    (Instr.lookup t (.map (some b)) (.int .u32 (x : Int)) true).run P w = .ok (.tuple #[z, .bool false]) w ∧ (Instr.lookup t (.map (some b)) (.int .u32 (x : Int)) false).run P w = .ok z w := by
  obtain ⟨l, h1, _, h3⟩ := h
  exact h1.run_lookup_miss ht hk hz (fkeys_miss h3 hx)
/-- A store. -/
theorem FMap.put (h : FMap w b enc f) (ht : P.underlying t = some (.map k e)) (hk : P.underlying k = some (.int .u32)) (x : Nat) (v : α) :
    ∃ w', (Instr.mapUpdate t (.map (some b)) (.int .u32 (x : Int)) (enc v)).run P w = .ok () w' ∧ FMap w' b enc (putP f x v) ∧ Keeps (fun j => j = b) w w' := by
  obtain ⟨l, h1, h2, h3⟩ := h
  cases hx : f x with
  | none =>
    obtain ⟨w', hr, hi, hk'⟩ := h1.run_update_new ht hk (fkeys_miss h3 hx) (enc v)
    refine ⟨w', hr, ⟨l ++ [(x, v)], by rw [List.map_append]; exact hi, ?_, fun y u => ?_⟩, hk'⟩
    · rw [List.map_append, List.nodup_append]
      refine ⟨h2, by simp, fun a ha c hc hac => ?_⟩
      simp only [List.map_cons, List.map_nil, List.mem_singleton] at hc
      obtain ⟨q, hq, rfl⟩ := List.mem_map.1 ha
      have h4 := (h3 q.1 q.2).2 hq
      rw [hac, hc, hx] at h4; cases h4
    · by_cases hy : y = x
      · subst hy
        rw [putP_same, List.mem_append]
        constructor
        · intro h; cases h; exact .inr (by simp)
        · rintro (h | h)
          · have := (h3 y u).2 h; rw [hx] at this; cases this
          · simp at h; rw [h]
      · rw [putP_other f v hy, h3 y u, List.mem_append]
        constructor
        · exact .inl
        · rintro (h | h)
          · exact h
          · simp at h; exact absurd h.1 hy
  | some u0 =>
    obtain ⟨j, hj⟩ := List.mem_iff_getElem?.1 ((h3 x u0).1 hx)
    obtain ⟨w', hr, hi, hk'⟩ := h1.run_update_old ht hk (fkeys_nodup h2) (x := (x : Int)) (u := enc u0) (j := j) (by rw [List.getElem?_map, hj]; rfl) (enc v)
    have hjl := (List.getElem?_eq_some_iff.1 hj).1
    have hkeys : (l.set j (x, v)).map Prod.fst = l.map Prod.fst := by
      apply List.ext_getElem?
      intro n
      rw [List.getElem?_map, List.getElem?_map]
      by_cases hn : n = j
      · subst hn; rw [List.getElem?_set_self hjl, hj]; rfl
      · rw [List.getElem?_set_ne (fun e => hn e.symm)]
    refine ⟨w', hr, ⟨l.set j (x, v), by rw [List.map_set]; exact hi, by rw [hkeys]; exact h2, fun y u => ?_⟩, hk'⟩
    have uniq : ∀ n q, l[n]? = some q → q.1 = x → n = j := fun n q hq hqx => by
      have e1 : (l.map Prod.fst)[n]? = some x := by rw [List.getElem?_map, hq]; simp [hqx]
      have e2 : (l.map Prod.fst)[j]? = some x := by rw [List.getElem?_map, hj]; rfl
      exact nodup_ix h2 e1 e2
    by_cases hy : y = x
    · subst hy
      rw [putP_same]
      constructor
      · intro h; cases h
        exact List.mem_of_getElem? (List.getElem?_set_self hjl)
      · intro h
        obtain ⟨n, hn⟩ := List.mem_iff_getElem?.1 h
        by_cases hnj : n = j
        · subst hnj; rw [List.getElem?_set_self hjl] at hn; cases hn; rfl
        · rw [List.getElem?_set_ne (fun e => hnj e.symm)] at hn
          exact absurd (uniq n _ hn rfl) hnj
    · rw [putP_other f v hy, h3 y u]
      constructor
      · intro h
        obtain ⟨n, hn⟩ := List.mem_iff_getElem?.1 h
        have hnj : n ≠ j := fun e => by subst e; rw [hj] at hn; cases hn; exact hy rfl
        exact List.mem_of_getElem? (i := n) (by rw [List.getElem?_set_ne (fun e => hnj e.symm)]; exact hn)
      · intro h
        obtain ⟨n, hn⟩ := List.mem_iff_getElem?.1 h
        by_cases hnj : n = j
        · subst hnj; rw [List.getElem?_set_self hjl] at hn; cases hn; exact absurd rfl hy
        · rw [List.getElem?_set_ne (fun e => hnj e.symm)] at hn
          exact List.mem_of_getElem? hn
end

end Go.Proofs.YtkjmgafnaddhkaaGreat

namespace Go.Proofs.YtkjmgafnaddhkaaGreat

/-- The operators from a state back to the end of a side. -/
inductive Chain (par : Nat → Option SArc) : Nat → List Nat → Nat → Prop
  | nil {x : Nat} : par x = none → Chain par x [] x
  | cons {x : Nat} {a : SArc} {out : List Nat} {e : Nat} : par x = some a → Chain par a.to out e → Chain par x (a.op :: out) e

section
variable {G : Nat → List SArc} {S0 : Nat → Prop} {L : List Nat} {C : Int} {P : Nat → Option Int} {par : Nat → Option SArc} {A : List (Int × Int)} {s : Nat}
/-- Every state with a price has a way back; the states on it fall in price, so it is no longer than L. -/
theorem SideI.chain (h : SideI G S0 L C P par A s []) (hC : ∀ y, ∀ b ∈ G y, 1 ≤ b.price) [∀ x, Decidable (S0 x)] : ∀ (n : Nat) (x : Nat) (p : Int), P x = some p → p.toNat ≤ n →
    ∃ (out : List Nat) (e : Nat) (vs : List Nat), Chain par x out e ∧ S0 e ∧ vs.length = out.length ∧ vs.Nodup ∧ (∀ y ∈ vs, ∃ q, P y = some q ∧ q ≤ p ∧ y ∈ L)
  | n, x, p, hp, hn => by
    by_cases hs : S0 x
    · exact ⟨[], x, [], .nil (h.start x hs).2, hs, rfl, List.nodup_nil, by simp⟩
    · obtain ⟨a, ha, hg, q, hq, hle⟩ := h.from_ x p hp hs
      have h1 := hC _ _ hg
      simp only at h1
      have hq0 := (h.lo _ q hq).1
      cases n with
      | zero => omega
      | succ n =>
        obtain ⟨out, e, vs, hc, he, hl, hnd, hall⟩ := SideI.chain h hC n a.to q hq (by omega)
        refine ⟨a.op :: out, e, x :: vs, .cons ha hc, he, by simp [hl], List.nodup_cons.2 ⟨fun hx => ?_, hnd⟩, fun y hy => ?_⟩
        · obtain ⟨q', hq', hle', _⟩ := hall x hx
          rw [hp] at hq'; cases hq'; omega
        · rcases List.mem_cons.1 hy with rfl | hy
          · exact ⟨p, hp, Int.le_refl _, h.dom _ _ hp⟩
          · obtain ⟨q', hq', hle', hL⟩ := hall y hy
            exact ⟨q', hq', by omega, hL⟩
theorem SideI.back (h : SideI G S0 L C P par A s []) (hC : ∀ y, ∀ b ∈ G y, 1 ≤ b.price) [∀ x, Decidable (S0 x)] {x : Nat} {p : Int} (hp : P x = some p) : ∃ out e, Chain par x out e ∧ S0 e ∧ out.length ≤ L.length := by
  obtain ⟨out, e, vs, hc, he, hl, hnd, hall⟩ := h.chain hC p.toNat x p hp (Nat.le_refl _)
  exact ⟨out, e, hc, he, by rw [← hl]; exact nodup_sub_length hnd (fun y hy => (hall y hy).choose_spec.2.2)⟩
/-- From the front side: the way back, turned round, leads to the state, for no more than its price. -/
theorem SideI.chainF {ops : List Wop} (h : SideI G S0 L C P par A s []) (hG : ∀ y, ∀ b ∈ G y, ∃ o, ops[b.op]? = some o ∧ o.can y = true ∧ b.to = o.next y ∧ b.price = 4096 * o.cost + 1) {x e : Nat} {out : List Nat} (hc : Chain par x out e) : ∀ {p : Int}, P x = some p → runOps ops e out.reverse = some x ∧ wayN 4096 1 ops out.reverse ≤ p := by
  induction hc with
  | nil hn => intro p hp; exact ⟨rfl, by rw [List.reverse_nil, wayN_nil]; exact (h.lo _ p hp).1⟩
  | @cons x a out e ha hc ih =>
    intro p hp
    have hs : ¬ S0 x := fun hs => by rw [(h.start x hs).2] at ha; cases ha
    obtain ⟨a', ha', hg, q, hq, hle⟩ := h.from_ x p hp hs
    rw [ha] at ha'; cases ha'
    obtain ⟨o, h1, h2, h3, h4⟩ := hG _ _ hg
    simp only at h1 h2 h3 h4
    obtain ⟨i1, i2⟩ := ih hq
    rw [List.reverse_cons, wayN_append, wayN_one h1, runOps_append, i1]
    refine ⟨?_, by omega⟩
    simp only [Option.bind_some, runOps, h1, h2, if_true]
    rw [← h3]
/-! ### the measure -/
def weightB (L : List Nat) (m : Nat) (P : Nat → Option Int) : Nat := (L.map fun x => match P x with | some p => p.toNat | none => m).sum
theorem weightB_put {m x : Nat} {v : Int} (hv : v.toNat < m) : ∀ {L : List Nat}, x ∈ L → (∀ q, P x = some q → v.toNat < q.toNat) → weightB L m (putP P x v) < weightB L m P := by
  have one : ∀ y, (match putP P x v y with | some p => p.toNat | none => m) ≤ (match P y with | some p => p.toNat | none => m) ∨ y = x := fun y => by
    by_cases hy : y = x
    · exact .inr hy
    · rw [putP_other P v hy]; exact .inl (Nat.le_refl _)
  have hx0 : (∀ q, P x = some q → v.toNat < q.toNat) → (match putP P x v x with | some p => p.toNat | none => m) < (match P x with | some p => p.toNat | none => m) := fun h => by
    rw [putP_same]
    cases hq : P x with
    | none => exact hv
    | some q => exact h q hq
  have le : (∀ q, P x = some q → v.toNat < q.toNat) → ∀ L : List Nat, weightB L m (putP P x v) ≤ weightB L m P := fun h L => by
    induction L with
    | nil => exact Nat.le_refl _
    | cons y r ih =>
      unfold weightB at ih ⊢
      rw [List.map_cons, List.map_cons, List.sum_cons, List.sum_cons]
      rcases one y with h1 | rfl
      · omega
      · have := hx0 h; omega
  intro L
  induction L with
  | nil => intro h; simp at h
  | cons y r ih =>
    intro hx h
    have hle := le h r
    have hlt := hx0 h
    by_cases hy : y = x
    · subst hy
      unfold weightB at hle ⊢
      rw [List.map_cons, List.map_cons, List.sum_cons, List.sum_cons]; omega
    · have hxr : x ∈ r := by
        rcases List.mem_cons.1 hx with e | e
        · exact absurd e.symm hy
        · exact e
      have ih' := ih hxr h
      have h1 := one y
      unfold weightB at ih' ⊢
      rw [List.map_cons, List.map_cons, List.sum_cons, List.sum_cons]
      rcases h1 with h1 | h1
      · omega
      · exact absurd h1 hy
end

/-! ### the start -/
def startP (S : List Nat) : Nat → Option Int := fun x => if x ∈ S then some 0 else none
def startA (S : List Nat) : List (Int × Int) := S.foldl (fun A (x : Nat) => putA A (x : Int) 0) []
theorem startA_mem (S : List Nat) : ∀ z, z ∈ startA S ↔ ∃ x ∈ S, z = ((x : Int), 0) := by
  have key : ∀ (S : List Nat) (A : List (Int × Int)), (∀ z ∈ A, z.2 = 0) → ∀ z, z ∈ S.foldl (fun A (x : Nat) => putA A (x : Int) 0) A ↔ z ∈ A ∨ ∃ x ∈ S, z = ((x : Int), 0) := by
    intro S
    induction S with
    | nil => intro A _ z; simp
    | cons x r ih =>
      intro A hA z
      rw [List.foldl_cons, ih _ (fun z hz => by
        rcases mem_putA.1 hz with ⟨h, _⟩ | rfl
        · exact hA z h
        · rfl), mem_putA]
      constructor
      · rintro ((⟨h, _⟩ | rfl) | ⟨y, hy, rfl⟩)
        · exact .inl h
        · exact .inr ⟨x, by simp, rfl⟩
        · exact .inr ⟨y, by simp [hy], rfl⟩
      · rintro (h | ⟨y, hy, rfl⟩)
        · by_cases e : z.1 = (x : Int)
          · refine .inl (.inr ?_)
            have := hA z h
            cases z; simp at this e; rw [this, e]
          · exact .inl (.inl ⟨h, e⟩)
        · rcases List.mem_cons.1 hy with rfl | hy
          · exact .inl (.inr rfl)
          · exact .inr ⟨y, hy, rfl⟩
  intro z
  unfold startA
  rw [key S [] (by simp)]; simp
theorem SideI.init {G : Nat → List SArc} {L S : List Nat} {C : Int} (hC : 0 ≤ C) (hS : ∀ x ∈ S, x ∈ L) (s : Nat) : SideI G (fun x => x ∈ S) L C (startP S) (fun _ => none) (startA S) s [] := by
  have hP : ∀ {x : Nat} {p : Int}, startP S x = some p → x ∈ S ∧ p = 0 := fun {x p} h => by
    unfold startP at h
    split at h
    · cases h; exact ⟨by assumption, rfl⟩
    · cases h
  refine ⟨fun x p h => hS x (hP h).1, fun x p h => ?_, fun x hx => ⟨by unfold startP; rw [if_pos hx], rfl⟩, fun x p h hn => absurd (hP h).1 hn, fun z hz => ?_, fun x p h => .inl ?_⟩
  · rw [(hP h).2]; exact ⟨Int.le_refl _, Int.mul_nonneg hC (Int.natCast_nonneg _)⟩
  · obtain ⟨x, hx, rfl⟩ := (startA_mem S z).1 hz
    exact ⟨x, rfl, by unfold startP; rw [if_pos hx]⟩
  · rw [(hP h).2]; exact (startA_mem S _).2 ⟨x, (hP h).1, rfl⟩
end Go.Proofs.YtkjmgafnaddhkaaGreat

namespace Go.Proofs.YtkjmgafnaddhkaaGreat
open Go.RowKit

def lenV : Value → Nat
  | .slice _ n _ => n
  | _ => 0
end Go.Proofs.YtkjmgafnaddhkaaGreat

namespace Go.Proofs.YtkjmgafnaddhkaaGreat
open Go.RowKit

def intV (p : Int) : Value := .int .i64 p
end Go.Proofs.YtkjmgafnaddhkaaGreat

namespace Go.Proofs.YtkjmgafnaddhkaaGreat
open Go.RowKit Go.Sort Go.Proofs

def backV (a : SArc) : Value := .agg #[.int .u32 (a.to : Int), .int .i64 (a.op : Int)]

theorem Chain.at_end {par : Nat → Option SArc} {x e : Nat} {out : List Nat} (h : Chain par x out e) (hx : par x = none) : out = [] ∧ x = e := by
  cases h with
  | nil _ => exact ⟨rfl, rfl⟩
  | cons ha _ => rw [hx] at ha; cases ha
theorem Chain.more {par : Nat → Option SArc} {x e : Nat} {out : List Nat} (h : Chain par x out e) (hx : x ≠ e) : ∃ a r, par x = some a ∧ out = a.op :: r ∧ Chain par a.to r e := by
  cases h with
  | nil _ => exact absurd rfl hx
  | cons ha hc => exact ⟨_, _, ha, rfl, hc⟩

set_option maxRecDepth 100000 in
set_option maxHeartbeats 1000000 in
theorem pathC_any (w : World) (m s x : Nat) (par f : Nat → Option SArc) (out : List Nat) (hm : FMap w m backV f) (hf : ∀ y a, par y = some a → f y = some a) (h0 : par s = none) (hc : Chain par x out s) (few : out.length ≤ 100000) :
    Calls Tryz.prog 50 #[.map (some m), .int .u32 (s : Int), .int .u32 (x : Int)] w fun en w' => ∃ v, en = .returned v ∧ w'.ownsRow w.heap.size 3 1 v out.length ((intsP out.reverse).map (Value.int .i64)) ∧ Keeps (fun _ => False) w w' := by
  obtain ⟨i0, hi0, hz0, hz1, hz2⟩ := info_parts Tryz.info3
  have HM := Lib.hid hm; have HF := Lib.hid hf; have H0 := Lib.hid h0; have HC := Lib.hid hc
  clear hm hf h0 hc
  go_enter Tryz.func50, Tryz.ntmps50
  go_wp2_with fail
  go_loopw [2, 7] (fun z v wr => ∃ (dn rest : List Nat) (y : Nat), out = dn ++ rest ∧ Chain par y rest s ∧ z = .int .u32 (y : Int) ∧ lenV v = dn.length ∧ wr.ownsRow w.heap.size 3 1 v (intsP dn).length ((intsP dn).map (Value.int .i64)) ∧ Keeps (fun _ => False) w wr)
    (fun _ v _ => out.length - lenV v)
  case atStart => exact ⟨[], out, x, rfl, HC.out, rfl, rfl, World.ownsRow_nil _ _ _ _, Keeps.refl _ _⟩
  case round =>
    obtain ⟨dn, rest, y, hout, hch, rfl, hlv, hown, hkw⟩ := hrel
    have HO := Lib.hid hown; have KW := Lib.hid hkw; have HOUT := Lib.hid hout; have HCH := Lib.hid hch; have HLV := Lib.hid hlv
    have hmw := HM.out.keeps hkw (fun h => h)
    clear hown hkw hout hch hlv
    obtain ⟨av, cv, hv⟩ := ownsRow_form1 HO.out
    subst hv
    by_cases hne : y = s
    · have hb : ((y : Int) != (s : Int)) = false := by simp [hne]
      have HPE := Lib.hid (show out = dn by
        have h1 := (HCH.out.at_end (by rw [hne]; exact H0.out)).1
        rw [HOUT.out, h1, List.append_nil])
      clear hne
      go_wp2_with fail
      refine (reverse_any _ _ _ _ (intsP dn) HO.out (by have h1 := HPE.out; subst h1; simp [intsP]; omega)).mono ?_
      rintro e' w5 ⟨rfl, hown2, hk5⟩
      have HO5 := Lib.hid hown2
      have K5 := Lib.hid (KW.out.trans' hk5 (fun b hb => .inr (World.ownsRow.lt HO.out b hb).1))
      clear hown2 hk5
      go_wp2_with fail
      go_ret
      refine ⟨_, rfl, ?_, K5.out⟩
      have h1 := HO5.out
      have h2 : (intsP dn).length = out.length := by rw [HPE.out]; simp [intsP]
      have h3 : (intsP dn).reverse = intsP out.reverse := by rw [HPE.out]; simp [intsP]
      rw [h3] at h1
      generalize (Value.slice av (intsP dn).length cv) = v at h1
      rw [h2] at h1
      exact h1
    · have hb : ((y : Int) != (s : Int)) = true := by simp; omega
      obtain ⟨a, r, hpa, hro, hcr⟩ := HCH.out.more hne
      have HCR := Lib.hid hcr
      have HOR := Lib.hid (show out = (dn ++ [a.op]) ++ r by rw [HOUT.out, hro, List.append_assoc]; rfl)
      have hlk := (hmw.look_some (P := Tryz.prog) Tryz.underlying81 Tryz.underlying82 (HF.out _ _ hpa)).2
      unfold backV at hlk
      clear hne hpa hro hcr
      have HB := Lib.hid (heap_alloc_new wr (.cells #[.int .u32 (a.to : Int), .int .i64 (a.op : Int)] 116))
      have KA := Lib.hid ((Keeps.refl (fun _ => False) wr).alloc (.cells #[.int .u32 (a.to : Int), .int .i64 (a.op : Int)] 116))
      go_upto_region 4 with fail
      generalize wr.alloc (.cells #[.int .u32 (a.to : Int), .int .i64 (a.op : Int)] 116) = w3 at KA HB ⊢
      have c0 : w3.cell? ⟨wr.heap.size, 0, none⟩ = some (.int .u32 (a.to : Int)) := by rw [cell_of_blk HB.out]; rfl
      have c1 : w3.cell? ⟨wr.heap.size, 1, none⟩ = some (.int .i64 (a.op : Int)) := by rw [cell_of_blk HB.out]; rfl
      have hO3 := KA.out.ownsRow HO.out (fun _ _ h => h)
      have hdl : (intsP dn).length < out.length := by rw [HOR.out]; simp [intsP]
      have hs3 := KA.out.size; have hsw := KW.out.size
      go_wp2_with (at_builtin; refine wpList_append_d rfl _ _ _ rfl w.heap.size 3 i0 _ 1 8 Tryz.underlying22 hi0 hz0 hz1 hz2 rfl (by omega) _ (intsP dn).length ((intsP dn).map (Value.int .i64)) (by rfl) (World.ownsRow.alloc hO3 (.cells #[.int .i64 (a.op : Int)] 3)) ⟨w3.heap.size, 0, none⟩ 1 1 [.int .i64 (a.op : Int)] (by rfl) (by rfl) ?hnews ?hone (by omega) (by unfold maxLen; omega) (by omega) (by simp; omega) (w3.heap.size + 1) (by simp) ?_)
      case hnews => exact World.news_of_block (cs := #[.int .i64 (a.op : Int)]) (t := 3) (fr := (0, 0)) (heap_alloc_new _ _)
      case hone => simp [Value.oneCell']
      intro gg cap2 w4 hown hgrow hat hlt4 hd4
      have HN := Lib.hid (show w4.ownsRow w.heap.size 3 1 (.slice (some ⟨gg, 0, none⟩) ((intsP dn).length + 1) cap2) (intsP (dn ++ [a.op])).length ((intsP (dn ++ [a.op])).map (Value.int .i64)) by
        have e1 : (intsP (dn ++ [a.op])) = intsP dn ++ [(a.op : Int)] := by simp [intsP]
        rw [e1, List.map_append, List.length_append]; exact hown)
      have HKN := Lib.hid (own_grown HO.out KW.out (KA.out.alloc (.cells #[.int .i64 (a.op : Int)] 3)) hgrow)
      have d0 : w4.cell? ⟨wr.heap.size, 0, none⟩ = some (.int .u32 (a.to : Int)) := by
        have hb4 : w4.heap[wr.heap.size]? = _ := (steady_keeps hgrow).heap ((Below.heap_alloc w3 (.cells #[.int .i64 (a.op : Int)] 3) wr.heap.size (lt_of_heap HB.out)).trans HB.out) (fun e' => by have := (World.ownsRow.lt HO.out _ e').2; omega)
        rw [cell_of_blk hb4]; rfl
      clear hown hgrow hat hd4 c0 c1 hO3 hmw
      go_wp2_with fail
      go_roundw
      case rel =>
        exact ⟨dn ++ [a.op], r, a.to, HOR.out, HCR.out, rfl, by simp [lenV, intsP], HN.out, HKN.out⟩
      case measure =>
        simp only [lenV] at *
        have h1 : (intsP dn).length = dn.length := by simp [intsP]
        omega

end Go.Proofs.YtkjmgafnaddhkaaGreat

namespace Go.Proofs.YtkjmgafnaddhkaaGreat

theorem run_cut {ops : List Wop} {p : List Nat} {x y : Nat} (h : runOps ops x p = some y) (i : Nat) : ∃ z, runOps ops x (p.take i) = some z ∧ runOps ops z (p.drop i) = some y := by
  rw [← List.take_append_drop i p, runOps_append] at h
  cases hz : runOps ops x (p.take i) with
  | none => rw [hz] at h; cases h
  | some z => rw [hz] at h; exact ⟨z, rfl, h⟩
/-- Every run has one of no greater cost that is no longer than there are states. -/
theorem short_run {ops : List Wop} {L : List Nat} (h0 : ∀ o ∈ ops, 0 ≤ o.cost ∧ o.cost ≤ 100) {x : Nat} (hL : ∀ p y, runOps ops x p = some y → y ∈ L) : ∀ (n : Nat) {p : List Nat} {y : Nat}, p.length ≤ n → runOps ops x p = some y → ∃ q, runOps ops x q = some y ∧ costN ops q ≤ costN ops p ∧ q.length ≤ L.length
  | n, p, y, hn, hr => by
    by_cases hle : p.length ≤ L.length
    · exact ⟨p, hr, Int.le_refl _, hle⟩
    · have hrep : ∃ i j, i < j ∧ j ≤ p.length ∧ runOps ops x (p.take i) = runOps ops x (p.take j) := by
        refine Classical.byContradiction fun hno => hle ?_
        have hnd : ((List.range (p.length + 1)).map fun i => (runOps ops x (p.take i)).getD 0).Nodup := by
          unfold List.Nodup
          rw [List.pairwise_iff_getElem]
          intro i j hi hj hij e
          simp only [List.getElem_map, List.getElem_range] at e
          simp only [List.length_map, List.length_range] at hi hj
          obtain ⟨zi, hzi, _⟩ := run_cut hr i
          obtain ⟨zj, hzj, _⟩ := run_cut hr j
          rw [hzi, hzj] at e
          simp only [Option.getD_some] at e
          exact hno ⟨i, j, hij, by omega, by rw [hzi, hzj, e]⟩
        have := nodup_sub_length hnd (b := L) (fun z hz => by
          obtain ⟨i, _, rfl⟩ := List.mem_map.1 hz
          obtain ⟨zi, hzi, _⟩ := run_cut hr i
          rw [hzi]; exact hL _ _ hzi)
        rw [List.length_map, List.length_range] at this; omega
      obtain ⟨i, j, hij, hj, he⟩ := hrep
      obtain ⟨z, hz1, hz2⟩ := run_cut hr j
      have hrq : runOps ops x (p.take i ++ p.drop j) = some y := by rw [runOps_append, he, hz1]; exact hz2
      have hlen : (p.take i ++ p.drop j).length < p.length := by simp only [List.length_append, List.length_take, List.length_drop]; omega
      have hcost : costN ops (p.take i ++ p.drop j) ≤ costN ops p := by
        have e1 : costN ops p = costN ops (p.take j) + costN ops (p.drop j) := by rw [← costN_append, List.take_append_drop]
        have e2 : p.take j = p.take i ++ (p.take j).drop i := by
          have := List.take_append_drop i (p.take j)
          rw [List.take_take, Nat.min_eq_left (by omega)] at this
          exact this.symm
        have e3 : costN ops (p.take j) = costN ops (p.take i) + costN ops ((p.take j).drop i) := by rw [← costN_append, ← e2]
        have := (costN_bound h0 ((p.take j).drop i)).1
        rw [costN_append]; omega
      cases n with
      | zero => omega
      | succ n =>
        obtain ⟨q, h1, h2, h3⟩ := short_run h0 hL n (by omega) hrq
        exact ⟨q, h1, by omega, h3⟩

theorem wayN_split (ops : List Wop) (p : List Nat) : wayN 4096 1 ops p = 4096 * costN ops p + (p.length : Int) := by unfold wayN; omega

end Go.Proofs.YtkjmgafnaddhkaaGreat

namespace Go.Proofs.YtkjmgafnaddhkaaGreat

def arcOf (e : Stp) : SArc := ⟨e.op, 4096 * e.cost + 1, e.to⟩
/-- The arcs from the states of a list. -/
def nextG (ops : List Wop) (ss : List Nat) (x : Nat) : List SArc := if x ∈ ss then (wsteps ops x).map arcOf else []
section
variable {ops : List Wop} {L : List Nat}
theorem nextG_all : ∀ x o (i : Nat), x ∈ L → ops[i]? = some o → o.can x = true → (⟨i, 4096 * o.cost + 1, o.next x⟩ : SArc) ∈ nextG ops L x := fun x o i hx ho hc => by
  unfold nextG
  rw [if_pos hx]
  exact List.mem_map.2 ⟨⟨i, o.cost, o.next x⟩, wsteps_mem.2 ⟨o, ho, hc, rfl, rfl⟩, rfl⟩
theorem nextG_only : ∀ y, ∀ b ∈ nextG ops L y, ∃ o, ops[b.op]? = some o ∧ o.can y = true ∧ b.to = o.next y ∧ b.price = 4096 * o.cost + 1 := fun y b hb => by
  unfold nextG at hb
  split at hb
  · obtain ⟨e, he, rfl⟩ := List.mem_map.1 hb
    obtain ⟨o, h1, h2, h3, h4⟩ := wsteps_mem.1 he
    exact ⟨o, h1, h2, h4, by unfold arcOf; simp only; rw [h3]⟩
  · simp at hb
theorem nextG_in (hsh : Shut ops L) : ∀ y, ∀ b ∈ nextG ops L y, b.to ∈ L := fun y b hb => by
  obtain ⟨o, h1, h2, h3, _⟩ := nextG_only y b hb
  unfold nextG at hb
  split at hb
  · rename_i hy; rw [h3]; exact hsh.2 y hy o (List.mem_of_getElem? h1) h2
  · simp at hb
theorem nextG_price (h0 : ∀ o ∈ ops, 0 ≤ o.cost ∧ o.cost ≤ 100) : ∀ y, ∀ b ∈ nextG ops L y, 1 ≤ b.price ∧ b.price ≤ 409601 := fun y b hb => by
  obtain ⟨o, h1, _, _, h4⟩ := nextG_only y b hb
  have := h0 o (List.mem_of_getElem? h1); omega
end

end Go.Proofs.YtkjmgafnaddhkaaGreat

namespace Go.Proofs.YtkjmgafnaddhkaaGreat

/-- A heuristic that never says more than a way to a goal costs, and says 'infinite' only where there is none. -/
structure Adm (ops : List Wop) (L : List Nat) (acc : Nat → Bool) (H : Nat → Int) : Prop where
  lo : ∀ x ∈ L, 0 ≤ H x ∧ H x ≤ 1000000000
  low : ∀ x ∈ L, ∀ p y, runOps ops x p = some y → acc y = true → H x ≤ costN ops p ∧ H x < 1000000000

section
variable {ops : List Wop} {L : List Nat} {st : Nat} {acc : Nat → Bool} {H : Nat → Int} {P : Nat → Option Int} {par : Nat → Option SArc} {A : List (Int × Int)} {s : Nat} {R : List SArc} {dn : Nat → Option Unit}
end

end Go.Proofs.YtkjmgafnaddhkaaGreat

namespace Go.Proofs.YtkjmgafnaddhkaaGreat
open Go.RowKit

theorem SideI.few {G : Nat → List SArc} {S0 : Nat → Prop} {L : List Nat} {C : Int} {P : Nat → Option Int} {par : Nat → Option SArc} {A : List (Int × Int)} {s : Nat} {R : List SArc} (h : SideI G S0 L C P par A s R) (hn : (A.map Prod.fst).Nodup) : A.length ≤ L.length := by
  have h1 : (A.map fun p => p.1.toNat).Nodup := by
    unfold List.Nodup at hn ⊢
    rw [List.pairwise_map] at hn ⊢
    refine hn.imp_of_mem (fun {a b} ha hb hab e => hab ?_)
    obtain ⟨x, hx, _⟩ := h.key a ha
    obtain ⟨y, hy, _⟩ := h.key b hb
    rw [hx, hy] at e ⊢
    have e' : x = y := by simpa using e
    rw [e']
  have h2 := nodup_sub_length h1 (b := L) (fun x hx => by
    obtain ⟨p, hp, rfl⟩ := List.mem_map.1 hx
    obtain ⟨y, hy, hP⟩ := h.key p hp
    rw [hy]
    exact h.dom _ _ hP)
  simpa using h2

end Go.Proofs.YtkjmgafnaddhkaaGreat

namespace Go.Proofs.YtkjmgafnaddhkaaGreat
open Go.RowKit Go.Shelf

theorem FMap.not_deferred {α : Type} {w : World} {b : Nat} {enc : α → Value} {f : Nat → Option α} (h : FMap w b enc f) : w.heap[b]? ≠ some (.deferred (some [])) := by
  obtain ⟨es, c, hb⟩ := h.map_block
  rw [hb]; intro e; cases e

section
variable {fl : Bool} {B bf bb bfo bbe bat : Nat} {W W1 : World} {b m0 mp mr md q : Nat} {G : Nat → List SArc} {FG : Nat → Prop} {P : Nat → Option Int} {par : Nat → Option SArc} {dn : Nat → Option Unit} {A : List (Int × Int)} {t : Int} {F : Nat → Prop}
    {b' m0' mp' mr' md' q' : Nat} {G' : Nat → List SArc} {FG' : Nat → Prop} {P' : Nat → Option Int} {par' : Nat → Option SArc} {dn' : Nat → Option Unit} {A' : List (Int × Int)} {t' : Int} {F' : Nat → Prop} {found : Bool} {best : Int} {at_ : Nat}
end

end Go.Proofs.YtkjmgafnaddhkaaGreat

namespace Go.Proofs.YtkjmgafnaddhkaaGreat
open Go.RowKit Go.Shelf

theorem startW (L gs : List Nat) (m : Nat) : weightB L m (startP gs) ≤ L.length * m := by
  unfold weightB
  induction L with
  | nil => simp
  | cons x r ih =>
    rw [List.map_cons, List.sum_cons, List.length_cons, Nat.add_mul, Nat.one_mul, Nat.add_comm]
    refine Nat.add_le_add ih ?_
    unfold startP
    by_cases h : x ∈ gs
    · rw [if_pos h]; exact Nat.zero_le _
    · rw [if_neg h]; exact Nat.le_refl _
end Go.Proofs.YtkjmgafnaddhkaaGreat

namespace Go.Proofs.YtkjmgafnaddhkaaGreat
open Go.RowKit

section
variable {w w' : World} {base mp mr md q : Nat} {P P' : Nat → Option Int} {fp fp' : Nat → Option SArc} {dn dn' : Nat → Option Unit} {A A' : List (Int × Int)} {t t' : Int} {F F' : Nat → Prop}
end

/-- A heuristic as a function value: H is what it says of the states of L; it keeps its own memory between n0 and B, of which it changes the blocks FH. -/
structure Heur (g : Nat) (pa cb : Array Value) (L : List Nat) (H : Nat → Int) (n0 B : Nat) (FH : Nat → Prop) (I : World → Prop) : Prop where
  enters : ∀ args w, (callFunc g args).run Tryz.prog w = .ok (.enter g args) w
  answers : ∀ W x, I W → x ∈ L → Calls Tryz.prog g (pa.push (.int .u32 (x : Int)) ++ cb) W fun e W' => e = .returned (.int .i64 (H x)) ∧ I W' ∧ Keeps FH W W'
  steady : ∀ {S : Nat → Prop} {W W' : World}, I W → Keeps S W W' → (∀ k, S k → B ≤ k) → I W'
  nd : ∀ {W : World} {k : Nat}, I W → FH k → W.heap[k]? ≠ some (.deferred (some []))
  lo : ∀ k, FH k → n0 ≤ k ∧ k < B

/-- The map of the parents: the start has itself, the others what the search says. -/
def parF (st : Nat) (par : Nat → Option SArc) : Nat → Option SArc := fun x => if x = st then some ⟨0, 0, st⟩ else par x
theorem parF_put {st : Nat} {par : Nat → Option SArc} {x : Nat} {a : SArc} (h : x ≠ st) : putP (parF st par) x a = parF st (putP par x a) := by
  funext y
  unfold putP parF
  by_cases h1 : y = x
  · subst h1; simp [h]
  · simp [h1]
theorem parF_of {st : Nat} {par : Nat → Option SArc} (h0 : par st = none) : ∀ y a, par y = some a → parF st par y = some a := fun y a h => by
  unfold parF
  rw [if_neg (fun e => by subst e; rw [h0] at h; cases h)]
  exact h
theorem parF_start (st : Nat) : putP (fun _ => none) st (⟨0, 0, st⟩ : SArc) = parF st (fun _ => none) := by
  funext y
  unfold putP parF
  rfl

end Go.Proofs.YtkjmgafnaddhkaaGreat

namespace Go.Proofs.YtkjmgafnaddhkaaGreat
open Go.RowKit Go.Shelf

theorem FMap.len {α : Type} {w : World} {b : Nat} {enc : α → Value} {f : Nat → Option α} (h : FMap w b enc f) {L : List Nat} (hL : ∀ x v, f x = some v → x ∈ L) {P : Program} {t k e : TypeId} (ht : P.underlying t = some (.map k e)) (ty : TypeId) :
    ∃ n : Nat, n ≤ L.length ∧ (Builtin.len_ #[t] ty #[.map (some b)]).run P w = .ok (.int .i64 (n : Int)) w := by
  obtain ⟨l, h1, h2, h3⟩ := h
  refine ⟨l.length, ?_, by have := h1.run_len (P := P) ht ty; rwa [List.length_map] at this⟩
  have := nodup_sub_length (b := L) h2 (fun x hx => by
    obtain ⟨p, hp, rfl⟩ := List.mem_map.1 hx
    exact hL p.1 p.2 ((h3 _ _).2 hp))
  rwa [List.length_map] at this

theorem WordsAt.past {w00 W : World} {base b s g : Nat} {v : Value} {ops : List Wop} (h : WordsAt w00 base b s g v ops) (hk : Keeps (fun _ => False) w00 W) : WordsAt W base b s g v ops := h.keeps0 hk

section
variable {w W W' : World} {L : List Nat} {H : Nat → Int} {gh n0 : Nat} {pa cb : Array Value} {FH : Nat → Prop} {I : World → Prop} {fn : Value} {b3 b8 b9 b10 mp mr md q : Nat} {P P' : Nat → Option Int} {fp fp' : Nat → Option SArc} {dn dn' : Nat → Option Unit} {A A' : List (Int × Int)} {t t' : Int} {F F' : Nat → Prop}
end

section
variable {w W W' : World} {L : List Nat} {H : Nat → Int} {gh n0 : Nat} {pa cb : Array Value} {FH : Nat → Prop} {I : World → Prop} {fn : Value} {b3 b8 b9 b10 mp mr q : Nat} {P : Nat → Option Int} {fp : Nat → Option SArc} {A A' : List (Int × Int)} {t t' : Int} {F F' : Nat → Prop}
end

theorem SideI.more {G : Nat → List SArc} {S0 : Nat → Prop} {L : List Nat} {C : Int} {P : Nat → Option Int} {par : Nat → Option SArc} {A : List (Int × Int)} {s : Nat} {R R' : List SArc} (h : SideI G S0 L C P par A s R) (hR : ∀ b ∈ R, b ∈ R') : SideI G S0 L C P par A s R' :=
  ⟨h.dom, h.lo, h.start, h.from_, h.key, fun x p hp => (h.pend x p hp).imp (fun h => h) (fun h a ha => (h a ha).imp (fun h => h) (fun h => ⟨h.1, hR a h.2⟩))⟩
theorem others_of {S : Nat → Prop} {W W' : World} {B : Nat} (hk : Keeps S W W') (hS : ∀ k, S k → k < B ∨ ∃ cs T fr, W.heap[k]? = some (.cells cs T fr)) : ∀ k o, B ≤ k → W.heap[k]? = some o → o.isCells = false → W'.heap[k]? = some o := fun k o hB h0 hc =>
  hk.heap h0 (fun hs => by
    rcases hS k hs with h | ⟨cs, T, fr, h⟩
    · omega
    · rw [h] at h0; cases h0; cases hc)
theorem close_of {S : Nat → Prop} {W W' : World} {B n0 Bs : Nat} (hk : Keeps S W W') (hS : ∀ k, S k → n0 ≤ k ∧ (k < B ∨ ∃ cs T fr, W.heap[k]? = some (.cells cs T fr)) ∧ k ≠ Bs) (hn : n0 ≤ W.heap.size) (hB : Bs < W.heap.size) : KeepsFrom B W W' ∧ KpS n0 Bs W W' :=
  ⟨⟨hk.size, others_of hk (fun k h => (hS k h).2.1)⟩, KpS.ofKeeps hk hn (fun k hlt hs => by have := (hS k hs).1; omega) hB (fun hs => (hS _ hs).2.2 rfl)⟩
theorem costLook {w : World} {mb : Nat} {P : Nat → Option Int} (hm : FMap w mb intV P) {x : Nat} {a : Int} (hx : P x = some a) : (Instr.lookup 80 (.map (some mb)) (.int .u32 (x : Int)) false).run Tryz.prog w = .ok (.int .i64 a) w :=
  (hm.look_some (P := Tryz.prog) Tryz.underlying80 Tryz.underlying82 hx).2
theorem costLookT {w : World} {mb : Nat} {P : Nat → Option Int} (hm : FMap w mb intV P) (x : Nat) : ∃ (a : Int) (b : Bool), (Instr.lookup 80 (.map (some mb)) (.int .u32 (x : Int)) true).run Tryz.prog w = .ok (.tuple #[.int .i64 a, .bool b]) w ∧ (b = true → P x = some a) ∧ (b = false → P x = none) := by
  cases hx : P x with
  | none => exact ⟨0, false, (hm.look_none (P := Tryz.prog) Tryz.underlying80 Tryz.underlying82 (show (zeroValue 3).run Tryz.prog w = .ok (.int .i64 0) w by kernel_rfl) hx).1, (fun h => by cases h), fun _ => rfl⟩
  | some a => exact ⟨a, true, (hm.look_some (P := Tryz.prog) Tryz.underlying80 Tryz.underlying82 hx).1, fun _ => rfl, fun h => by cases h⟩
end Go.Proofs.YtkjmgafnaddhkaaGreat
