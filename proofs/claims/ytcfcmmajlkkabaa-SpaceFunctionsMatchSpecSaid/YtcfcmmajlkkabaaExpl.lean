/- space.Explore. -/
import Derived.Test.YtcfcmmajlkkabaaStates
import Derived.Test.YtcfcmmajlkkabaaWay
namespace Go.Proofs.Ytcfcmmajlkkabaa
open Go.RowKit

/-- A row of slices of facts, each in memory of its own. -/
structure SRow (W : World) (base : Nat) (v : Value) (ws : List Nat) (vs : List Value) : Prop where
  out : W.ownsRow base 22 1 v ws.length vs
  st : ∀ (i : Nat) (x : Nat), ws[i]? = some x → ∃ u, vs[i]? = some u ∧ Ints W u (facts x) ∧ (∀ k, u.ownBlock = some k → v.ownBlock ≠ some k) ∧ ∀ k, u.ownBlock = some k → base ≤ k ∧ k < W.heap.size

theorem SRow.keepsS {S : Nat → Prop} {W W' : World} {base : Nat} {v : Value} {ws : List Nat} {vs : List Value} (h : SRow W base v ws vs) (hk : Keeps S W W') (hs : ∀ k, S k → k < base) : SRow W' base v ws vs :=
  ⟨hk.ownsRow h.out (fun k hv hS => by have := (World.ownsRow.lt h.out k hv).1; have := hs k hS; omega), fun i x hx => by
    obtain ⟨u, h1, h2, h3, h4⟩ := h.st i x hx
    exact ⟨u, h1, h2.keepsS hk (fun _ k hk' hS => by have := (h4 k hk').1; have := hs k hS; omega), h3, fun k hk' => ⟨(h4 k hk').1, Nat.lt_of_lt_of_le (h4 k hk').2 hk.size⟩⟩⟩
theorem SRow.keeps0 {W W' : World} {base : Nat} {v : Value} {ws : List Nat} {vs : List Value} (h : SRow W base v ws vs) (hk : Keeps (fun _ => False) W W') : SRow W' base v ws vs := h.keepsS hk (fun _ h => h.elim)
theorem SRow.snoc {W7 W8 : World} {base : Nat} {v vo' vn : Value} {Q : List Nat} {vs : List Value} {y : Nat} (h : SRow W7 base v Q vs) (hn : Ints W7 vn (facts y))
    (hnb : ∀ k, vn.ownBlock = some k → v.ownBlock ≠ some k) (hnl : ∀ k, vn.ownBlock = some k → base ≤ k ∧ k < W7.heap.size)
    (K78 : Keeps (fun k => v.ownBlock = some k) W7 W8) (ho : W8.ownsRow base 22 1 vo' (Q.length + 1) (vs ++ [vn])) (hg : ∀ k, vo'.ownBlock = some k → v.ownBlock = some k ∨ W7.heap.size ≤ k) : SRow W8 base vo' (Q ++ [y]) (vs ++ [vn]) := by
  have hsz := K78.size
  have hvl : vs.length = Q.length := by simpa using h.out.1
  refine ⟨by rw [List.length_append]; exact ho, fun i x hx => ?_⟩
  have key : ∀ u, Ints W7 u (facts x) → (∀ k, u.ownBlock = some k → v.ownBlock ≠ some k) → (∀ k, u.ownBlock = some k → base ≤ k ∧ k < W7.heap.size) → Ints W8 u (facts x) ∧ (∀ k, u.ownBlock = some k → vo'.ownBlock ≠ some k) ∧ ∀ k, u.ownBlock = some k → base ≤ k ∧ k < W8.heap.size := fun u h1 h2 h3 =>
    ⟨h1.keepsS K78 (fun _ k hk e => h2 k hk e), fun k hk e => by
      rcases hg k e with h4 | h4
      · exact h2 k hk h4
      · have := (h3 k hk).2; omega, fun k hk => ⟨(h3 k hk).1, Nat.lt_of_lt_of_le (h3 k hk).2 hsz⟩⟩
  by_cases hlt : i < Q.length
  · rw [List.getElem?_append_left hlt] at hx
    obtain ⟨u, h1, h2, h3, h4⟩ := h.st i x hx
    exact ⟨u, by rw [List.getElem?_append_left (by omega)]; exact h1, key u h2 h3 h4⟩
  · have hil := (List.getElem?_eq_some_iff.1 hx).1
    have hi : i = Q.length := by simp at hil; omega
    subst hi
    rw [List.getElem?_append_right (Nat.le_refl _)] at hx
    simp at hx; subst hx
    exact ⟨vn, by rw [← hvl, List.getElem?_append_right (Nat.le_refl _)]; simp, key vn hn hnb hnl⟩
theorem SRow.lists {W : World} {base : Nat} {v : Value} {L : List Nat} {vs : List Value} (h : SRow W base v L vs) : Lists W v (L.map facts) := by
  obtain ⟨ao, cap, hv, hm, hc⟩ := Sl.of_own h.out
  refine ⟨ao, cap, by rw [List.length_map]; exact hv, by rw [List.length_map]; exact hm, fun h0 => ?_⟩
  rw [List.length_map] at h0
  obtain ⟨b, off, ha, hx⟩ := hc h0
  refine ⟨b, off, ha, fun i l hl => ?_⟩
  rw [List.getElem?_map] at hl
  cases hy : L[i]? with
  | none => rw [hy] at hl; cases hl
  | some y =>
    rw [hy] at hl; cases hl
    obtain ⟨u, h1, h2, _⟩ := h.st i y hy
    exact ⟨u, hx i u h1, h2⟩

def ExplPost (t : Tsk) (w : World) (e : Ending) (w' : World) : Prop := Keeps (fun _ => False) w w' ∧
  ((∃ c i, c ≠ 0 ∧ expF t = (c, i) ∧ e = .returned (.tuple #[.slice none 0 0, fltV c i])) ∨
   (t.Ok ∧ ∃ (l ws : List Nat) (v : Value), explored t = some l ∧ ws.Perm l ∧ ws.Pairwise ordW ∧ e = .returned (.tuple #[v, fltV 0 0]) ∧ Lists w' v (ws.map facts)))

set_option maxRecDepth 100000 in
set_option maxHeartbeats 2000000 in
theorem explore_any (w : World) (vi vg vo : Value) (t : Tsk) (h : TaskAt w vi vg vo t) :
    Calls Try.prog 43 #[.agg #[.int .i64 t.n, vi, vg, vo]] w (ExplPost t w) := by
  obtain ⟨j0, hj0, jz0, jz1, jz2⟩ := info_parts Try.info22
  obtain ⟨ai, ci, h1, _⟩ := h.init.form
  obtain ⟨ag, cg, h2, _⟩ := h.goal.form
  obtain ⟨ao, co, h3, hmo⟩ := h.ops.form
  subst h1 h2 h3
  have K1 := (Keeps.refl (fun _ => False) w).alloc (.cells #[.int .i64 t.n, .slice ai t.init.length ci, .slice ag t.goal.length cg, .slice ao t.ops.length co] 25)
  have HT := h.keeps0 (K1.alloc (.cells #[.int .i64 0, .int .i64 0] 29))
  have HB := (Four.new w (.int .i64 t.n) (.slice ai t.init.length ci) (.slice ag t.goal.length cg) (.slice ao t.ops.length co) 25).keeps0 ((Keeps.refl _ _).alloc (.cells #[.int .i64 0, .int .i64 0] 29))
  have HF : Flt w ((w.alloc (.cells #[.int .i64 t.n, .slice ai t.init.length ci, .slice ag t.goal.length cg, .slice ao t.ops.length co] 25)).alloc (.cells #[.int .i64 0, .int .i64 0] 29)) (w.heap.size + 1) 29 :=
    ⟨by have := heap_alloc_new (w.alloc (.cells #[.int .i64 t.n, .slice ai t.init.length ci, .slice ag t.goal.length cg, .slice ao t.ops.length co] 25)) (.cells #[.int .i64 0, .int .i64 0] 29); rwa [World.size_alloc] at this, by omega, K1.alloc _⟩
  replace HT := Lib.hid HT; replace HB := Lib.hid HB; replace HF := Lib.hid HF
  clear h K1
  go_enter Try.func43, Try.ntmps43
  go_upto_region 1 with fail
  generalize ((w.alloc (.cells #[.int .i64 t.n, .slice ai t.init.length ci, .slice ag t.goal.length cg, .slice ao t.ops.length co] 25)).alloc (.cells #[.int .i64 0, .int .i64 0] 29)) = w1 at HT HB HF ⊢
  have hbx := HB.out.lt
  obtain ⟨d0, d1, d2, d3⟩ := HB.out
  go_wp2_with fail
  refine (checked_any _ _ _ _ t HT.out).mono ?_; rintro e w2 ⟨hk, hr⟩
  have HF2 := Lib.hid (HF.out.keeps0 hk)
  clear d0 d1 d2 d3 hk
  have hb0 := HF2.out.keep.size
  rcases hr with ⟨hc, rfl⟩ | ⟨hok, hx, rfl⟩ | ⟨hok, l, hx, b, v, vl, ws, rfl, hw, hperm, hord, hown⟩
  · have hc2 : ((taskFault t).1 == 0) = false := by simpa using hc
    have HE := Lib.hid (show expF t = taskFault t by unfold expF; rw [if_neg hc])
    have HC := Lib.hid hc
    clear hc
    generalize hfe : taskFault t = f at hc2 HC HE ⊢
    clear hfe
    have HF3 := Lib.hid (HF2.out.keeps0 ((Keeps.refl _ _).alloc (.cells #[.int .i64 f.1, .int .i64 f.2] 29)))
    obtain ⟨e0, e1, z0, z1, hF⟩ := HF3.out.cells
    go_wp2_with fail
    go_region
    all_goals
      go_wp2
      refine bodyPost_ret (results_tmp_cell _ _ (w.heap.size + 1) 29 #[.int .i64 f.1, .int .i64 f.2] (0, 0) _ rfl rfl (((Keeps.refl (fun _ => False) _).drew).heap (HF3.out.set (.int .i64 f.1) (.int .i64 f.2)).1 (fun h => h)) Try.underlying29 rfl (by kernel_rfl)) rfl ?_
      exact ⟨((HF3.out.set (.int .i64 f.1) (.int .i64 f.2)).2).drew, .inl ⟨f.1, f.2, HC.out, HE.out, rfl⟩⟩
  · have HE := Lib.hid (show expF t = (10, -7) by unfold expF; rw [if_pos (taskFault_zero.2 hok), hx])
    clear hx hok
    have HF3 := Lib.hid (HF2.out.keeps0 ((Keeps.refl _ _).alloc (.cells #[.int .i64 10, .int .i64 (-7)] 29)))
    obtain ⟨e0, e1, z0, z1, hF⟩ := HF3.out.cells
    go_wp2_with fail
    go_region
    all_goals
      go_wp2
      refine bodyPost_ret (results_tmp_cell _ _ (w.heap.size + 1) 29 #[.int .i64 10, .int .i64 (-7)] (0, 0) _ rfl rfl (((Keeps.refl (fun _ => False) _).drew).heap (HF3.out.set (.int .i64 10) (.int .i64 (-7))).1 (fun h => h)) Try.underlying29 rfl (by kernel_rfl)) rfl ?_
      exact ⟨((HF3.out.set (.int .i64 10) (.int .i64 (-7))).2).drew, .inl ⟨10, -7, by decide, HE.out, rfl⟩⟩
  · have HX := Lib.hid hx; have OK := Lib.hid hok; have PERM := Lib.hid hperm; have ORD := Lib.hid (show ws.Pairwise ordW from hord)
    have hfew : ws.length ≤ 2000 := by rw [hperm.length_eq]; exact (reached_some hx).2.1
    have KA := (Keeps.refl (fun _ => False) w2).alloc (.cells #[.int .i64 0, .int .i64 0] 29)
    have HV := Lib.hid (show Sl _ vl ws.length (ws.map encW) from (Sl.of_own hown).keeps0 KA)
    have HF3 := Lib.hid (HF2.out.keeps0 KA)
    obtain ⟨av, cv, hav⟩ := ownsRow_form1 hown
    subst hav
    clear hx hok hw KA hperm hord hown
    have F0 := heap_alloc_new w2 (.cells #[.int .i64 0, .int .i64 0] 29)
    go_upto_region 2 with fail
    generalize w2.alloc (.cells #[.int .i64 0, .int .i64 0] 29) = w3 at HV HF3 F0 ⊢
    have HCV := Lib.hid (Sl.cellN HV.out rfl)
    have f0 : w3.cell? ⟨w2.heap.size, 0, none⟩ = some (.int .i64 0) := by rw [cell_of_blk F0]; rfl
    have f1 : w3.cell? ⟨w2.heap.size, 1, none⟩ = some (.int .i64 0) := by rw [cell_of_blk F0]; rfl
    clear F0
    obtain ⟨e0, e1, z0, z1, hF⟩ := HF3.out.cells
    have hb2 := HF3.out.keep.size
    have hbF := HF3.out.blk
    go_wp2_with fail
    go_loopw [7, 22] (fun v7 v22 wr => ∃ (i : Nat) (vs : List Value), i ≤ ws.length ∧ v22 = .int .i64 (i : Int) ∧ SRow wr w3.heap.size v7 (ws.take i) vs ∧ Keeps (fun _ => False) w3 wr) (fun _ v22 _ => ws.length - (intOf v22).toNat)
    case atStart => exact ⟨0, [], Nat.zero_le _, rfl, ⟨World.ownsRow_nil _ _ _ _, fun i x hx => by simp at hx⟩, Keeps.refl _ _⟩
    case round =>
      obtain ⟨i, vs, hi, rfl, hrow, hkr⟩ := hrel
      have HR := Lib.hid hrow; have HKR := Lib.hid hkr
      have hsz := hkr.size
      have HTL := Lib.hid (show (ws.take i).length = i by rw [List.length_take]; omega)
      obtain ⟨ar, cr, har⟩ := ownsRow_form1 hrow.out
      rw [HTL.out] at har
      subst har
      clear hrow hkr
      by_cases hlt : i < ws.length
      · obtain ⟨bl, ol, rfl, hx'⟩ := HCV.out (by omega)
        obtain ⟨x, hx⟩ : ∃ x, ws[i]? = some x := ⟨_, List.getElem?_eq_getElem hlt⟩
        have hu := HKR.out.cell (hx' i (.int .u32 (x : Int)) (by rw [List.getElem?_map, hx]; rfl)) (fun h => h)
        have HTK := Lib.hid (take_getS hx)
        clear hx' hx
        go_wp2_with fail
        refine (facts_any _ x).mono ?_; rintro e w4 ⟨vf, rfl, hown, hk1, hd1⟩
        obtain ⟨af, cf, haf⟩ := ownsRow_form1 hown
        subst haf
        have HO := Lib.hid hown; have HK1 := Lib.hid hk1
        have HR4 := Lib.hid (HR.out.keeps0 hk1)
        have hs4 := hk1.size
        have HNL := Lib.hid (show ∀ k, (Value.slice af (facts x).length cf).ownBlock = some k → w3.heap.size ≤ k ∧ k < w4.heap.size from fun k hk => by have := World.ownsRow.lt hown k hk; omega)
        have HNB := Lib.hid (show ∀ k, (Value.slice af (facts x).length cf).ownBlock = some k → (Value.slice ar i cr).ownBlock ≠ some k from fun k hk e => by
          have h1 := (World.ownsRow.lt hown k hk).1
          have h2 := (World.ownsRow.lt HR.out.out k (by rw [HTL.out] at *; exact e)).2
          omega)
        clear hown hk1 hd1 hu
        go_wp2_with (at_builtin; refine wpList_append_d rfl _ _ _ rfl w3.heap.size 22 j0 _ 1 24 Try.underlying33 hj0 jz0 jz1 jz2 rfl (by omega) _ i vs (by rfl) (World.ownsRow.alloc (by have h := HR4.out.out; rw [HTL.out] at h; exact h) (.cells #[.slice af (facts x).length cf] 22)) ⟨w4.heap.size, 0, none⟩ 1 1 [.slice af (facts x).length cf] (by rfl) (by rfl) (World.news_of_block (cs := #[.slice af (facts x).length cf]) (t := 22) (fr := (0, 0)) (heap_alloc_new _ _)) (by simp [Value.oneCell']) (by omega) (by unfold maxLen; omega) (by omega) (by simp; omega) (w4.heap.size + 1) (by simp) ?_)
        intro gg cap2 w5 hown hgrow hat hlt5 hd5
        have hk5 : Keeps (fun k => (Value.slice ar i cr).ownBlock = some k) w4 w5 := ((Keeps.refl _ w4).alloc _).grown hgrow (fun k hk => .inl hk)
        have HROW : Hid (SRow w5 w3.heap.size (.slice (some ⟨gg, 0, none⟩) (i + 1) cap2) (ws.take (i + 1)) (vs ++ [.slice af (facts x).length cf])) := by
          unfold Hid
          rw [HTK.out]
          exact SRow.snoc HR4.out (Ints.of_own HO.out) HNB.out HNL.out hk5 (by rw [HTL.out]; exact hown) (fun k hk => by
            simp [Value.ownBlock] at hk
            subst hk
            rcases hat with h | h
            · exact .inl h
            · exact .inr (by omega))
        have HK5 := Lib.hid (own_grown (by have h := HR4.out.out; rw [HTL.out] at h; exact h) (HKR.out.trans HK1.out) ((Keeps.refl _ w4).alloc (.cells #[.slice af (facts x).length cf] 22)) hgrow)
        clear hown hgrow hat hd5 hk5
        go_wp2_with fail
        go_roundw
        case rel => exact ⟨i + 1, _, by omega, by go_num, HROW.out, HK5.out⟩
        case measure => simp only [intOf]; omega
      · have hie : i = ws.length := by omega
        subst hie
        have HR2 := Lib.hid (show SRow wr w3.heap.size (.slice ar ws.length cr) ws vs by have h := HR.out; rw [List.take_length] at h; exact h)
        have HFr := Lib.hid (HF3.out.keeps0 HKR.out)
        clear e0 e1 z0 z1 f0 f1
        obtain ⟨e0, e1, z0, z1, hF2⟩ := HFr.out.cells
        go_wp2_with fail
        refine bodyPost_ret (results_tmp_cell _ _ (w.heap.size + 1) 29 #[.int .i64 0, .int .i64 0] (0, 0) _ rfl rfl (HFr.out.set (.int .i64 0) (.int .i64 0)).1 Try.underlying29 rfl (by kernel_rfl)) rfl ?_
        refine ⟨(HFr.out.set (.int .i64 0) (.int .i64 0)).2, .inr ⟨OK.out, l, ws, _, HX.out, PERM.out, ORD.out, rfl, ?_⟩⟩
        exact (HR2.out.keepsS (keeps_pair (w.heap.size + 1) _ _) (fun k hk => by omega)).lists

end Go.Proofs.Ytcfcmmajlkkabaa
