/- breadth: the law that Plan is the reference's. -/
import Derived.Test.YtcfcmmajlkkabaaExB
namespace Go.Proofs.Ytcfcmmajlkkabaa
open Go.RowKit

/-- The least way, as the reference tells it. -/
def BestPost (ops : List Wop) (s : Nat) (acc : Nat → Bool) (w : World) (e : Ending) (w' : World) : Prop := Keeps (fun _ => False) w w' ∧
  ∃ (o : Option (List Nat)) (v : Value), Best ops s acc o ∧ e = .returned (.tuple #[v, .bool o.isSome]) ∧ Ints w' v (intsP (o.getD [])) ∧ ∀ k, v.ownBlock = some k → w.heap.size ≤ k

theorem short_best {ops : List Wop} {s : Nat} {L : List Nat} (hL : reached ops s = some L) {acc : Nat → Bool} {w w' : World} {e : Ending} (h : ShortPost w (arcs ops L) (L.map acc) 0 e w') : BestPost ops s acc w e w' := by
  obtain ⟨hk, d, hok, hr⟩ := h
  obtain ⟨_, _, h0, _⟩ := reached_some hL
  refine ⟨hk, ?_⟩
  rcases hr with ⟨x, h1, h2, rfl⟩ | ⟨l, v, h1, rfl, h2⟩
  · exact ⟨none, _, go_none (shut_reached hL) hok h0 h1 h2, rfl, Ints.nil _, fun k hk => by simp [Value.ownBlock] at hk⟩
  · refine ⟨some l, v, go_best (shut_reached hL) hok h1 h0, rfl, ?_, fun k hk => (World.ownsRow.lt h2 k hk).1⟩
    refine Ints.of_own (base := w.heap.size) (e := 3) ?_
    show w'.ownsRow _ _ _ _ (intsP l).length _
    unfold intsP
    rw [List.length_map, List.map_map]
    exact h2

/-- What breadth hands back, beside the least way. -/
structure WayRes (ops : List Wop) (s : Nat) (acc : Nat → Bool) (c i : Int) (bp : Bool) (lp : List Int) (o : Option (List Nat)) : Prop where
  best : Best ops s acc o
  fault : wayF (o.getD []).length (0, 0) = (c, i)
  bad : c ≠ 0 → bp = false ∧ lp = []
  good : c = 0 → bp = o.isSome ∧ lp = intsP (o.getD [])

theorem way_res {ops : List Wop} {s : Nat} {acc : Nat → Bool} {w w' : World} {e : Ending} (h : WayPost ops s acc w e w') :
    ∃ v c i bp lp o, e = .returned (.tuple #[v, .bool bp, fltV c i]) ∧ Ints w' v lp ∧ WayRes ops s acc c i bp lp o := by
  rcases h with ⟨hb, rfl⟩ | ⟨p, hb, ⟨h60, rfl⟩ | ⟨h60, v, rfl, ho⟩⟩
  · exact ⟨_, 0, 0, false, [], none, rfl, Ints.nil _, hb, by decide, fun h => absurd rfl h, fun _ => ⟨rfl, rfl⟩⟩
  · exact ⟨_, 10, -9, false, [], some p, rfl, Ints.nil _, hb, by unfold wayF; rw [if_pos ⟨rfl, h60⟩], fun _ => ⟨rfl, rfl⟩, fun h => by simp at h⟩
  · refine ⟨v, 0, 0, true, intsP p, some p, rfl, ?_, hb, by unfold wayF; rw [if_neg (fun h => by have h2 : 60 < p.length := h.2; omega)], fun h => absurd rfl h, fun _ => ⟨rfl, rfl⟩⟩
    refine Ints.of_own (base := w.heap.size) (e := 3) ?_
    have : (intsP p).length = p.length := by unfold intsP; rw [List.length_map]
    rw [this]; exact ho

theorem goalW_goalB {t : Tsk} (ok : t.Ok) {x : Nat} (hx : Good t.n x) : goalW t x = goalB (wd t.goal) x := by
  have h := appL_word (n := t.n) (o := ⟨t.goal, [], [], 0⟩) ⟨ok.goal, by rfl, by rfl, by rfl, by simp, by simp⟩ hx.1
  rw [hx.2] at h
  exact h

theorem good_next_mem {t : Tsk} (ok : t.Ok) {x y : Nat} (hx : Good t.n x) (hy : y ∈ nexts (wordsOf t.ops) x) : Good t.n y := by
  unfold nexts at hy
  obtain ⟨wo, hwo, rfl⟩ := List.mem_map.1 hy
  have hm := (List.mem_filter.1 hwo).1
  unfold wordsOf at hm
  obtain ⟨o, ho, rfl⟩ := List.mem_map.1 hm
  exact (good_next (by have := ok.n1; omega) (ok.ops o ho) hx).2.2
theorem good_reach {t : Tsk} (ok : t.Ok) {s x : Nat} (hs : Good t.n s) (h : Reach (wordsOf t.ops) s x) : Good t.n x := by
  induction h with
  | refl => exact hs
  | step _ hy ih => exact good_next_mem ok ih hy
theorem good_explored {t : Tsk} (ok : t.Ok) {L : List Nat} (h : explored t = some L) : ∀ x ∈ L, Good t.n x := by
  intro x hx
  exact good_reach ok (good_wd (by have := ok.n1; omega) ok.init) (((reached_some h).2.2.2 x).1 hx)
theorem goals_eq {t : Tsk} (ok : t.Ok) {L : List Nat} (h : ∀ x ∈ L, Good t.n x) : L.map (goalW t) = L.map (goalB (wd t.goal)) := by
  apply List.map_congr_left
  intro x hx
  exact goalW_goalB ok (h x hx)

set_option maxRecDepth 100000 in
set_option maxHeartbeats 4000000 in
theorem planLaw_any (w : World) (vi vg vo : Value) (t : Tsk) (h : TaskAt w vi vg vo t) :
    Calls Try.prog 3 #[.agg #[.int .i64 t.n, vi, vg, vo]] w fun e w' => e = .returned (.bool true) ∧ Keeps (fun _ => False) w w' := by
  obtain ⟨ai, ci, h1, _⟩ := h.init.form
  obtain ⟨ag, cg, h2, _⟩ := h.goal.form
  obtain ⟨ao, co, h3, hmo⟩ := h.ops.form
  subst h1 h2 h3
  have HB := Lib.hid (Four.new w (.int .i64 t.n) (.slice ai t.init.length ci) (.slice ag t.goal.length cg) (.slice ao t.ops.length co) 25)
  have K1 := (Keeps.refl (fun _ => False) w).alloc (.cells #[.int .i64 t.n, .slice ai t.init.length ci, .slice ag t.goal.length cg, .slice ao t.ops.length co] 25)
  have HT := Lib.hid (h.keeps0 K1); have HK := Lib.hid K1
  clear h K1
  go_enter Try.func3, Try.ntmps3
  go_upto_region 1 with fail
  generalize (w.alloc (.cells #[.int .i64 t.n, .slice ai t.init.length ci, .slice ag t.goal.length cg, .slice ao t.ops.length co] 25)) = w1 at HB HT HK ⊢
  generalize w.heap.size = bt at HB ⊢
  go_wp2_with fail
  refine (breadthExample_any _).mono ?_; rintro e w2 ⟨rfl, hk⟩
  have HB2 := Lib.hid (HB.out.keeps0 hk); have HT2 := Lib.hid (HT.out.keeps0 hk); have K2 := Lib.hid (HK.out.trans hk)
  have hbx := HB2.out.lt
  obtain ⟨d0, d1, d2, d3⟩ := HB2.out
  clear hk
  go_wp2_with fail
  refine (wide_any _ _ _ _ t HT2.out).mono ?_; rintro e w3 ⟨rfl, hk⟩
  have HB3 := Lib.hid (HB2.out.keeps0 hk); have HT3 := Lib.hid (HT2.out.keeps0 hk); have K3 := Lib.hid (K2.out.trans hk)
  clear d0 d1 d2 d3 hk hbx
  cases hw : wideB t with
  | true =>
    have HW := Lib.hid hw
    clear hw
    go_wp2_with fail
    go_ret
    exact ⟨rfl, K3.out⟩
  | false =>
    have HW := Lib.hid hw
    clear hw
    have hbx := HB3.out.lt
    obtain ⟨d0, d1, d2, d3⟩ := HB3.out
    go_wp2_with fail
    refine (plan_any _ _ _ _ t HT3.out).mono ?_; rintro e w4 ⟨hk, hr⟩
    have HB4 := Lib.hid (HB3.out.keeps0 hk); have HT4 := Lib.hid (HT3.out.keeps0 hk); have K4 := Lib.hid (K3.out.trans hk)
    clear d0 d1 d2 d3 hk hbx
    have hr2 : ∃ v c i bp lp, e = .returned (.tuple #[v, .bool bp, fltV c i]) ∧ Ints w4 v lp ∧ ((expF t = (c, i) ∧ c ≠ 0 ∧ bp = false ∧ lp = []) ∨ (expF t = (0, 0) ∧ t.Ok ∧ ∃ l o, explored t = some l ∧ WayRes (wordsOf t.ops) (wd t.init) (goalB (wd t.goal)) c i bp lp o)) := by
      rcases hr with ⟨hc, rfl⟩ | ⟨hok, hx, rfl⟩ | ⟨hok, l, hx, hway⟩
      · exact ⟨_, _, _, _, [], rfl, Ints.nil _, .inl ⟨by unfold expF; rw [if_neg hc], hc, rfl, rfl⟩⟩
      · exact ⟨_, _, _, _, [], rfl, Ints.nil _, .inl ⟨by unfold expF; rw [if_pos (taskFault_zero.2 hok), hx], by decide, rfl, rfl⟩⟩
      · obtain ⟨v, c, i, bp, lp, o, h1, h2, h3⟩ := way_res hway
        exact ⟨v, c, i, bp, lp, h1, h2, .inr ⟨by unfold expF; rw [if_pos (taskFault_zero.2 hok), hx], hok, l, o, hx, h3⟩⟩
    obtain ⟨v, c, i, bp, lp, rfl, hv, hr3⟩ := hr2
    obtain ⟨ap, cp, hvp, _⟩ := hv.form
    subst hvp
    have HP := Lib.hid hv; have HR := Lib.hid hr3
    clear hr hv hr3
    simp only [fltV]
    go_upto_region 6 with fail
    have KA := (Keeps.refl (fun _ => False) w4).alloc (.cells #[.int .i64 c, .int .i64 i] 29)
    have H5 := Lib.hid (heap_alloc_new w4 (.cells #[.int .i64 c, .int .i64 i] 29))
    have HB5 := Lib.hid (HB4.out.keeps0 KA); have HT5 := Lib.hid (HT4.out.keeps0 KA); have K5 := Lib.hid (K4.out.trans KA); have HP5 := Lib.hid (HP.out.keeps0 KA)
    clear KA
    generalize w4.alloc (.cells #[.int .i64 c, .int .i64 i] 29) = w5 at H5 HB5 HT5 K5 HP5 ⊢
    generalize w4.heap.size = b5 at H5 ⊢
    have hbx := HB5.out.lt
    obtain ⟨d0, d1, d2, d3⟩ := HB5.out
    go_wp2_with fail
    refine (explored_any _ _ _ _ t HT5.out).mono ?_; rintro e w6 ⟨rfl, hk⟩
    generalize hex : expF t = f at HR ⊢
    have HEX := Lib.hid hex
    have KA := hk.alloc (.cells #[.int .i64 f.1, .int .i64 f.2] 29)
    have H6 := Lib.hid (heap_alloc_new w6 (.cells #[.int .i64 f.1, .int .i64 f.2] 29))
    have H56 := Lib.hid (KA.heap H5.out (fun h => h))
    have HB6 := Lib.hid (HB5.out.keeps0 KA); have HT6 := Lib.hid (HT5.out.keeps0 KA); have K6 := Lib.hid (K5.out.trans KA); have HP6 := Lib.hid (HP5.out.keeps0 KA)
    have hlt56 : b5 < w6.heap.size := lt_of_heap (hk.heap H5.out (fun h => h))
    have hlw6 : w.heap.size ≤ w6.heap.size := (K5.out.trans hk).size
    have HPL := Lib.hid (fun (h0 : 0 < lp.length) k hk6 => Ints.lt (HP5.out.keeps0 hk) h0 k hk6)
    clear KA hk hex d0 d1 d2 d3 hbx
    go_upto_region 7 with fail
    generalize w6.alloc (.cells #[.int .i64 f.1, .int .i64 f.2] 29) = w7 at H6 H56 HB6 HT6 K6 HP6 ⊢
    generalize w6.heap.size = b6 at H6 hlt56 hlw6 HPL ⊢
    obtain ⟨p0, p1, z0, z1, hl5⟩ := pair_cells H56.out
    obtain ⟨q0, q1, y0, y1, hl6⟩ := pair_cells H6.out
    rcases HR.out with ⟨rfl, hc, rfl, rfl⟩ | ⟨rfl, hok, l, o, hx, hres⟩
    · have hc2 : (c != 0) = true := by simpa using hc
      clear hc
      go_wp2_with fail
      go_ret
      exact ⟨rfl, K6.out⟩
    · have OK := Lib.hid hok; have HX := Lib.hid hx; have RES := Lib.hid hres
      have hbx := HB6.out.lt
      obtain ⟨d0, d1, d2, d3⟩ := HB6.out
      clear hok hx hres
      go_wp2_with fail
      refine (reached_any _ _ _ _ t HT6.out OK.out).mono ?_; rintro e w8 ⟨hk, hr⟩
      rcases hr with ⟨hn, rfl⟩ | ⟨l', hn, vl, vw, vs, rfl, hr⟩
      · have hx := HX.out
        unfold explored at hx
        rw [hx] at hn; cases hn
      obtain rfl : l' = l := by
        have hx := HX.out
        unfold explored at hx
        rw [hx] at hn; exact (Option.some.inj hn).symm
      have HLS := Lib.hid hr.lists
      have hfew := (reached_some hn).2.1
      have HG := Lib.hid (good_explored OK.out HX.out)
      obtain ⟨al, cl, hvl⟩ := ownsRow_form1 hr.out
      subst hvl
      have H68 := Lib.hid (hk.heap H6.out (fun h => h)); have H58 := Lib.hid (hk.heap H56.out (fun h => h))
      have HB8 := Lib.hid (HB6.out.keeps0 hk); have HT8 := Lib.hid (HT6.out.keeps0 hk); have K8 := Lib.hid (K6.out.trans hk); have HP8 := Lib.hid (HP6.out.keeps0 hk)
      clear hk hr hn p0 p1 z0 z1 hl5 q0 q1 y0 y1 hl6 d0 d1 d2 d3 hbx
      go_upto_region 10 with fail
      have hl0 : 0 < l'.length := by
        have := (reached_some (show reached (wordsOf t.ops) (wd t.init) = some l' from HX.out)).2.2.1
        exact (List.getElem?_eq_some_iff.1 this).1
      have hbx := HB8.out.lt
      obtain ⟨d0, d1, d2, d3⟩ := HB8.out
      have KD := (Keeps.refl (fun _ => False) w8).drew
      have HTD := Lib.hid (HT8.out.keeps0 KD); have HLD := Lib.hid (HLS.out.keeps0 KD)
      have KDH := Lib.hid KD
      clear KD
      go_region_with (first | (go_at_call 21; refine (arcs_any _ _ _ _ _ t l' HTD.out OK.out HLD.out HG.out hfew).mono ?_; rintro e w9 ⟨va, rfl, hoa, hk9⟩; obtain ⟨aa, ca, haa⟩ := ownsRow_formS hoa; subst haa; have HA9 := Lib.hid hoa.at; have HT9 := Lib.hid (HTD.out.keeps0 hk9); have HL9 := Lib.hid (HLD.out.keeps0 hk9); have K9 := Lib.hid (KDH.out.trans hk9); obtain ⟨d0', d1', d2', d3'⟩ := HB8.out.keeps0 K9.out; clear hoa hk9) | (go_at_call 22; refine (goals_any _ _ _ _ _ t l' HT9.out HL9.out hfew).mono ?_; rintro e w10 ⟨vb, rfl, hob, hk10⟩; obtain ⟨ab, cb, hab⟩ := ownsRow_form1 hob; subst hab; have HA10 := Lib.hid (HA9.out.keeps0 hk10); have HO10 := Lib.hid (show Bools w10 (.slice ab l'.length cb) (l'.map (goalB (wd t.goal))) by (rw [← goals_eq OK.out HG.out]; unfold Bools; rw [List.length_map]; exact Sl.of_own hob)); have K10 := Lib.hid (K9.out.trans hk10); clear hob hk10) | (go_at_call 20; refine (shortest_any _ _ _ (arcs (wordsOf t.ops) l') (l'.map (goalB (wd t.goal))) 0 HA10.out HO10.out (by (rw [List.length_map]; omega)) (fun a ha => by (rw [List.length_map]; exact ⟨(arcs_lt ha).1, (arcs_lt ha).2.1⟩)) (by (rw [List.length_map]; omega))).mono ?_; rintro e w11 hs; obtain ⟨hk11, o', v', hb, rfl, hi, hlow⟩ := short_best HX.out hs; have HLOW := Lib.hid (fun k hk => Nat.le_trans K10.out.size (hlow k hk)); have HB11 := Lib.hid hb; have HI11 := Lib.hid hi; have K11 := Lib.hid (K10.out.trans hk11); clear hs hk11 hb hi hlow))
      all_goals
        obtain rfl := HB11.out.unique RES.out.best
        have HFA := Lib.hid RES.out.fault
        have HLQ := Lib.hid (show (o'.getD []).length = (intsP (o'.getD [])).length by unfold intsP; rw [List.length_map])
        obtain ⟨aq, cq, hq, _⟩ := HI11.out.form
        subst hq
        have HI := Lib.hid HI11.out
        have HGD := Lib.hid RES.out.good; have HBAD := Lib.hid RES.out.bad
        clear RES HI11 HB11
        generalize intsP (o'.getD []) = lq at HI HLQ HGD HLOW ⊢
        have HW2 := Lib.hid (show wayF lq.length (0, 0) = (c, i) by rw [← HLQ.out]; exact HFA.out)
        have H611 := Lib.hid (K11.out.heap H68.out (fun h => h)); have H511 := Lib.hid (K11.out.heap H58.out (fun h => h))
        have KK := Lib.hid (K8.out.trans K11.out); have HP11 := Lib.hid (HP8.out.keeps0 K11.out)
        have q := pair_cells H611.out
        obtain ⟨q0, q1, y0, y1, hl6⟩ := q
        clear d0 d1 d2 d3 hbx d0' d1' d2' d3'
        go_wp2_with fail
        refine (wayFault_any _ _ _ _ _ _).mono ?_; rintro e w12 ⟨rfl, hk⟩
        rw [HW2.out]
        have H612 := Lib.hid (hk.heap H611.out (fun h => h)); have H512 := Lib.hid (hk.heap H511.out (fun h => h))
        have K12 := Lib.hid (KK.out.trans hk); have HP12 := Lib.hid (HP11.out.keeps0 hk); have HI12 := Lib.hid (HI.out.keeps0 hk)
        clear hk q0 q1 y0 y1 hl6
        obtain ⟨q0, q1, y0, y1, hl6⟩ := pair_cells H612.out
        have h68 := lt_of_heap H68.out
        have kp := keeps_pair (w := w12) b6 (.int .i64 c) (.int .i64 i)
        have H613 := Lib.hid (pair_set H612.out (.int .i64 c) (.int .i64 i))
        have H513 := Lib.hid (kp.heap H512.out (by omega))
        have HP13 := Lib.hid (HP12.out.keepsS kp (fun h0 k hk e => by have := HPL.out h0 k hk; omega))
        have HI13 := Lib.hid (HI12.out.keepsS kp (fun h0 k hk e => by have h1 := HLOW.out k hk; omega))
        have K13 := Lib.hid (K12.out.trans' kp (fun i hi => .inr (by omega)))
        clear kp
        go_upto_region 12 with fail
        generalize (w12.setCell ⟨b6, 0, none⟩ (.int .i64 c)).setCell ⟨b6, 1, none⟩ (.int .i64 i) = w13 at H613 H513 HP13 HI13 K13 ⊢
        clear q0 q1 y0 y1 hl6
        obtain ⟨p0, p1, z0, z1, hl5⟩ := pair_cells H513.out
        obtain ⟨q0, q1, y0, y1, hl6⟩ := pair_cells H613.out
        by_cases hc : c = 0
        · have hc2 : (c != 0) = false := by simpa using hc
          have hc3 : (c == 0) = true := by simpa using hc
          obtain ⟨rfl, rfl⟩ := HGD.out hc
          clear hc
          go_wp2_with fail
          refine (ints_any _ _ _ _ _ HP13.out HI13.out).mono ?_; rintro e w14 ⟨rfl, hk⟩
          have K14 := Lib.hid (K13.out.trans hk)
          clear hk
          rw [show (lp == lp) = true from beq_self_eq_true lp]
          go_wp2_with fail
          go_ret
          exact ⟨rfl, K14.out⟩
        · have hc2 : (c != 0) = true := by simpa using hc
          obtain ⟨rfl, rfl⟩ := HBAD.out hc
          clear hc
          go_wp2_with fail
          go_ret
          exact ⟨rfl, K13.out⟩

end Go.Proofs.Ytcfcmmajlkkabaa
