/- breadth: the beginnings of the plan are the least ways to the states on its way. -/
import Derived.Test.YtcfcmmajlkkabaaReachL
namespace Go.Proofs.Ytcfcmmajlkkabaa
open Go.RowKit

theorem lle_total : ∀ (p q : List Nat), lle p q ∨ lle q p
  | [], _ => .inl trivial
  | _ :: _, [] => .inr trivial
  | a :: p, b :: q => by
    rcases Nat.lt_trichotomy a b with h | h | h
    · exact .inl (.inl h)
    · subst h
      rcases lle_total p q with h | h
      · exact .inl (.inr ⟨rfl, h⟩)
      · exact .inr (.inr ⟨rfl, h⟩)
    · exact .inr (.inl h)
theorem sle_total (p q : List Nat) : sle p q ∨ sle q p := by
  rcases Nat.lt_trichotomy p.length q.length with h | h | h
  · exact .inl (.inl h)
  · rcases lle_total p q with h' | h'
    · exact .inl (.inr ⟨h, h'⟩)
    · exact .inr (.inr ⟨h.symm, h'⟩)
  · exact .inr (.inl h)
theorem sle_append {p q : List Nat} (r : List Nat) (h : sle p q) : sle (p ++ r) (q ++ r) := by
  by_cases e : p = q
  · rw [e]; exact sle_refl _
  · rcases h with h | ⟨h, h'⟩
    · exact .inl (by simp; omega)
    · exact .inr ⟨by simp; omega, lle_append r r h' h e⟩

/-- A beginning of the least plan is the least way to where it leads. -/
theorem best_take {ops : List Wop} {s : Nat} {acc : Nat → Bool} {p : List Nat} (h : Best ops s acc (some p)) {k x : Nat} (hx : runOps ops s (p.take k) = some x) : Best ops s (fun y => y == x) (some (p.take k)) := by
  obtain ⟨⟨y, h1, h2⟩, h3⟩ := h
  refine ⟨⟨x, hx, by simp⟩, fun q z hq hz => ?_⟩
  rw [beq_iff_eq] at hz
  subst hz
  have hr : runOps ops z (p.drop k) = some y := by
    have := runOps_append ops (p.take k) (p.drop k) s
    rw [List.take_append_drop, h1, hx] at this
    exact this.symm
  have hq2 : runOps ops s (q ++ p.drop k) = some y := by rw [runOps_append, hq]; exact hr
  have hle := h3 _ _ hq2 h2
  rcases sle_total (p.take k) q with h4 | h4
  · exact h4
  · have h5 := sle_append (p.drop k) h4
    rw [List.take_append_drop] at h5
    have := sle_antisymm hle h5
    have h6 : p.take k ++ p.drop k = q ++ p.drop k := by rw [List.take_append_drop]; exact this
    rw [List.append_cancel_right h6]
    exact sle_refl _

theorem run_next {ops : List Wop} {s : Nat} {p : List Nat} {y k x : Nat} (h1 : runOps ops s p = some y) (hx : runOps ops s (p.take k) = some x) (hk : k < p.length) : ∃ (j : Nat) (o : Wop), p[k]? = some j ∧ ops[j]? = some o ∧ o.can x = true ∧ runOps ops s (p.take (k + 1)) = some (o.next x) := by
  obtain ⟨j, hj⟩ : ∃ j, p[k]? = some j := ⟨_, List.getElem?_eq_getElem hk⟩
  have hr : runOps ops x (p.drop k) = some y := by
    have := runOps_append ops (p.take k) (p.drop k) s
    rw [List.take_append_drop, h1, hx] at this
    exact this.symm
  have hd : p.drop k = j :: p.drop (k + 1) := by rw [List.drop_eq_getElem_cons hk, (List.getElem?_eq_some_iff.1 hj).2]
  rw [hd, runOps] at hr
  cases ho : ops[j]? with
  | none => rw [ho] at hr; cases hr
  | some o =>
    rw [ho] at hr; simp only at hr
    split at hr
    · rename_i hc
      refine ⟨j, o, hj, ho, hc, ?_⟩
      rw [take_getS hj]
      exact runOps_snoc' hx ho hc
    · cases hr

theorem inB_yes {k lo hi : Int} (h1 : lo ≤ k) (h2 : k ≤ hi) : inB k lo hi = true := by
  unfold inB; rw [decide_eq_true h1, decide_eq_true h2]; rfl
theorem in_true (w : World) (x lo hi : Int) (h : inB x lo hi = true) : Calls Try.prog 30 #[.int .i64 x, .int .i64 lo, .int .i64 hi] w fun e w' => e = .returned (.bool true) ∧ w' = w :=
  (in_any w x lo hi).mono fun _ _ k => ⟨by rw [k.1, h], k.2.symm⟩

theorem Ints.take {w : World} {ao : Option Addr} {n cap k : Nat} {l : List Int} (h : Ints w (.slice ao n cap) l) (hk : k ≤ l.length) : Ints w (.slice ao k cap) (l.take k) := by
  obtain ⟨ao', cap', hv, hm, hc⟩ := h
  simp only [Value.slice.injEq] at hv
  obtain ⟨rfl, rfl, rfl⟩ := hv
  have hl : (l.take k).length = k := by rw [List.length_take]; omega
  refine ⟨ao, cap, by rw [hl], by rw [hl]; omega, fun h0 => ?_⟩
  rw [hl] at h0
  obtain ⟨b, off, ha, hx⟩ := hc (by omega)
  refine ⟨b, off, ha, fun j x hj => hx j x ?_⟩
  rw [List.getElem?_map, List.getElem?_take] at hj
  rw [List.getElem?_map]
  split at hj
  · exact hj
  · cases hj

/-- Reach at a state on the way of the plan. -/
theorem reachOn_any (w : World) (vi vg vo vs : Value) (t : Tsk) (h : TaskAt w vi vg vo t) (ok : t.Ok) {L : List Nat} (hL : explored t = some L) {p : List Nat} {acc : Nat → Bool} (hb : Best (wordsOf t.ops) (wd t.init) acc (some p)) (hp : p.length ≤ 60)
    {k x : Nat} (hx : runOps (wordsOf t.ops) (wd t.init) (p.take k) = some x) (hg : Good t.n x) (hs : Ints w vs (facts x)) :
    Calls Try.prog 25 #[.agg #[.int .i64 t.n, vi, vg, vo], vs] w fun e w' => ∃ v, e = .returned (.tuple #[v, .bool true, .agg #[.int .i64 0, .int .i64 0]]) ∧ Ints w' v (intsP (p.take k)) ∧ Keeps (fun _ => False) w w' := by
  refine (reach_any w vi vg vo vs t (facts x) h hs).mono ?_
  rintro e w' ⟨hk, hr⟩
  have hb2 := best_take hb hx
  rcases hr with ⟨h1, _⟩ | ⟨_, _, h1, _⟩ | ⟨_, _, l, h1, hw⟩
  · exact absurd (stateFault_zero.2 ⟨ok, hg.1⟩) h1
  · rw [hL] at h1; cases h1
  · rw [hg.2] at hw
    rcases hw with ⟨hb3, _⟩ | ⟨q, hb3, hp3⟩
    · cases hb3.unique hb2
    · cases hb3.unique hb2
      rcases hp3 with ⟨h60, _⟩ | ⟨_, v, he, ho⟩
      · rw [List.length_take] at h60; omega
      · refine ⟨v, he, ?_, hk⟩
        refine Ints.of_own (base := w.heap.size) (e := 3) ?_
        have : (intsP (p.take k)).length = (p.take k).length := by unfold intsP; rw [List.length_map]
        rw [this]; exact ho

/-- What holds at the head of a round of the law. -/
def BegInv (t : Tsk) (p : List Nat) (w2 : World) (v6 v7 : Value) (wr : World) : Prop :=
  ∃ k x : Nat, v7 = .int .i64 (k : Int) ∧ k ≤ p.length + 1 ∧ Good t.n x ∧ Ints wr v6 (facts x) ∧ (k ≤ p.length → runOps (wordsOf t.ops) (wd t.init) (p.take k) = some x) ∧ Keeps (fun _ => False) w2 wr

set_option maxRecDepth 100000 in
set_option maxHeartbeats 4000000 in
theorem beginLaw_any (w : World) (vi vg vo : Value) (t : Tsk) (h : TaskAt w vi vg vo t) :
    Calls Try.prog 5 #[.agg #[.int .i64 t.n, vi, vg, vo]] w fun e w' => e = .returned (.bool true) ∧ Keeps (fun _ => False) w w' := by
  obtain ⟨ai, ci, h1, _⟩ := h.init.form
  obtain ⟨ag, cg, h2, _⟩ := h.goal.form
  obtain ⟨ao, co, h3, hmo⟩ := h.ops.form
  subst h1 h2 h3
  have HB := Lib.hid (Four.new w (.int .i64 t.n) (.slice ai t.init.length ci) (.slice ag t.goal.length cg) (.slice ao t.ops.length co) 25)
  have K1 := (Keeps.refl (fun _ => False) w).alloc (.cells #[.int .i64 t.n, .slice ai t.init.length ci, .slice ag t.goal.length cg, .slice ao t.ops.length co] 25)
  have HT := Lib.hid (h.keeps0 K1); have HK := Lib.hid K1
  clear h K1
  go_enter Try.func5, Try.ntmps5
  go_upto_region 1 with fail
  generalize (w.alloc (.cells #[.int .i64 t.n, .slice ai t.init.length ci, .slice ag t.goal.length cg, .slice ao t.ops.length co] 25)) = w1 at HB HT HK ⊢
  generalize w.heap.size = bt at HB ⊢
  go_wp2_with fail
  refine (breadthExample_any _).mono ?_; rintro e w2 ⟨rfl, hk⟩
  have HB2 := Lib.hid (HB.out.keeps0 hk); have HT2 := Lib.hid (HT.out.keeps0 hk); have K2 := Lib.hid (HK.out.trans hk)
  have hbx := HB2.out.lt
  obtain ⟨d0, d1, d2, d3⟩ := HB2.out
  clear hk
  go_wp2_with fail
  refine (plan_any _ _ _ _ t HT2.out).mono ?_; rintro e w4 ⟨hk, hr⟩
  have HB4 := Lib.hid (HB2.out.keeps0 hk); have HT4 := Lib.hid (HT2.out.keeps0 hk); have K4 := Lib.hid (K2.out.trans hk)
  clear d0 d1 d2 d3 hk hbx
  have hr2 : (∃ c i, e = .returned (.tuple #[.slice none 0 0, .bool false, .agg #[.int .i64 c, .int .i64 i]])) ∨ (t.Ok ∧ ∃ L p, explored t = some L ∧ Best (wordsOf t.ops) (wd t.init) (goalB (wd t.goal)) (some p) ∧ p.length ≤ 60 ∧ ∃ ao cap, e = .returned (.tuple #[.slice ao p.length cap, .bool true, .agg #[.int .i64 0, .int .i64 0]]) ∧ p.length ≤ cap ∧ Ints w4 (.slice ao p.length cap) (intsP p)) := by
    rcases hr with ⟨hc, rfl⟩ | ⟨hok, hx, rfl⟩ | ⟨hok, l, hx, hway⟩
    · exact .inl ⟨_, _, rfl⟩
    · exact .inl ⟨_, _, rfl⟩
    · rcases hway with ⟨hb, rfl⟩ | ⟨p, hb, ⟨h60, rfl⟩ | ⟨h60, v, rfl, ho⟩⟩
      · exact .inl ⟨_, _, rfl⟩
      · exact .inl ⟨_, _, rfl⟩
      · have hI : Ints w4 v (intsP p) := by
          refine Ints.of_own (base := w2.heap.size) (e := 3) ?_
          have : (intsP p).length = p.length := by unfold intsP; rw [List.length_map]
          rw [this]; exact ho
        refine .inr ⟨hok, l, p, hx, hb, h60, ?_⟩
        rcases ho.2 with ⟨hv, h0⟩ | ⟨g, cap, cur, hv, _, _, hn, _⟩
        · rw [hv] at hI
          exact ⟨none, 0, by rw [hv, h0]; rfl, by omega, by rw [h0]; exact hI⟩
        · rw [hv] at hI
          exact ⟨_, cap, by rw [hv]; rfl, hn, hI⟩
  clear hr
  rcases hr2 with ⟨c, i, rfl⟩ | ⟨hok, L, p, hx, hb, h60, ap, cp, rfl, hcp, hI⟩
  · go_upto_region 4 with fail
    have KA := K4.out.alloc (.cells #[.int .i64 c, .int .i64 i] 29)
    have H5 := Lib.hid (heap_alloc_new w4 (.cells #[.int .i64 c, .int .i64 i] 29))
    have K5 := Lib.hid KA
    clear KA
    generalize w4.alloc (.cells #[.int .i64 c, .int .i64 i] 29) = w5 at H5 K5 ⊢
    generalize w4.heap.size = b5 at H5 ⊢
    obtain ⟨p0, p1, z0, z1, hl5⟩ := pair_cells H5.out
    by_cases hc : c = 0
    · have hc2 : (c != 0) = false := by simpa using hc
      clear hc
      go_wp2_with fail
      go_ret
      exact ⟨rfl, K5.out⟩
    · have hc2 : (c != 0) = true := by simpa using hc
      clear hc
      go_wp2_with fail
      go_ret
      exact ⟨rfl, K5.out⟩
  · have OK := Lib.hid hok; have HX := Lib.hid hx; have BST := Lib.hid hb
    go_upto_region 4 with fail
    have KA := (Keeps.refl (fun _ => False) w4).alloc (.cells #[.int .i64 0, .int .i64 0] 29)
    have H5 := Lib.hid (heap_alloc_new w4 (.cells #[.int .i64 0, .int .i64 0] 29))
    have HB5 := Lib.hid (HB4.out.keeps0 KA); have HT5 := Lib.hid (HT4.out.keeps0 KA); have K5 := Lib.hid (K4.out.trans KA); have HP5 := Lib.hid (hI.keeps0 KA)
    clear KA hok hx hb hI
    generalize w4.alloc (.cells #[.int .i64 0, .int .i64 0] 29) = w5 at H5 HB5 HT5 K5 HP5 ⊢
    generalize w4.heap.size = b5 at H5 ⊢
    obtain ⟨p0, p1, z0, z1, hl5⟩ := pair_cells H5.out
    have hbx := HB5.out.lt
    obtain ⟨d0, d1, d2, d3⟩ := HB5.out
    have HI0 := Lib.hid (show Ints w5 (.slice ai t.init.length ci) (facts (wd t.init)) by
      rw [facts_wd (isSet_mono OK.out.init (by have := OK.out.n1; omega))]; exact HT5.out.init)
    have HG0 := Lib.hid (good_wd (by have := OK.out.n1; omega) OK.out.init)
    obtain ⟨pf, hpf⟩ : ∃ y, runOps (wordsOf t.ops) (wd t.init) p = some y := by
      obtain ⟨⟨y, h1, _⟩, _⟩ := BST.out; exact ⟨y, h1⟩
    have HPF := Lib.hid hpf
    have HCL := Lib.hid (HP5.out.cell rfl)
    clear hpf
    have hipl : (intsP p).length = p.length := by unfold intsP; rw [List.length_map]
    have HIPL := Lib.hid hipl
    clear hipl
    go_wp2_with fail
    clear d0 d1 d2 d3 hbx p0 p1 z0 z1 hl5
    go_loopw [6, 7] (fun v6 v7 wr => BegInv t p w5 v6 v7 wr) (fun _ v7 _ => p.length + 2 - (intOf v7).toNat)
    case atStart => exact ⟨0, wd t.init, rfl, by omega, HG0.out, HI0.out, fun _ => rfl, Keeps.refl _ _⟩
    case round =>
      obtain ⟨k, x, rfl, hk1, hg, hI, hrun, hkw⟩ := hrel
      obtain ⟨a6, c6, hs, _⟩ := hI.form
      subst hs
      have HG := Lib.hid hg; have HI := Lib.hid hI; have HRUN := Lib.hid hrun; have KW := Lib.hid hkw
      have HT := Lib.hid (HT5.out.keeps0 hkw); have HBW := Lib.hid (HB5.out.keeps0 hkw); have HPW := Lib.hid (HP5.out.keeps0 hkw)
      clear hg hI hrun hkw
      by_cases hkp : k ≤ p.length
      · have hrun := HRUN.out hkp
        have HR := Lib.hid hrun
        have hbx := HBW.out.lt
        obtain ⟨d0, d1, d2, d3⟩ := HBW.out
        clear hrun
        go_wp2_with fail
        refine (reachOn_any _ _ _ _ _ t HT.out OK.out HX.out BST.out h60 HR.out HG.out HI.out).mono ?_; rintro e w6 ⟨v, rfl, hv, hk⟩
        obtain ⟨aq, cq, hq, _⟩ := hv.form
        have hql : (intsP (p.take k)).length = k := by unfold intsP; rw [List.length_map, List.length_take]; omega
        rw [hql] at hq
        subst hq
        clear hql
        go_upto_region 11 with fail
        have KA := hk.alloc (.cells #[.int .i64 0, .int .i64 0] 29)
        have HQ := Lib.hid (hv.keeps0 ((Keeps.refl (fun _ => False) w6).alloc (.cells #[.int .i64 0, .int .i64 0] 29)))
        have H7 := Lib.hid (heap_alloc_new w6 (.cells #[.int .i64 0, .int .i64 0] 29))
        have K7 := Lib.hid (KW.out.trans KA)
        have HT7 := Lib.hid (HT.out.keeps0 KA); have HB7 := Lib.hid (HBW.out.keeps0 KA); have HP7 := Lib.hid (HPW.out.keeps0 KA)
        have HI7 := Lib.hid (show Ints _ (.slice a6 (facts x).length c6) (facts x) from HI.out.keeps0 KA)
        clear hk hv KA d0 d1 d2 d3 hbx
        generalize w6.alloc (.cells #[.int .i64 0, .int .i64 0] 29) = w7 at HQ H7 K7 HT7 HB7 HP7 HI7 ⊢
        generalize w6.heap.size = b7 at H7 ⊢
        obtain ⟨p0, p1, z0, z1, hl5⟩ := pair_cells H7.out
        have hqt : intsP (p.take k) = (intsP p).take k := by unfold intsP; rw [List.map_take]
        have HPT := Lib.hid (show Ints w7 (.slice ap k cp) (intsP (p.take k)) by
          rw [hqt]; exact Ints.take (show Ints w7 (.slice ap p.length cp) (intsP p) from HP7.out) (by rw [HIPL.out]; exact hkp))
        have hkc : k ≤ cp := Nat.le_trans hkp hcp
        clear hqt
        go_wp2_with fail
        refine (ints_any _ _ _ _ _ HQ.out HPT.out).mono ?_; rintro e w8 ⟨rfl, hk⟩
        rw [show (intsP (p.take k) == intsP (p.take k)) = true from beq_self_eq_true _]
        have K8 := Lib.hid (K7.out.trans hk)
        have HT8 := Lib.hid (HT7.out.keeps0 hk); have HB8 := Lib.hid (HB7.out.keeps0 hk); have HP8 := Lib.hid (HP7.out.keeps0 hk)
        have HI8 := Lib.hid (show Ints _ (.slice a6 (facts x).length c6) (facts x) from HI7.out.keeps0 hk)
        clear hk p0 p1 z0 z1 hl5
        by_cases hkl : k < p.length
        · obtain ⟨j, o, hj, ho, hcan, hnx⟩ := run_next HPF.out HR.out hkl
          obtain ⟨op, hop, hword⟩ : ∃ op, t.ops[j]? = some op ∧ op.word = o := by
            unfold wordsOf at ho
            rw [List.getElem?_map] at ho
            cases h : t.ops[j]? with
            | none => rw [h] at ho; cases ho
            | some op => rw [h] at ho; cases ho; exact ⟨op, rfl, rfl⟩
          subst hword
          have hjl := (List.getElem?_eq_some_iff.1 hop).1
          obtain ⟨hap, haf, hgn⟩ := good_next (by have := OK.out.n1; omega) (OK.out.ops op (List.mem_of_getElem? hop)) HG.out
          rw [hcan] at hap
          have HAP := Lib.hid hap; have HAF := Lib.hid haf; have HGN := Lib.hid hgn; have HOP := Lib.hid hop; have HNX := Lib.hid hnx; have HJ := Lib.hid hj
          obtain ⟨bp, op', rfl, hpc⟩ := HCL.out (by rw [HIPL.out]; omega)
          have HPC := Lib.hid (hpc k (j : Int) (by unfold intsP; rw [List.getElem?_map, hj]; rfl))
          clear hj ho hcan hnx hop hap haf hgn hpc
          have hbx := HB8.out.lt
          obtain ⟨d0, d1, d2, d3⟩ := HB8.out
          have hpk := K8.out.cell HPC.out (fun h => h)
          have hin := inB_yes (show (0 : Int) ≤ (j : Int) by omega) (show (j : Int) ≤ (t.ops.length : Int) - 1 by omega)
          have HIN := Lib.hid hin
          have hs : IntKind.i64.wrap ((t.ops.length : Int) - 1) = (t.ops.length : Int) - 1 := IntWalk.i64_in _ (by omega)
          have i0 : (0 : Int) ≤ (k : Int) := by omega
          have i1 : (k : Int) < (p.length : Int) := by omega
          clear hin
          go_upto_region 14 with fail
          go_still_tail 17, (by kernel_rfl)
          still_call (in_true _ _ _ _ HIN.out)
          repeat still_step
          refine wpStill_nil ?_
          change wpList _ _ _ _ _ w8.drew
          have KD := (Keeps.refl (fun _ => False) w8).drew
          have HT9 := Lib.hid (HT8.out.keeps0 KD); have HB9 := Lib.hid (HB8.out.keeps0 KD); have HP9 := Lib.hid (HP8.out.keeps0 KD); have K9 := Lib.hid (K8.out.trans KD)
          have HI9 := Lib.hid (show Ints _ (.slice a6 (facts x).length c6) (facts x) from HI8.out.keeps0 KD)
          clear KD hpk d0 d1 d2 d3 hbx
          generalize w8.drew = w9 at HT9 HB9 HP9 K9 HI9 ⊢
          go_wp2_with fail
          refine (applies_any _ _ _ _ _ t (facts x) j op HT9.out HI9.out HOP.out).mono ?_; rintro e w10 ⟨rfl, hk⟩
          rw [HAP.out]
          have K10 := Lib.hid (K9.out.trans hk)
          have HT10 := Lib.hid (HT9.out.keeps0 hk); have HB10 := Lib.hid (HB9.out.keeps0 hk)
          have HI10 := Lib.hid (show Ints _ (.slice a6 (facts x).length c6) (facts x) from HI9.out.keeps0 hk)
          have hbx := HB10.out.lt
          obtain ⟨d0, d1, d2, d3⟩ := HB10.out
          have hpk := K10.out.cell HPC.out (fun h => h)
          clear hk
          go_upto_region 16 with fail
          go_still_tail 6, (by kernel_rfl)
          change wpList _ _ _ _ _ w10.drew
          have KD := (Keeps.refl (fun _ => False) w10).drew
          have HT11 := Lib.hid (HT10.out.keeps0 KD); have K11 := Lib.hid (K10.out.trans KD)
          have HI11 := Lib.hid (show Ints _ (.slice a6 (facts x).length c6) (facts x) from HI10.out.keeps0 KD)
          clear KD hpk d0 d1 d2 d3 hbx
          generalize w10.drew = w11 at HT11 K11 HI11 ⊢
          go_wp2_with fail
          refine (after_any _ _ _ _ _ t (facts x) j op HT11.out HI11.out HOP.out OK.out.n0 (by have := OK.out.n1; omega)).mono ?_; rintro e w12 ⟨vn, rfl, hown, hk⟩
          rw [HAF.out] at hown
          have HN := Lib.hid (show Ints w12 vn (facts (op.word.next x)) from Sl.of_own hown |> fun h => by simpa [Ints] using h)
          have K12 := Lib.hid (K11.out.trans hk)
          obtain ⟨an, cn, hvn⟩ := ownsRow_form1 hown
          subst hvn
          clear hown hk
          go_wp2_with fail
          go_roundw
          case rel => exact ⟨k + 1, op.word.next x, by go_num, by omega, HGN.out, HN.out, fun _ => HNX.out, K12.out⟩
          case measure => simp [intOf]; omega
        · go_wp2_with fail
          go_roundw
          case rel => exact ⟨k + 1, x, by go_num, by omega, HG.out, HI8.out, fun h => absurd h (by omega), K8.out⟩
          case measure => simp [intOf]; omega
      · go_wp2_with fail
        go_ret
        exact ⟨rfl, K5.out.trans KW.out⟩

end Go.Proofs.Ytcfcmmajlkkabaa
