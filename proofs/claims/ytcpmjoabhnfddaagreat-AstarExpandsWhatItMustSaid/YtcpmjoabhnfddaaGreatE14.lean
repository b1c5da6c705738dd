/- AstarExpandsWhatItMust walked. No condition beyond what each theorem says. -/
import Derived.Test.YtcpmjoabhnfddaaGreatE13

namespace Go.Proofs.YtcpmjoabhnfddaaGreat
open Go.RowKit Go.Shelf

/-! ### plain -/
/-- Along a run, the value falls by no more than the run costs. -/
theorem falls_run {t : Tsk} (ok : t.Ok) {l : List Nat} (hx : explored t = some l) {H : Nat → Int} (hf : ∀ (o : Opr) (x : Nat), o ∈ t.ops → x ∈ l → o.word.can x = true → H x ≤ o.cost + H (o.word.next x)) :
    ∀ (p : List Nat) (x y : Nat), x ∈ l → runOps (wordsOf t.ops) x p = some y → H x ≤ costN (wordsOf t.ops) p + H y
  | [], x, y, _, h => by cases h; simp [costN]
  | a :: p, x, y, hxl, h => by
    rw [runOps] at h
    cases ho : (wordsOf t.ops)[a]? with
    | none => rw [ho] at h; cases h
    | some w =>
      rw [ho] at h
      simp only at h
      obtain ⟨o, ho', rfl⟩ : ∃ o, t.ops[a]? = some o ∧ o.word = w := by
        unfold wordsOf at ho
        rw [List.getElem?_map] at ho
        cases h2 : t.ops[a]? with
        | none => rw [h2] at ho; cases ho
        | some o => rw [h2] at ho; cases ho; exact ⟨o, rfl, rfl⟩
      split at h
      · rename_i hc
        have hm := List.mem_of_getElem? ho'
        have hsh := (costs_need ok hx (List.Perm.refl l)).2.2.2.1
        have hn : o.word.next x ∈ l := hsh.2 x hxl o.word (List.mem_of_getElem? ho) hc
        have h1 := hf o x hm hxl hc
        have h2 := falls_run ok hx hf p _ y hn h
        rw [costN, ho]
        simp only [Option.map_some, Option.getD_some]
        have h3 : o.word.cost = o.cost := rfl
        omega
      · cases h
/-- The values of the kinds but Cuts fall by no more than an operator costs. -/
theorem kind_falls {t : Tsk} (ok : t.Ok) {l : List Nat} (hx : explored t = some l) {k : Int} (hk : admK k = true) (h4 : k ≠ 4) : ∀ (o : Opr) (x : Nat), o ∈ t.ops → x ∈ l → o.word.can x = true → kindH t k x ≤ o.cost + kindH t k (o.word.next x) := by
  intro o x ho hxl hc
  unfold admK at hk
  rcases of_decide_eq_true hk with rfl | rfl | rfl | rfl
  · show (0 : Int) ≤ o.cost + 0
    have := (ok.ops o ho).cost0; omega
  · exact max_falls ok ho hc
  · exact absurd rfl h4
  · exact pairs_falls ok ho (good_explored ok hx x hxl) hc

def cntF (f : Nat → Bool) (L : List Nat) (j : Nat) : Nat := ((L.take j).filter f).length
theorem cntF_step {f : Nat → Bool} {L : List Nat} {j x : Nat} (h : L[j]? = some x) : cntF f L (j + 1) = cntF f L j + (if f x = true then 1 else 0) := by
  unfold cntF
  rw [take_getS h, List.filter_append, List.length_append]
  by_cases hf : f x = true
  · rw [if_pos hf]; simp [hf]
  · rw [if_neg hf]; simp [hf]
theorem cntF_le (f : Nat → Bool) (L : List Nat) (j : Nat) : cntF f L j ≤ L.length := Nat.le_trans (List.length_filter_le _ _) (by rw [List.length_take]; omega)
/-- The number of expanded states lies between those of the states that are worth less, respectively not more, than the plan. -/
theorem expands_what {t : Tsk} (ok : t.Ok) {l l' : List Nat} (hx : explored t = some l) {ws us : List Nat} (hw : ws.Perm l) (hu : us.Perm l) {k : Int} (hk : admK k = true) (h4 : k ≠ 4) {b : Int} (hs : stepsB b ≤ 60) {lp : List Int} {c n m : Int} (hg : BPlanG t l' b true lp c m) {q : List Nat} (hq : lp = intsP q) {D : Nat → Bool} (hn : n = ((us.filter D).length : Int)) (he : ExpOk (wordsOf t.ops) us (wd t.init) (kindH t k) (wayN 4096 1 (wordsOf t.ops) q) D)
    {P : Nat → Int} (hP : ∀ x ∈ ws, (∃ r, runOps (wordsOf t.ops) (wd t.init) r = some x ∧ costN (wordsOf t.ops) r = P x) ∧ ∀ r, runOps (wordsOf t.ops) (wd t.init) r = some x → P x ≤ costN (wordsOf t.ops) r) :
    ((cntF (fun x => decide (P x + kindH t k x < c)) ws ws.length : Nat) : Int) ≤ n ∧ n ≤ ((cntF (fun x => decide (P x + kindH t k x ≤ c)) ws ws.length : Nat) : Int) := by
  obtain ⟨_, _, _, hsh, hfew, _, _, hin⟩ := costs_need ok hx (List.Perm.refl l)
  have h0 := ops_cost ok
  have hneg : 0 ≤ b := by
    refine Classical.byContradiction fun h => ?_
    have := (hg.none_ (by omega)).1
    cases this
  obtain ⟨_, q', y, hq', hr, ha, hl, hc, rfl⟩ := hg.some_ hneg
  have hqq : q = q' := by
    rw [hq] at hq'
    have h := congrArg (List.map Int.toNat) hq'
    unfold intsP at h
    simpa [List.map_map, Function.comp_def] using h
  subst hqq
  have hlq : (q.length : Int) ≤ 60 := by
    unfold stepsB at hs
    rw [if_neg (by omega)] at hs; omega
  have hcq : costL t lp = costN (wordsOf t.ops) q := by rw [hq, costL_is]
  have hwq := wayN_split (wordsOf t.ops) q
  have hr2 := (reached_some (ops := wordsOf t.ops) (s := wd t.init) (l := l) hx).2.2.2
  have hcl : ∀ p y, runOps (wordsOf t.ops) (wd t.init) p = some y → y ∈ l := fun p y h => (hr2 y).2 (reach_run p ((hr2 _).1 hin) h)
  have hnw : ws.Nodup := hw.nodup_iff.2 hsh.1
  have hnu : us.Nodup := hu.nodup_iff.2 hsh.1
  unfold cntF
  rw [List.take_length]
  rw [hcq, hn]
  constructor
  · have := nodup_sub_length (a := ws.filter fun x => decide (P x + kindH t k x < costN (wordsOf t.ops) q)) (b := us.filter D) (hnw.filter _) (fun x hxm => by
      obtain ⟨h1, h2⟩ := List.mem_filter.1 hxm
      have h2' : P x + kindH t k x < costN (wordsOf t.ops) q := of_decide_eq_true h2
      obtain ⟨⟨r, hr1, hrc⟩, _⟩ := hP x h1
      obtain ⟨r', g1, g2, g3⟩ := short_run h0 hcl r.length (Nat.le_refl _) hr1
      refine List.mem_filter.2 ⟨hu.mem_iff.2 (hw.mem_iff.1 h1), he.2 r' x g1 (fun i z hi hz => ?_)⟩
      obtain ⟨z', e1, e2⟩ := run_cut g1 i
      rw [hz] at e1; cases e1
      have h3 := falls_run ok hx (kind_falls ok hx hk h4) _ z x (hcl _ _ hz) e2
      have h5 : costN (wordsOf t.ops) r' = costN (wordsOf t.ops) (r'.take i) + costN (wordsOf t.ops) (r'.drop i) := by rw [← costN_append, List.take_append_drop]
      have h6 := wayN_split (wordsOf t.ops) (r'.take i)
      have h7 : (r'.take i).length ≤ 2000 := by rw [List.length_take]; omega
      omega)
    omega
  · have := nodup_sub_length (a := us.filter D) (b := ws.filter fun x => decide (P x + kindH t k x ≤ costN (wordsOf t.ops) q)) (hnu.filter _) (fun x hxm => by
      obtain ⟨h1, h2⟩ := List.mem_filter.1 hxm
      obtain ⟨r, h3, h5⟩ := he.1 x h1 h2
      have hxw := hw.mem_iff.2 (hu.mem_iff.1 h1)
      have h6 := (hP x hxw).2 r h3
      have h7 := wayN_split (wordsOf t.ops) r
      refine List.mem_filter.2 ⟨hxw, decide_eq_true ?_⟩
      omega)
    omega
/-- A row over a list without repetitions, as a function. -/
theorem fn_of_row {ws : List Nat} {d : List Int} (hnd : ws.Nodup) (hl : d.length = ws.length) : ∃ P : Nat → Int, ∀ (i x : Nat), ws[i]? = some x → d[i]? = some (P x) := by
  refine ⟨fun x => match ws.findIdx? (fun z => z == x) with | some i => d[i]?.getD 0 | none => 0, fun i x hi => ?_⟩
  have hf : ws.findIdx? (fun z => z == x) = some i := by
    cases hf : ws.findIdx? (fun z => z == x) with
    | none =>
      rw [List.findIdx?_eq_none_iff] at hf
      have := hf x (List.mem_of_getElem? hi)
      simp at this
    | some j =>
      rw [List.findIdx?_eq_some_iff_getElem] at hf
      obtain ⟨hl, he, _⟩ := hf
      have hj : ws[j]? = some x := by rw [List.getElem?_eq_getElem hl]; simpa using he
      rw [nodup_ix hnd hj hi]
  dsimp only
  rw [hf]
  dsimp only
  obtain ⟨y, hy⟩ : ∃ y, d[i]? = some y := ⟨_, List.getElem?_eq_getElem (by rw [hl]; exact (List.getElem?_eq_some_iff.1 hi).1)⟩
  rw [hy]; rfl
/-- The prices with a weight of one are the least costs. -/
theorem prices_least {t : Tsk} (ok : t.Ok) {l ws : List Nat} (hx : explored t = some l) (hw : ws.Perm l) {i0 : Nat} (h0 : ws[i0]? = some (wd t.init)) {d : List Int} (h : PriOk (arcs (wordsOf t.ops) ws) (fun a => 1 * a.cost + 0) ws.length i0 d) {i x : Nat} {y : Int} (hi : ws[i]? = some x) (hd : d[i]? = some y) :
    0 ≤ y ∧ (∃ r, runOps (wordsOf t.ops) (wd t.init) r = some x ∧ costN (wordsOf t.ops) r = y) ∧ ∀ r, runOps (wordsOf t.ops) (wd t.init) r = some x → y ≤ costN (wordsOf t.ops) r := by
  obtain ⟨_, _, _, hsh, hfew, _, _, hin⟩ := costs_need ok hx hw
  have hA : ∀ a ∈ arcs (wordsOf t.ops) ws, 0 ≤ 1 * a.cost + 0 := fun a ha => by have := arcs_cost0 (ops_cost ok) a ha; omega
  have way : ∀ r, wayN 1 0 (wordsOf t.ops) r = costN (wordsOf t.ops) r := fun r => by unfold wayN; omega
  have hr2 := (reached_some (ops := wordsOf t.ops) (s := wd t.init) (l := l) hx).2.2.2
  have low := h.low hsh (fun x hxw => by
    obtain ⟨p, hp⟩ := reach_path ((hr2 x).1 (hw.mem_iff.1 hxw))
    exact ⟨p, hp⟩) h0 hA y (List.mem_of_getElem? hd)
  obtain ⟨p, z, hz, hp, hc⟩ := run_of_walk (h.real i y hd low) h0
  rw [hi] at hz; cases hz
  refine ⟨low, ⟨p, hp, by rw [← way, hc]⟩, fun r hr => ?_⟩
  obtain ⟨j, hj, hwk⟩ := walk_of_run hsh (k := 1) (st := 0) .nil h0 hr
  obtain rfl := nodup_ix hsh.1 hj hi
  obtain ⟨_, v, hv, _, hle⟩ := h.walk hA hwk
  rw [hd] at hv; cases hv
  rw [way] at hle
  omega

set_option maxRecDepth 100000 in
set_option maxHeartbeats 4000000 in
theorem expandsLaw_any (w : World) (vi vg vo : Value) (t : Tsk) (k : Int) (h : TaskAt w vi vg vo t) :
    Calls Tryz.prog 8 #[.agg #[.int .i64 t.n, vi, vg, vo], .int .i64 k] w fun e w' => e = .returned (.bool true) ∧ Keeps (fun _ => False) w w' := by
  obtain ⟨ai, ci, h1, _⟩ := h.init.form
  obtain ⟨ag, cg, h2, _⟩ := h.goal.form
  obtain ⟨ao, co, h3, hmo⟩ := h.ops.form
  subst h1 h2 h3
  have HB := Lib.hid (Four.new w (.int .i64 t.n) (.slice ai t.init.length ci) (.slice ag t.goal.length cg) (.slice ao t.ops.length co) 25)
  have K1 := (Keeps.refl (fun _ => False) w).alloc (.cells #[.int .i64 t.n, .slice ai t.init.length ci, .slice ag t.goal.length cg, .slice ao t.ops.length co] 25)
  have HT := Lib.hid (h.keeps0 K1); have HK := Lib.hid K1
  clear h K1
  go_enter Tryz.func8, Tryz.ntmps8
  go_upto_region 1 with fail
  generalize (w.alloc (.cells #[.int .i64 t.n, .slice ai t.init.length ci, .slice ag t.goal.length cg, .slice ao t.ops.length co] 25)) = w1 at HB HT HK ⊢
  generalize w.heap.size = bt at HB ⊢
  go_wp2_with fail
  refine (astarExample_any _).mono ?_; rintro e w2 ⟨rfl, hk⟩
  have HB0 := Lib.hid (HB.out.keeps0 hk); have HT0 := Lib.hid (HT.out.keeps0 hk); have HK0 := Lib.hid (HK.out.trans hk)
  clear HB HT HK hk
  have hbxd := HB0.out.lt
  obtain ⟨d0, d1, d2, d3⟩ := HB0.out
  go_wp2_with fail
  refine (wide_any _ _ _ _ t HT0.out).mono ?_; rintro e w3 ⟨rfl, hk⟩
  have HB1 := Lib.hid (HB0.out.keeps0 hk); have HT1 := Lib.hid (HT0.out.keeps0 hk); have HK1 := Lib.hid (HK0.out.trans hk)
  clear hbxd d0 d1 d2 d3 HB0 HT0 HK0 hk
  cases hwd : wideB t with
  | true =>
    go_wp2_with fail
    go_ret
    exact ⟨rfl, HK1.out⟩
  | false =>
  clear hwd
  cases hk4 : (k == 4) with
  | true =>
    go_wp2_with fail
    go_ret
    exact ⟨rfl, HK1.out⟩
  | false =>
    have HK4 := Lib.hid (show k ≠ 4 by simpa using hk4)
    have hbxd := HB1.out.lt
    obtain ⟨d0, d1, d2, d3⟩ := HB1.out
    go_wp2_with fail
    refine (aplanK_any _ _ _ _ t k HT1.out).mono ?_; rintro e w4 ⟨hk, fnd, vp, lp, c, n, fcx, fix, rfl, hi, hr, hae⟩
    obtain ⟨ap, cp, hvp, _⟩ := hi.form
    subst hvp
    have HIS := Lib.hid hr; have HAE := Lib.hid hae
    clear hr hae hbxd d0 d1 d2 d3 hk4
    simp only [resV, fltV]
    have KA := (Keeps.refl (fun _ => False) w4).alloc (.cells #[.bool fnd, .slice ap lp.length cp, .int .i64 c, .int .i64 n] 29)
    have KB := (Keeps.refl (fun _ => False) (w4.alloc (.cells #[.bool fnd, .slice ap lp.length cp, .int .i64 c, .int .i64 n] 29))).alloc (.cells #[.int .i64 fcx, .int .i64 fix] 31)
    have KC := hk.trans (KA.trans KB)
    have HB2 := Lib.hid (HB1.out.keeps0 KC); have HT2 := Lib.hid (HT1.out.keeps0 KC); have HK2 := Lib.hid (HK1.out.trans KC)
    have HR := Lib.hid (KB.heap (heap_alloc_new w4 (.cells #[.bool fnd, .slice ap lp.length cp, .int .i64 c, .int .i64 n] 29)) (fun h => h))
    have hf := heap_alloc_new (w4.alloc (.cells #[.bool fnd, .slice ap lp.length cp, .int .i64 c, .int .i64 n] 29)) (.cells #[.int .i64 fcx, .int .i64 fix] 31)
    rw [World.size_alloc] at hf
    have HF := Lib.hid (hf)
    clear HB1 HT1 HK1 hk KA KB KC hf hi
    go_upto_region 6 with fail
    generalize (w4.alloc (.cells #[.bool fnd, .slice ap lp.length cp, .int .i64 c, .int .i64 n] 29)).alloc (.cells #[.int .i64 fcx, .int .i64 fix] 31) = w5 at HB2 HT2 HK2 HR HF ⊢
    generalize w4.heap.size = b4 at HR HF ⊢
    have hbxd := HB2.out.lt
    obtain ⟨d0, d1, d2, d3⟩ := HB2.out
    go_wp2_with fail
    refine (avalsK_any _ _ _ _ t k HT2.out).mono ?_; rintro e w6 ⟨hk, vv, lv, fcy, fiy, rfl, hv⟩
    obtain ⟨av, nv, cv, rfl, rfl⟩ := valsIs_form hv
    clear hbxd d0 d1 d2 d3
    simp only [fltV]
    have KA := (Keeps.refl (fun _ => False) w6).alloc (.cells #[.int .i64 fcy, .int .i64 fiy] 31)
    have KC := hk.trans KA
    have HB3 := Lib.hid (HB2.out.keeps0 KC); have HT3 := Lib.hid (HT2.out.keeps0 KC); have HK3 := Lib.hid (HK2.out.trans KC)
    have HR3 := Lib.hid (KC.heap HR.out (fun h => h)); have HF3 := Lib.hid (KC.heap HF.out (fun h => h))
    have HV3 := Lib.hid (show ValsIs t k (w6.alloc (.cells #[.int .i64 fcy, .int .i64 fiy] 31)) (.slice av nv cv) nv fcy fiy from by
      rcases hv with h | ⟨h1, h2, h3, h4, h5, l, ws, h6, h7, h8, h9⟩
      · exact .inl h
      · exact .inr ⟨h1, h2, h3, h4, h5, l, ws, h6, h7, h8, h9.keeps0 KA⟩)
    have HFy := Lib.hid (heap_alloc_new w6 (.cells #[.int .i64 fcy, .int .i64 fiy] 31))
    clear HB2 HT2 HK2 HR HF hk KA KC hv
    go_upto_region 7 with fail
    generalize (w6.alloc (.cells #[.int .i64 fcy, .int .i64 fiy] 31)) = w7 at HB3 HT3 HK3 HR3 HF3 HV3 HFy ⊢
    generalize w6.heap.size = b6 at HFy ⊢
    obtain ⟨r0, r1, r2, r3, rl⟩ := quad_cells HR3.out
    obtain ⟨f0, f1, _, _, fl⟩ := pair_cells HF3.out
    obtain ⟨g0, g1, _, _, gl⟩ := pair_cells HFy.out
    by_cases hfc : fcx = 0
    case neg =>
      have q1 : (fcx != 0) = true := by simpa using hfc
      clear hfc HV3
      go_wp2_with fail
      go_ret
      exact ⟨rfl, HK3.out⟩
    subst hfc
    rcases HV3.out with ⟨hc, _⟩ | ⟨rfl, rfl, hkk, hkf, hok, l, ws, hx, hws, hlv, hiv⟩
    · have q1 : (fcy != 0) = true := by simpa using hc
      clear hc HV3
      go_wp2_with fail
      go_ret
      exact ⟨rfl, HK3.out⟩
    cases fnd with
    | false =>
      clear HV3 hiv
      go_wp2_with fail
      go_ret
      exact ⟨rfl, HK3.out⟩
    | true =>
      have hn1 : nv = ws.length := by omega
      subst hn1
      have OK := Lib.hid hok; have HX := Lib.hid hx; have HWS := Lib.hid hws
      have HPL := Lib.hid (show admK k = true ∧ BPlanIs t true lp c n 0 fix from by
        rcases HIS.out with ⟨h1, h2⟩ | ⟨_, _, h3, _⟩
        · exact ⟨h1, h2⟩
        · exact absurd rfl h3)
      have HCV := Lib.hid (show ws.length > 0 → ∃ b o, av = some ⟨b, o, none⟩ ∧ ∀ (i : Nat) (x : Int), (ws.map (kindH t k))[i]? = some x → w7.cell? ⟨b, o + i, none⟩ = some (.int .i64 x) from fun h => by rw [← kindV_adm HPL.out.1]; exact hiv.cell (show Value.slice av ws.length cv = .slice av (ws.map (kindV t k)).length cv by rw [List.length_map]) (by rw [List.length_map]; exact h))
      have HHB := Lib.hid (show ∀ x ∈ ws, 0 ≤ kindH t k x ∧ kindH t k x ≤ 1000000000 from fun x hxw => by rw [← kindV_adm HPL.out.1]; exact (kindV_says hok hx k (hws.1.mem_iff.1 hxw)).1)
      have hfew : ws.length ≤ 2000 := (costs_need hok hx hws.1).2.2.2.2.1
      clear hkk hkf hok hx hws hlv hiv HV3 HIS
      have hbxd := HB3.out.lt
      obtain ⟨d0, d1, d2, d3⟩ := HB3.out
      go_wp2_with fail
      refine (states_any _ _ _ _ t HT3.out OK.out _ HX.out).mono ?_; rintro e wy ⟨hk, L, vL, hp, hs, rfl, hL⟩
      obtain rfl := WsOf.same OK.out HX.out HWS.out ⟨hp, hs⟩
      obtain ⟨aL, cL, hvL, _⟩ := hL.form
      rw [List.length_map] at hvL
      subst hvL
      have HKY := Lib.hid hk
      have HK5 := Lib.hid (HK3.out.trans hk); have HT5 := Lib.hid (HT3.out.keeps0 hk); have HB5 := Lib.hid (HB3.out.keeps0 hk)
      have HR5 := Lib.hid (hk.heap HR3.out (fun h => h))
      have HL5 := Lib.hid hL
      obtain ⟨hgd, ⟨i0, hi0, hpl0⟩, hrc, har⟩ := HWS.out.good OK.out HX.out
      have HGD := Lib.hid hgd; have HI0 := Lib.hid hi0; have HPL0 := Lib.hid hpl0; have HAR := Lib.hid har
      have hi0l : i0 < ws.length := (List.getElem?_eq_some_iff.1 hi0).1
      clear r0 r1 r2 r3 rl f0 f1 fl g0 g1 gl hbxd d0 d1 d2 d3 hk hp hs hL HK3 HT3 HB3 HR3 HF3 HFy hgd hi0 hpl0 hrc har
      go_upto_region 12 with fail
      have KD := (Keeps.refl (fun _ => False) wy).drew
      have HTD := Lib.hid (HT5.out.keeps0 KD); have HLD := Lib.hid (HL5.out.keeps0 KD); have HBD := Lib.hid (HB5.out.keeps0 KD)
      have HKD := Lib.hid KD
      have hbxd := HBD.out.lt
      obtain ⟨d0, d1, d2, d3⟩ := HBD.out
      clear KD
      go_region_held3 (fun w' => w'.cell? ⟨bt, 0, none⟩ = some (.int .i64 t.n) ∧ w'.cell? ⟨bt, 1, none⟩ = some (.slice ai t.init.length ci) ∧ w'.cell? ⟨bt, 2, none⟩ = some (.slice ag t.goal.length cg) ∧ w'.cell? ⟨bt, 3, none⟩ = some (.slice ao t.ops.length co))
        (go_keep)
        (first
          | (go_at_call 36; refine (arcs_any wy.drew _ _ _ _ t ws HTD.out OK.out HLD.out HGD.out hfew).mono ?_; rintro en wa ⟨va, rfl, hoa, hka⟩; have HXA := Lib.hid hka; have HOA := Lib.hid hoa.at; have ta0 := hka.cell d0 (fun h => h); have ta1 := hka.cell d1 (fun h => h); have ta2 := hka.cell d2 (fun h => h); have ta3 := hka.cell d3 (fun h => h); clear hka hoa)
          | (go_at_call 36; refine (arcs_any wp _ _ _ _ t ws (HTD.out.keeps0 HXP.out) OK.out (HLD.out.keeps0 HXP.out) HGD.out hfew).mono ?_; rintro en wc ⟨va, rfl, hoa, hka⟩; have HXC := Lib.hid (HXP.out.trans hka); have HOC := Lib.hid hoa.at; have tc0 := hka.cell tp0 (fun h => h); have tc1 := hka.cell tp1 (fun h => h); have tc2 := hka.cell tp2 (fun h => h); have tc3 := hka.cell tp3 (fun h => h); clear hka hoa)
          | (go_at_call 28; refine (place_any wy.drew _ _ (ws.map facts) t.init HLD.out HTD.out.init).mono ?_; rintro en wp ⟨rfl, hkp⟩; rw [HPL0.out]; have HXP := Lib.hid hkp; have tp0 := hkp.cell d0 (fun h => h); have tp1 := hkp.cell d1 (fun h => h); have tp2 := hkp.cell d2 (fun h => h); have tp3 := hkp.cell d3 (fun h => h); clear hkp)
          | (go_at_call 28; refine (place_any wa _ _ (ws.map facts) t.init (HLD.out.keeps0 HXA.out) (HTD.out.keeps0 HXA.out).init).mono ?_; rintro en wc ⟨rfl, hkp⟩; rw [HPL0.out]; have HXC := Lib.hid (HXA.out.trans hkp); have HOC := Lib.hid (HOA.out.keeps0 hkp); have tc0 := hkp.cell ta0 (fun h => h); have tc1 := hkp.cell ta1 (fun h => h); have tc2 := hkp.cell ta2 (fun h => h); have tc3 := hkp.cell ta3 (fun h => h); clear hkp)
          | (go_at_call 35; refine (prices_any wc _ _ (ws.map facts) (arcs (wordsOf t.ops) ws) i0 1 0 (HLD.out.keeps0 HXC.out) HOC.out (by rw [List.length_map]; omega) (by rw [List.length_map]; exact hi0l) (by rw [List.length_map]; exact HAR.out) (by decide) (by decide) (by decide) (by decide)).mono ?_; rintro en wz ⟨vp, d, rfl, hpo, hown, hkz⟩; rw [List.length_map] at hpo hown; have HPO := Lib.hid hpo; have HOW := Lib.hid hown; have HXZ := Lib.hid (HXC.out.trans hkz); have tz0 := hkz.cell tc0 (fun h => h); have tz1 := hkz.cell tc1 (fun h => h); have tz2 := hkz.cell tc2 (fun h => h); have tz3 := hkz.cell tc3 (fun h => h); clear hpo hown hkz))
      all_goals
        obtain ⟨ad, cd, hvd⟩ := ownsRow_form1 HOW.out
        subst hvd
        have hdl := HPO.out.len
        have HCD := Lib.hid ((Ints.of_own (l := d) (by rw [hdl]; exact HOW.out)).cell (show Value.slice ad ws.length cd = .slice ad d.length cd by rw [hdl]))
        have HKZ := Lib.hid (HKD.out.trans HXZ.out)
        have HR6 := Lib.hid (HKZ.out.heap HR5.out (fun h => h))
        have HK6 := Lib.hid (HK5.out.trans HKZ.out)
        have HPR := Lib.hid (show ∀ (i x : Nat) (y : Int), ws[i]? = some x → d[i]? = some y → 0 ≤ y ∧ (∃ r, runOps (wordsOf t.ops) (wd t.init) r = some x ∧ costN (wordsOf t.ops) r = y) ∧ ∀ r, runOps (wordsOf t.ops) (wd t.init) r = some x → y ≤ costN (wordsOf t.ops) r from fun i x y h1 h2 => prices_least OK.out HX.out HWS.out.1 HI0.out HPO.out h1 h2)
        have HPB := Lib.hid (show ∀ y ∈ d, y ≤ 200000 from fun y hy => by
          obtain ⟨i, hi⟩ := List.mem_iff_getElem?.1 hy
          obtain ⟨x, hxi⟩ : ∃ x, ws[i]? = some x := ⟨_, List.getElem?_eq_getElem (by rw [← hdl]; exact (List.getElem?_eq_some_iff.1 hi).1)⟩
          obtain ⟨_, ⟨r, hr, _⟩, hle⟩ := HPR.out i x y hxi hi
          have hin := (costs_need OK.out HX.out HWS.out.1).2.2.2.2.2.2.2
          have hr2 := (reached_some (ops := wordsOf t.ops) (s := wd t.init) (l := l) HX.out).2.2.2
          obtain ⟨q, h1, h2, h3⟩ := short_run (L := ws) (ops_cost OK.out) (fun p y h => HWS.out.1.mem_iff.2 ((hr2 y).2 (reach_run p ((hr2 _).1 (HWS.out.1.mem_iff.1 hin)) h))) r.length (Nat.le_refl _) hr
          have := hle q h1
          have := (costN_bound (ops_cost OK.out) q).2
          omega)
        obtain ⟨P, hP⟩ := fn_of_row (costs_need OK.out HX.out HWS.out.1).2.2.2.1.1 hdl
        have HPP := Lib.hid hP
        have HFIN := Lib.hid (show ((cntF (fun x => decide (P x + kindH t k x < c)) ws ws.length : Nat) : Int) ≤ n ∧ n ≤ ((cntF (fun x => decide (P x + kindH t k x ≤ c)) ws ws.length : Nat) : Int) from by
          obtain ⟨l2, us, D, q, h1, h2, h3, h4, h5⟩ := HAE.out rfl
          rw [HX.out] at h1; cases h1
          rcases HPL.out.2 with ⟨h6, _⟩ | ⟨_, _, l3, b, h7, h8, h9⟩
          · exact absurd rfl h6
          rcases h9 with ⟨_, h10, _⟩ | ⟨h10, _, _, h11⟩
          · omega
          refine expands_what OK.out HX.out HWS.out.1 h2 HPL.out.1 HK4.out h10 h11 h4 h3 h5 (fun x hxw => ?_)
          obtain ⟨i, hi⟩ := List.mem_iff_getElem?.1 hxw
          exact (HPR.out i x (P x) hi (hP i x hi)).2)
        clear hP hdl hbxd d0 d1 d2 d3 HPO HOW HXZ HAE HPL
        go_wp2_with fail
        go_loopw [12, 13, 14] (fun v12 v13 v14 wr => ∃ i : Nat, i ≤ ws.length ∧ v14 = .int .i64 (i : Int) ∧ v12 = .int .i64 (cntF (fun x => decide (P x + kindH t k x < c)) ws i : Nat) ∧ v13 = .int .i64 (cntF (fun x => decide (P x + kindH t k x ≤ c)) ws i : Nat) ∧ Keeps (fun _ => False) wz wr) (fun _ _ v14 _ => ws.length - (intOf v14).toNat)
        case atStart => exact ⟨0, Nat.zero_le _, rfl, rfl, rfl, Keeps.refl _ _⟩
        case round =>
          obtain ⟨i, hi, rfl, rfl, rfl, hkr⟩ := hrel
          have HKR := Lib.hid hkr
          clear hkr
          by_cases hlt : i < ws.length
          · obtain ⟨x, hx⟩ : ∃ x, ws[i]? = some x := ⟨_, List.getElem?_eq_getElem hlt⟩
            have hpd := HPP.out i x hx
            obtain ⟨bv, ov, rfl, hcv⟩ := HCV.out (by omega)
            obtain ⟨bd, od, rfl, hcd⟩ := HCD.out (by have := (List.getElem?_eq_some_iff.1 hpd).1; omega)
            have cv0 := ((HKY.out.trans HKZ.out).trans HKR.out).cell (hcv i (kindH t k x) (by rw [List.getElem?_map, hx]; rfl)) (fun h => h)
            have cd0 := HKR.out.cell (hcd i (P x) hpd) (fun h => h)
            have HRr := Lib.hid (HKR.out.heap HR6.out (fun h => h))
            obtain ⟨r0, r1, r2, r3, rl⟩ := quad_cells HRr.out
            clear r0 r1 r3
            have hS1 := Lib.hid (show cntF (fun x => decide (P x + kindH t k x < c)) ws (i + 1) = cntF (fun x => decide (P x + kindH t k x < c)) ws i + (if decide (P x + kindH t k x < c) = true then 1 else 0) from cntF_step hx)
            have hS2 := Lib.hid (show cntF (fun x => decide (P x + kindH t k x ≤ c)) ws (i + 1) = cntF (fun x => decide (P x + kindH t k x ≤ c)) ws i + (if decide (P x + kindH t k x ≤ c) = true then 1 else 0) from cntF_step hx)
            have hc1 := cntF_le (fun x => decide (P x + kindH t k x < c)) ws i
            have hc2 := cntF_le (fun x => decide (P x + kindH t k x ≤ c)) ws i
            have hHx := HHB.out x (List.mem_of_getElem? hx)
            have hPx := HPB.out (P x) (List.mem_of_getElem? hpd)
            have hPl := (HPR.out i x (P x) hx hpd).1
            have i0' : (0 : Int) ≤ (i : Int) := by omega
            have i1' : (i : Int) < (ws.length : Int) := by omega
            clear hx hpd hcv hcd
            generalize cntF (fun x => decide (P x + kindH t k x < c)) ws i = m1 at hc1 hS1 ⊢
            generalize cntF (fun x => decide (P x + kindH t k x ≤ c)) ws i = m2 at hc2 hS2 ⊢
            generalize kindH t k x = hv at cv0 hHx hS1 hS2
            generalize P x = p at cd0 hPx hPl hS1 hS2
            have hwr : IntKind.i64.wrap (p + hv) = p + hv := IntWalk.i64_in _ (by omega)
            go_upto_region 18 with fail
            go_quiet (fail)
            have KW1 := (Keeps.refl (fun _ => False) wr).drewN nq
            have cv1 := KW1.cell cv0 (fun h => h); have cd1 := KW1.cell cd0 (fun h => h); have r21 := KW1.cell r2 (fun h => h)
            have rl1 := Nat.lt_of_lt_of_le rl KW1.size
            have HKR1 := Lib.hid (HKR.out.trans KW1)
            clear cv0 cd0 r2 rl KW1 HRr
            generalize wr.drewN nq = w20 at cv1 cd1 r21 rl1 HKR1 ⊢
            by_cases hA : p + hv < c
            · have hd1 : decide (p + hv < c) = true := by simpa using hA
              have hd2 : decide (p + hv ≤ c) = true := by simp; omega
              rw [hd1, if_pos rfl] at hS1
              rw [hd2, if_pos rfl] at hS2
              go_wp2_with fail
              go_quiet (fail)
              have KW2 := (Keeps.refl (fun _ => False) w20).drewN nq
              have HKR2 := Lib.hid (HKR1.out.trans KW2)
              generalize w20.drewN nq = w21 at HKR2 ⊢
              clear cv1 cd1 r21 rl1 KW2
              go_wp2_with fail
              go_roundw
              case rel => exact ⟨i + 1, by omega, by go_num, by rw [hS1.out]; go_num, by rw [hS2.out]; go_num, HKR2.out⟩
              case measure => simp only [intOf]; omega
            · have hd1 : decide (p + hv < c) = false := by simpa using hA
              rw [hd1, if_neg (by decide)] at hS1
              by_cases hB : p + hv ≤ c
              · have hd2 : decide (p + hv ≤ c) = true := by simpa using hB
                rw [hd2, if_pos rfl] at hS2
                go_wp2_with fail
                go_quiet (fail)
                have KW2 := (Keeps.refl (fun _ => False) w20).drewN nq
                have HKR2 := Lib.hid (HKR1.out.trans KW2)
                generalize w20.drewN nq = w21 at HKR2 ⊢
                clear cv1 cd1 r21 rl1 KW2
                go_wp2_with fail
                go_roundw
                case rel => exact ⟨i + 1, by omega, by go_num, by rw [hS1.out]; rfl, by rw [hS2.out]; go_num, HKR2.out⟩
                case measure => simp only [intOf]; omega
              · have hd2 : decide (p + hv ≤ c) = false := by simpa using hB
                rw [hd2, if_neg (by decide)] at hS2
                go_wp2_with fail
                go_quiet (fail)
                have KW2 := (Keeps.refl (fun _ => False) w20).drewN nq
                have HKR2 := Lib.hid (HKR1.out.trans KW2)
                generalize w20.drewN nq = w21 at HKR2 ⊢
                clear cv1 cd1 r21 rl1 KW2
                go_wp2_with fail
                go_roundw
                case rel => exact ⟨i + 1, by omega, by go_num, by rw [hS1.out]; rfl, by rw [hS2.out]; rfl, HKR2.out⟩
                case measure => simp only [intOf]; omega
          · have hie : i = ws.length := by omega
            subst hie
            have HRr := Lib.hid (HKR.out.heap HR6.out (fun h => h))
            obtain ⟨r0, r1, r2, r3, rl⟩ := quad_cells HRr.out
            obtain ⟨e1, e2⟩ := HFIN.out
            clear r0 r1 r2
            generalize cntF (fun x => decide (P x + kindH t k x < c)) ws ws.length = m1 at e1 ⊢
            generalize cntF (fun x => decide (P x + kindH t k x ≤ c)) ws ws.length = m2 at e2 ⊢
            have q1 : decide ((m1 : Int) ≤ n) = true := by simpa using e1
            have q2 : decide (n ≤ (m2 : Int)) = true := by simpa using e2
            go_wp2_with fail
            go_ret
            exact ⟨rfl, HK6.out.trans HKR.out⟩

end Go.Proofs.YtcpmjoabhnfddaaGreat
