/- AstarKindsAgree walked. No condition beyond what each theorem says. -/
import Derived.Test.YtcpmjoabhnfddaaGreatD13
import Derived.Test.YtcpmjoabhnfddaaGreatD7

namespace Go.Proofs.YtcpmjoabhnfddaaGreat
open Go.RowKit Go.Shelf

/-- A search for best plans and the table of costs. -/
theorem agreeOpt {t : Tsk} (ok : t.Ok) {l ws : List Nat} (hx : explored t = some l) (hp : ws.Perm l) {D : Nat → Int} (hD : CostOk (arcs (wordsOf t.ops) ws) (ws.map (goalB (wd t.goal))) (ws.map D)) {l' : List Nat} {b : Int} (hb : BestT t b) {fnd : Bool} {lp : List Int} {c n : Int} (hg : BPlanG t l' b fnd lp c n) (hs : stepsB b ≤ 60) :
    fnd = decide (D (wd t.init) < 1000000000) ∧ (fnd = true → c = D (wd t.init)) := by
  obtain ⟨_, _, _, hsh, hfew, _, _, hin⟩ := costs_need ok hx hp
  have h0 := ops_cost ok
  have hbig : bigC = 1000000000 := rfl
  by_cases hneg : b < 0
  · obtain ⟨rfl, _, _⟩ := hg.none_ hneg
    refine ⟨?_, fun h => by cases h⟩
    symm
    rw [decide_eq_false_iff_not]
    intro hlt
    obtain ⟨q, y, hq, hy⟩ := opt_some hD hin (by omega)
    rcases hb with ⟨_, h2⟩ | ⟨h2, _⟩
    · rw [h2 q y hq] at hy; cases hy
    · omega
  · obtain ⟨rfl, q, y, rfl, hr, ha, hl, hc, rfl⟩ := hg.some_ (by omega)
    have hr2 := (reached_some (ops := wordsOf t.ops) (s := wd t.init) (l := l) hx).2.2.2
    have hcl : ∀ p y, runOps (wordsOf t.ops) (wd t.init) p = some y → y ∈ ws := fun p y h => hp.mem_iff.2 ((hr2 y).2 (reach_run p ((hr2 _).1 (hp.mem_iff.1 hin)) h))
    have hmin : ∀ p z, runOps (wordsOf t.ops) (wd t.init) p = some z → goalB (wd t.goal) z = true → costN (wordsOf t.ops) q ≤ costN (wordsOf t.ops) p := fun p z hpz hz => by
      obtain ⟨q', h1, h2, h3⟩ := short_run h0 hcl p.length (Nat.le_refl _) hpz
      rcases hb with ⟨h4, _⟩ | ⟨_, _, h4⟩
      · omega
      · have h5 := h4 q' z h1 hz
        rw [wayN_split] at h5
        omega
    have hsb : stepsB b = b % 4096 := by unfold stepsB; rw [if_neg hneg]
    have e := opt_is hsh h0 hD hin hr ha (by omega) hmin
    have hbd := costN_bound h0 q
    rw [costL_is]
    exact ⟨by symm; rw [decide_eq_true_iff]; omega, fun _ => e.symm⟩

theorem kinds_cases {t : Tsk} {a b fx fy : Bool} {px py : List Int} {cx cy nx ny fcx fix fcy fiy nn c3 : Int} (hx : PlanIsK t a fx px cx nx fcx fix) (hy : PlanIsK t b fy py cy ny fcy fiy)
    (ho : ((expF t).1 ≠ 0 ∧ c3 = (expF t).1) ∨ (c3 = 0 ∧ t.Ok ∧ ∃ (l ws : List Nat) (D : Nat → Int), explored t = some l ∧ ws.Perm l ∧ CostOk (arcs (wordsOf t.ops) ws) (ws.map (goalB (wd t.goal))) (ws.map D) ∧ nn = D (wd t.init))) :
    fcx = 4 ∨ (fcx ≠ 4 ∧ fcy = 4) ∨ (fcx ≠ 4 ∧ fcy ≠ 4 ∧ fcx ≠ 0 ∧ fcy = fcx ∧ fiy = fix) ∨ (fcx = 0 ∧ fcy = 0 ∧ c3 = 0 ∧ fy = fx ∧ fx = decide (nn < 1000000000) ∧ cy = cx ∧ py.length = px.length ∧ (fx = true → cx = nn)) := by
  have alike : fcx = fcy → fix = fiy → fcx ≠ 0 → fcx = 4 ∨ (fcx ≠ 4 ∧ fcy = 4) ∨ (fcx ≠ 4 ∧ fcy ≠ 4 ∧ fcx ≠ 0 ∧ fcy = fcx ∧ fiy = fix) ∨ (fcx = 0 ∧ fcy = 0 ∧ c3 = 0 ∧ fy = fx ∧ fx = decide (nn < 1000000000) ∧ cy = cx ∧ py.length = px.length ∧ (fx = true → cx = nn)) := fun h1 h2 h3 => by
    by_cases h4 : fcx = 4
    · exact .inl h4
    · exact .inr (.inr (.inl ⟨h4, by omega, h3, h1.symm, h2.symm⟩))
  by_cases hz : (taskFault t).1 = 0
  · have four : ∀ {b : Bool} {f : Bool} {p : List Int} {c n fc fi : Int}, b = false → PlanIsK t b f p c n fc fi → fc = 4 := fun hb h => by
      rcases h with ⟨h1, _⟩ | ⟨_, h1, _⟩
      · rw [hb] at h1; cases h1
      · unfold kindF at h1; rw [if_pos hz] at h1; cases h1; rfl
    cases a with
    | false => exact .inl (four rfl hx)
    | true =>
      by_cases hx4 : fcx = 4
      · exact .inl hx4
      · cases b with
        | false => exact .inr (.inl ⟨hx4, four rfl hy⟩)
        | true =>
          have hx' : BPlanIs t fx px cx nx fcx fix := hx.elim (fun h => h.2) (fun h => by cases h.1)
          have hy' : BPlanIs t fy py cy ny fcy fiy := hy.elim (fun h => h.2) (fun h => by cases h.1)
          obtain ⟨e1, e2, e3, e4, e5⟩ := bplan_agree hx' hy'
          by_cases h0 : fcx = 0
          · refine .inr (.inr (.inr ?_))
            rcases hx' with ⟨h1, _⟩ | ⟨h1, ok, l, bb, hl, hb, hh⟩
            · exact absurd h0 h1
            · rcases hh with ⟨_, h2, _⟩ | ⟨hs, _, _, hg⟩
              · omega
              · rcases ho with ⟨h3, _⟩ | ⟨h3, ok', l', ws, D, g1, g2, g3, g4⟩
                · rw [h1] at h3; exact absurd rfl h3
                · obtain ⟨k1, k2⟩ := agreeOpt ok' g1 g2 g3 hb hg hs
                  exact ⟨h0, by omega, h3, e3.symm, by rw [g4]; exact k1, e4.symm, e5.symm, fun h => by rw [g4]; exact k2 h⟩
          · exact alike e1 e2 h0
  · have both : ∀ {b : Bool} {f : Bool} {p : List Int} {c n fc fi : Int}, PlanIsK t b f p c n fc fi → (fc, fi) = taskFault t := fun h => by
      rcases h with ⟨_, h⟩ | ⟨_, h1, _⟩
      · have he := expF_bad hz
        rcases h with ⟨_, h2, _⟩ | ⟨h2, _⟩
        · rw [← h2, he]
        · rw [he] at h2; rw [h2] at hz; exact absurd rfl hz
      · rw [h1]; unfold kindF; rw [if_neg hz]
    have e1 := both hx; have e2 := both hy
    have e3 := e1.trans e2.symm
    simp only [Prod.mk.injEq] at e3
    exact alike e3.1 e3.2 (fun h => hz (by rw [← e1]; exact h))

set_option maxRecDepth 100000 in
set_option maxHeartbeats 4000000 in
theorem kindsLaw_any (w : World) (vi vg vo : Value) (t : Tsk) (ka kb : Int) (h : TaskAt w vi vg vo t) :
    Calls Tryz.prog 9 #[.agg #[.int .i64 t.n, vi, vg, vo], .int .i64 ka, .int .i64 kb] w fun e w' => e = .returned (.bool true) ∧ Keeps (fun _ => False) w w' := by
  obtain ⟨ai, ci, h1, _⟩ := h.init.form
  obtain ⟨ag, cg, h2, _⟩ := h.goal.form
  obtain ⟨ao, co, h3, hmo⟩ := h.ops.form
  subst h1 h2 h3
  have HB := Lib.hid (Four.new w (.int .i64 t.n) (.slice ai t.init.length ci) (.slice ag t.goal.length cg) (.slice ao t.ops.length co) 25)
  have K1 := (Keeps.refl (fun _ => False) w).alloc (.cells #[.int .i64 t.n, .slice ai t.init.length ci, .slice ag t.goal.length cg, .slice ao t.ops.length co] 25)
  have HT := Lib.hid (h.keeps0 K1); have HK := Lib.hid K1
  clear h K1
  go_enter Tryz.func9, Tryz.ntmps9
  go_upto_region 1 with fail
  generalize (w.alloc (.cells #[.int .i64 t.n, .slice ai t.init.length ci, .slice ag t.goal.length cg, .slice ao t.ops.length co] 25)) = w1 at HB HT HK ⊢
  generalize w.heap.size = bt at HB ⊢
  go_wp2_with fail
  refine (astarExample_any _).mono ?_; rintro e w2 ⟨rfl, hk⟩
  have HB1 := Lib.hid (HB.out.keeps0 hk); have HT1 := Lib.hid (HT.out.keeps0 hk); have HK1 := Lib.hid (HK.out.trans hk)
  clear HB HT HK hk
  have hbxd := HB1.out.lt
  obtain ⟨d0, d1, d2, d3⟩ := HB1.out
  go_wp2_with fail
  refine (aplanK_any _ _ _ _ t ka HT1.out).mono ?_; rintro e w4 ⟨hk, fndx, vp, lpx, cx, nx, fcx, fix, rfl, hi, hr, _⟩
  obtain ⟨apx, cpx, hvp, _⟩ := hi.form
  subst hvp
  have HISx := Lib.hid (planIsK_cases hr); have HRKx := Lib.hid hr
  clear hr hbxd d0 d1 d2 d3
  simp only [resV, fltV]
  have KA := (Keeps.refl (fun _ => False) w4).alloc (.cells #[.bool fndx, .slice apx lpx.length cpx, .int .i64 cx, .int .i64 nx] 29)
  have KB := (Keeps.refl (fun _ => False) (w4.alloc (.cells #[.bool fndx, .slice apx lpx.length cpx, .int .i64 cx, .int .i64 nx] 29))).alloc (.cells #[.int .i64 fcx, .int .i64 fix] 31)
  have KC := hk.trans (KA.trans KB)
  have HB2 := Lib.hid (HB1.out.keeps0 KC); have HT2 := Lib.hid (HT1.out.keeps0 KC); have HK2 := Lib.hid (HK1.out.trans KC)
  have HRx := Lib.hid (KB.heap (heap_alloc_new w4 (.cells #[.bool fndx, .slice apx lpx.length cpx, .int .i64 cx, .int .i64 nx] 29)) (fun h => h))
  have hf := heap_alloc_new (w4.alloc (.cells #[.bool fndx, .slice apx lpx.length cpx, .int .i64 cx, .int .i64 nx] 29)) (.cells #[.int .i64 fcx, .int .i64 fix] 31)
  rw [World.size_alloc] at hf
  have HFx := Lib.hid hf
  clear HB1 HT1 HK1 hk KA KB KC hf hi 
  go_upto_region 4 with fail
  generalize (w4.alloc (.cells #[.bool fndx, .slice apx lpx.length cpx, .int .i64 cx, .int .i64 nx] 29)).alloc (.cells #[.int .i64 fcx, .int .i64 fix] 31) = w5 at HB2 HT2 HK2 HRx HFx  ⊢
  generalize w4.heap.size = bqx at HRx HFx ⊢
  have hbxd := HB2.out.lt
  obtain ⟨d0, d1, d2, d3⟩ := HB2.out
  go_wp2_with fail
  refine (aplanK_any _ _ _ _ t kb HT2.out).mono ?_; rintro e w4 ⟨hk, fndy, vp, lpy, cy, ny, fcy, fiy, rfl, hi, hr, _⟩
  obtain ⟨apy, cpy, hvp, _⟩ := hi.form
  subst hvp
  have HISy := Lib.hid (planIsK_cases hr); have HRKy := Lib.hid hr
  clear hr hbxd d0 d1 d2 d3
  simp only [resV, fltV]
  have KA := (Keeps.refl (fun _ => False) w4).alloc (.cells #[.bool fndy, .slice apy lpy.length cpy, .int .i64 cy, .int .i64 ny] 29)
  have KB := (Keeps.refl (fun _ => False) (w4.alloc (.cells #[.bool fndy, .slice apy lpy.length cpy, .int .i64 cy, .int .i64 ny] 29))).alloc (.cells #[.int .i64 fcy, .int .i64 fiy] 31)
  have KC := hk.trans (KA.trans KB)
  have HB3 := Lib.hid (HB2.out.keeps0 KC); have HT3 := Lib.hid (HT2.out.keeps0 KC); have HK3 := Lib.hid (HK2.out.trans KC)
  have HRy := Lib.hid (KB.heap (heap_alloc_new w4 (.cells #[.bool fndy, .slice apy lpy.length cpy, .int .i64 cy, .int .i64 ny] 29)) (fun h => h))
  have hf := heap_alloc_new (w4.alloc (.cells #[.bool fndy, .slice apy lpy.length cpy, .int .i64 cy, .int .i64 ny] 29)) (.cells #[.int .i64 fcy, .int .i64 fiy] 31)
  rw [World.size_alloc] at hf
  have HFy := Lib.hid hf
  have HRx' := Lib.hid (KC.heap HRx.out (fun h => h))
  have HFx' := Lib.hid (KC.heap HFx.out (fun h => h))
  clear HB2 HT2 HK2 hk KA KB KC hf hi HRx HFx
  have HRx := HRx'
  clear HRx'
  have HFx := HFx'
  clear HFx'
  go_upto_region 5 with fail
  generalize (w4.alloc (.cells #[.bool fndy, .slice apy lpy.length cpy, .int .i64 cy, .int .i64 ny] 29)).alloc (.cells #[.int .i64 fcy, .int .i64 fiy] 31) = w5 at HB3 HT3 HK3 HRy HFy HRx HFx ⊢
  generalize w4.heap.size = bqy at HRy HFy ⊢
  have hbxd := HB3.out.lt
  obtain ⟨d0, d1, d2, d3⟩ := HB3.out
  go_wp2_with fail
  refine (optimal_any _ _ _ _ t HT3.out).mono ?_; rintro e w6 ⟨hk, hr⟩
  have hform : ∃ nn c3 i3, e = .returned (.tuple #[.int .i64 nn, fltV c3 i3]) ∧ (((expF t).1 ≠ 0 ∧ c3 = (expF t).1) ∨ (c3 = 0 ∧ t.Ok ∧ ∃ (l ws : List Nat) (D : Nat → Int), explored t = some l ∧ ws.Perm l ∧ CostOk (arcs (wordsOf t.ops) ws) (ws.map (goalB (wd t.goal))) (ws.map D) ∧ nn = D (wd t.init))) := by
    rcases hr with ⟨c, i, h1, h2, h3⟩ | ⟨h1, l, ws, D, h2, h3, _, h4, h5⟩
    · exact ⟨0, c, i, h3, .inl ⟨by rw [h2]; exact h1, by rw [h2]⟩⟩
    · exact ⟨_, 0, 0, h5, .inr ⟨rfl, h1, l, ws, D, h2, h3, h4, rfl⟩⟩
  obtain ⟨nn, c3, i3, rfl, hopt⟩ := hform
  have HOP := Lib.hid hopt
  clear hopt hr hbxd d0 d1 d2 d3
  simp only [fltV]
  have KA := (Keeps.refl (fun _ => False) w6).alloc (.cells #[.int .i64 c3, .int .i64 i3] 31)
  have KC := hk.trans KA
  have HK4 := Lib.hid (HK3.out.trans KC)
  have HRx4 := Lib.hid (KC.heap HRx.out (fun h => h)); have HFx4 := Lib.hid (KC.heap HFx.out (fun h => h)); have HRy4 := Lib.hid (KC.heap HRy.out (fun h => h)); have HFy4 := Lib.hid (KC.heap HFy.out (fun h => h))
  have HF3 := Lib.hid (heap_alloc_new w6 (.cells #[.int .i64 c3, .int .i64 i3] 31))
  clear HB3 HT3 HK3 hk KA KC HRx HFx HRy HFy
  go_upto_region 6 with fail
  generalize (w6.alloc (.cells #[.int .i64 c3, .int .i64 i3] 31)) = w7 at HK4 HRx4 HFx4 HRy4 HFy4 HF3 ⊢
  generalize w6.heap.size = b6 at HF3 ⊢
  obtain ⟨r0, r1, r2, r3, rl⟩ := quad_cells HRx4.out
  obtain ⟨f0, f1, _, _, fl⟩ := pair_cells HFx4.out
  obtain ⟨s0, s1, s2, s3, sl⟩ := quad_cells HRy4.out
  obtain ⟨e0, e1, _, _, el⟩ := pair_cells HFy4.out
  obtain ⟨g0, g1, _, _, gl⟩ := pair_cells HF3.out
  have HCS := Lib.hid (kinds_cases HRKx.out HRKy.out HOP.out)
  clear HISx HISy HRKx HRKy HOP
  rcases HCS.out with h4 | ⟨h4, h5⟩ | ⟨h4, h5, h0, rfl, rfl⟩ | ⟨rfl, rfl, rfl, rfl, hd, rfl, hl, hc⟩
  · subst h4
    clear HCS
    go_wp2_with fail
    go_ret
    exact ⟨rfl, HK4.out⟩
  · subst h5
    have q1 : (fcx == 4) = false := by simpa using h4
    clear h4 HCS
    go_wp2_with fail
    go_ret
    exact ⟨rfl, HK4.out⟩
  · have q1 : (fcy == 4) = false := by simpa using h4
    have q2 : (fcy != 0) = true := by simpa using h0
    clear h4 h5 h0 HCS
    go_wp2_with fail
    go_ret
    exact ⟨rfl, HK4.out⟩
  · have hll : ((lpx.length : Int) == (lpy.length : Int)) = true := by rw [hl]; simp
    cases fndy with
    | false =>
      have q1 : decide (nn < 1000000000) = false := hd.symm
      clear hd hc hl HCS
      go_wp2_with fail
      go_ret
      exact ⟨rfl, HK4.out⟩
    | true =>
      have q1 : decide (nn < 1000000000) = true := hd.symm
      obtain rfl := hc rfl
      clear hd hc hl HCS
      go_wp2_with fail
      go_ret
      exact ⟨rfl, HK4.out⟩

end Go.Proofs.YtcpmjoabhnfddaaGreat
