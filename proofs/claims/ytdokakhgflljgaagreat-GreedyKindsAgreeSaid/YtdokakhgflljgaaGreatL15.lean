/- greedy: the example of the laws. GreedyKindsAgree walked. No condition beyond what each theorem says. -/
import Derived.Test.YtdokakhgflljgaaGreatL14
import Derived.Test.YtdokakhgflljgaaGreatL6
import Derived.Test.YtdokakhgflljgaaGreatL12
import Derived.Test.YtdokakhgflljgaaGreatL13
import Derived.Test.YtdokakhgflljgaaGreatL9

namespace Go.Proofs.YtdokakhgflljgaaGreat
open Go.RowKit

/-- A plan of the task step, which has one operator. -/
def StepPl (lp : List Int) (m : Nat) : Prop := (∀ x ∈ lp, x = 0) ∧ 0 < lp.length ∧ lp.length ≤ m
theorem stepT_plan {q : List Nat} {y : Nat} {m : Nat} (hr : runOps (wordsOf stepT.ops) (wd stepT.init) q = some y) (ha : goalB (wd stepT.goal) y = true) (hm : q.length ≤ m) : StepPl (intsP q) m ∧ costL stepT (intsP q) = 3 * ((intsP q).length : Int) := by
  have hl : (intsP q).length = q.length := by unfold intsP; rw [List.length_map]
  obtain ⟨h1, h2⟩ := stepT_run hr
  refine ⟨⟨fun x hx => ?_, ?_, by rw [hl]; exact hm⟩, by rw [costL_is, h1, hl]⟩
  · obtain ⟨k, hk, rfl⟩ := List.mem_map.1 hx
    rw [h2 k hk]; rfl
  · cases q with
    | nil => cases hr; exact absurd ha (by decide)
    | cons a r => rw [hl]; simp
theorem gplanStep_any (w : World) (vi vg vo : Value) (h : TaskAt w vi vg vo stepT) :
    Calls Tryz.prog 9 #[.agg #[.int .i64 1, vi, vg, vo], .int .i64 1] w fun e w' => ∃ v lp n, e = .returned (.tuple #[resV true v (3 * (lp.length : Int)) n, fltV 0 0]) ∧ Ints w' v lp ∧ StepPl lp 60 ∧ Keeps (fun _ => False) w w' := by
  refine (gplanM_any w vi vg vo stepT 1 rfl ⟨by omega, by omega⟩ h).mono ?_
  rintro e w' ⟨hk, fnd, vp, lp, c, n, fc, fi, rfl, hi, hr⟩
  rcases hr with ⟨h1, h2, _⟩ | ⟨_, _, _, l, _, hr⟩
  · rw [show decide ((0 : Int) ≤ 1 ∧ (1 : Int) ≤ 5) = true from rfl, kindF_true, stepT_expF] at h2; cases h2; exact absurd rfl h1
  rcases hr with ⟨hb, _⟩ | ⟨q, y, g1, g2, g3, rfl, rfl, rfl, _, _, rfl, rfl⟩ | ⟨p, hb, g1, _⟩
  · have h1 := hb [0] 1 (by decide)
    exact absurd h1 (by decide)
  · obtain ⟨k1, k2⟩ := stepT_plan g1 g2 g3
    exact ⟨vp, _, n, by rw [← k2], hi, k1, hk⟩
  · have h1 := hb.2 [0] 1 (by decide) (by decide)
    rcases h1 with h1 | ⟨h1, _⟩ <;> (simp only [List.length_cons, List.length_nil] at h1; omega)
theorem gweightStep_any (w : World) (vi vg vo : Value) (h : TaskAt w vi vg vo stepT) :
    Calls Tryz.prog 19 #[.agg #[.int .i64 1, vi, vg, vo], .int .i64 1, .int .i64 2] w fun e w' => ∃ v lp n, e = .returned (.tuple #[resV true v (3 * (lp.length : Int)) n, fltV 0 0]) ∧ Ints w' v lp ∧ StepPl lp 2 ∧ Keeps (fun _ => False) w w' := by
  refine (gweight_any w vi vg vo stepT 1 2 h).mono ?_
  rintro e w' ⟨hk, fnd, vp, lp, c, n, fc, fi, rfl, hi, hr⟩
  rcases hr with ⟨h1, h2, _⟩ | ⟨_, _, _, _, l, _, hr⟩
  · rw [show admK 1 = true from rfl, kindF_true, stepT_expF] at h2; cases h2; exact absurd rfl h1
  rcases hr with ⟨hb, _⟩ | ⟨q, y, g1, g2, g3, rfl, rfl, rfl, _, _, rfl, rfl, g4⟩ | ⟨b, hb, g1, g2, _⟩
  · have h1 := hb [0] 1 (by decide)
    exact absurd h1 (by decide)
  · have h1 := g4 [0] 1 (by decide) (by decide)
    rw [wayN_split, (stepT_run g1).1, show wayK 2 (wordsOf stepT.ops) [0] = 24577 by decide] at h1
    obtain ⟨k1, k2⟩ := stepT_plan (m := 2) g1 g2 (by omega)
    exact ⟨vp, _, n, by rw [← k2], hi, k1, hk⟩
  · obtain rfl := LeastOf.unique hb stepT_least
    exact absurd g2 (by decide)

set_option maxRecDepth 100000 in
set_option maxHeartbeats 2000000 in
theorem stepped_any (w : World) (vp : Value) (lp : List Int) (n : Int) (m : Nat) (hm : m ≤ 1000) (h : Ints w vp lp) (hp : StepPl lp m) :
    Calls Tryz.prog 28 #[resV true vp (3 * (lp.length : Int)) n, fltV 0 0, .int .i64 (3 * (m : Int))] w fun e w' => e = .returned (.bool true) ∧ Keeps (fun _ => False) w w' := by
  obtain ⟨ap, cp, h4, hmx⟩ := h.form
  subst h4
  have KA := (Keeps.refl (fun _ => False) w).alloc (.cells #[.bool true, .slice ap lp.length cp, .int .i64 (3 * (lp.length : Int)), .int .i64 n] 29)
  have KB := (Keeps.refl (fun _ => False) (w.alloc (.cells #[.bool true, .slice ap lp.length cp, .int .i64 (3 * (lp.length : Int)), .int .i64 n] 29))).alloc (.cells #[.int .i64 0, .int .i64 0] 31)
  have HK := Lib.hid (KA.trans KB)
  have HX := Lib.hid (KB.heap (heap_alloc_new w (.cells #[.bool true, .slice ap lp.length cp, .int .i64 (3 * (lp.length : Int)), .int .i64 n] 29)) (fun h => h))
  have HF := heap_alloc_new (w.alloc (.cells #[.bool true, .slice ap lp.length cp, .int .i64 (3 * (lp.length : Int)), .int .i64 n] 29)) (.cells #[.int .i64 0, .int .i64 0] 31)
  rw [World.size_alloc] at HF
  have HF := Lib.hid HF
  have HP := Lib.hid (show Ints _ (.slice ap lp.length cp) lp from h.keeps0 (KA.trans KB))
  obtain ⟨hz, hl0, hlm⟩ := hp
  have HZ := Lib.hid hz
  clear KA KB h hz
  unfold resV fltV
  go_enter Tryz.func28, Tryz.ntmps28
  go_upto_region 1 with fail
  generalize (w.alloc (.cells #[.bool true, .slice ap lp.length cp, .int .i64 (3 * (lp.length : Int)), .int .i64 n] 29)).alloc (.cells #[.int .i64 0, .int .i64 0] 31) = w1 at HX HF HK HP ⊢
  go_wp2_with fail
  go_loopw [7] (fun i wr => ∃ j : Nat, j ≤ lp.length ∧ i = .int .i64 (j : Int) ∧ Keeps (fun _ => False) w1 wr) (fun i _ => lp.length - (intOf i).toNat)
  case atStart => exact ⟨0, Nat.zero_le _, rfl, Keeps.refl _ _⟩
  case round =>
    obtain ⟨j, hj, rfl, hB⟩ := hrel
    have HB := Lib.hid hB
    have HX2 := Lib.hid (hB.heap HX.out (fun h => h)); have HF2 := Lib.hid (hB.heap HF.out (fun h => h))
    clear hB
    obtain ⟨s0, s1, s2, s3, sl⟩ := quad_cells HX2.out
    obtain ⟨f0, f1, _, _, fl⟩ := pair_cells HF2.out
    by_cases hlt : j < lp.length
    · have hji : ((j : Int) < (lp.length : Int)) := by omega
      obtain ⟨bl, ol, hbl, hcl⟩ := (HP.out.keeps0 HB.out).cell rfl (by omega)
      subst hbl
      obtain ⟨x, hx⟩ : ∃ x, lp[j]? = some x := ⟨_, List.getElem?_eq_getElem hlt⟩
      have hx0 := HZ.out x (List.mem_of_getElem? hx)
      subst hx0
      have hc1 := hcl j _ hx
      clear hcl hx
      go_wp2_with fail
      go_roundw
      case rel => exact ⟨j + 1, by omega, by go_num, HB.out⟩
      case measure => simp [intOf]; omega
    · have hji : ¬ ((j : Int) < (lp.length : Int)) := by omega
      have hpos : (0 : Int) < (lp.length : Int) := by omega
      have hw3 : IntKind.i64.wrap (3 * (lp.length : Int)) = 3 * (lp.length : Int) := IntWalk.i64_in _ (by omega)
      have hle : 3 * (lp.length : Int) ≤ 3 * (m : Int) := by omega
      go_wp2_with fail
      go_ret
      exact ⟨rfl, HK.out.trans HB.out⟩

set_option maxRecDepth 100000 in
set_option maxHeartbeats 2000000 in
theorem greedyExample_any (w : World) : Calls Tryz.prog 7 #[] w fun e w' => e = .returned (.bool true) ∧ Keeps (fun _ => False) w w' := by
  go_enter Tryz.func7, Tryz.ntmps7
  go_wp2_with fail
  refine (step_any _).mono ?_; rintro e w1 ⟨vi, vg, vo, rfl, ht, hk⟩
  have HT := Lib.hid ht; have K1 := Lib.hid hk
  clear ht hk
  go_wp2_with fail
  refine (gplanStep_any _ _ _ _ HT.out).mono ?_; rintro e w2 ⟨vp, lp, n, rfl, hp, hst, hk⟩
  obtain ⟨ap, cp, hvp, _⟩ := hp.form
  subst hvp
  have HP := Lib.hid hp; have K2 := Lib.hid (K1.out.trans hk); have HST := Lib.hid hst
  clear hp hk hst HT
  simp only [resV, fltV]
  have KA := (Keeps.refl (fun _ => False) w2).alloc (.cells #[.bool true, .slice ap lp.length cp, .int .i64 (3 * (lp.length : Int)), .int .i64 n] 29)
  have KB := (Keeps.refl (fun _ => False) (w2.alloc (.cells #[.bool true, .slice ap lp.length cp, .int .i64 (3 * (lp.length : Int)), .int .i64 n] 29))).alloc (.cells #[.int .i64 0, .int .i64 0] 31)
  have H3 := Lib.hid (KB.heap (heap_alloc_new w2 (.cells #[.bool true, .slice ap lp.length cp, .int .i64 (3 * (lp.length : Int)), .int .i64 n] 29)) (fun h => h))
  have hf := heap_alloc_new (w2.alloc (.cells #[.bool true, .slice ap lp.length cp, .int .i64 (3 * (lp.length : Int)), .int .i64 n] 29)) (.cells #[.int .i64 0, .int .i64 0] 31)
  rw [World.size_alloc] at hf
  have F3 := Lib.hid hf
  have K3 := Lib.hid (K2.out.trans (KA.trans KB)); have HP3 := Lib.hid (HP.out.keeps0 (KA.trans KB))
  clear KA KB hf
  go_upto_region 2 with fail
  generalize (w2.alloc (.cells #[.bool true, .slice ap lp.length cp, .int .i64 (3 * (lp.length : Int)), .int .i64 n] 29)).alloc (.cells #[.int .i64 0, .int .i64 0] 31) = w3 at H3 F3 K3 HP3 ⊢
  generalize w2.heap.size = b3 at H3 F3 ⊢
  go_wp2_with fail
  refine (step_any _).mono ?_; rintro e w4 ⟨vi2, vg2, vo2, rfl, ht, hk⟩
  have HT := Lib.hid ht; have K4 := Lib.hid (K3.out.trans hk); have HP4 := Lib.hid (HP3.out.keeps0 hk); have H4 := Lib.hid (hk.heap H3.out (fun h => h)); have F4 := Lib.hid (hk.heap F3.out (fun h => h))
  clear ht hk
  go_wp2_with fail
  refine (gweightStep_any _ _ _ _ HT.out).mono ?_; rintro e w5 ⟨vp2, lp2, n2, rfl, hp, hst, hk⟩
  obtain ⟨ap2, cp2, hvp, _⟩ := hp.form
  subst hvp
  have HST2 := Lib.hid hst
  simp only [resV, fltV]
  have KA := (Keeps.refl (fun _ => False) w5).alloc (.cells #[.bool true, .slice ap2 lp2.length cp2, .int .i64 (3 * (lp2.length : Int)), .int .i64 n2] 29)
  have KB := (Keeps.refl (fun _ => False) (w5.alloc (.cells #[.bool true, .slice ap2 lp2.length cp2, .int .i64 (3 * (lp2.length : Int)), .int .i64 n2] 29))).alloc (.cells #[.int .i64 0, .int .i64 0] 31)
  have KC := hk.trans (KA.trans KB)
  have G6 := Lib.hid (KB.heap (heap_alloc_new w5 (.cells #[.bool true, .slice ap2 lp2.length cp2, .int .i64 (3 * (lp2.length : Int)), .int .i64 n2] 29)) (fun h => h))
  have hf := heap_alloc_new (w5.alloc (.cells #[.bool true, .slice ap2 lp2.length cp2, .int .i64 (3 * (lp2.length : Int)), .int .i64 n2] 29)) (.cells #[.int .i64 0, .int .i64 0] 31)
  rw [World.size_alloc] at hf
  have J6 := Lib.hid hf
  have HQ6 := Lib.hid (hp.keeps0 (KA.trans KB))
  have K6 := Lib.hid (K4.out.trans KC); have HP6 := Lib.hid (HP4.out.keeps0 KC); have H6 := Lib.hid (KC.heap H4.out (fun h => h)); have F6 := Lib.hid (KC.heap F4.out (fun h => h))
  clear hp hk hst KA KB KC hf
  go_upto_region 3 with fail
  generalize (w5.alloc (.cells #[.bool true, .slice ap2 lp2.length cp2, .int .i64 (3 * (lp2.length : Int)), .int .i64 n2] 29)).alloc (.cells #[.int .i64 0, .int .i64 0] 31) = w6 at G6 J6 HQ6 K6 HP6 H6 F6 ⊢
  generalize w5.heap.size = b6 at G6 J6 ⊢
  obtain ⟨f0, f1, _, _, fl⟩ := pair_cells F6.out
  obtain ⟨r0, r1, r2, r3, rl⟩ := quad_cells H6.out
  go_wp2_with fail
  refine (stepped_any _ _ lp n 60 (by omega) HP6.out HST.out).mono ?_; rintro e w7 ⟨rfl, hk⟩
  have K7 := Lib.hid (K6.out.trans hk)
  have G7 := Lib.hid (hk.heap G6.out (fun h => h)); have J7 := Lib.hid (hk.heap J6.out (fun h => h)); have HQ7 := Lib.hid (HQ6.out.keeps0 hk)
  clear hk f0 f1 fl r0 r1 r2 r3 rl
  obtain ⟨f0, f1, _, _, fl⟩ := pair_cells J7.out
  obtain ⟨r0, r1, r2, r3, rl⟩ := quad_cells G7.out
  go_wp2_with fail
  refine (stepped_any _ _ lp2 n2 2 (by omega) HQ7.out HST2.out).mono ?_; rintro e w8 ⟨rfl, hk⟩
  have K8 := Lib.hid (K7.out.trans hk)
  clear hk
  go_wp2_with fail
  go_ret
  exact ⟨rfl, K8.out⟩

end Go.Proofs.YtdokakhgflljgaaGreat

namespace Go.Proofs.YtdokakhgflljgaaGreat
open Go.RowKit Go.Shelf

/-- Whether there is a plan, and the least cost of one. -/
theorem gopt {t : Tsk} (ok : t.Ok) {l ws : List Nat} (hx : explored t = some l) (hp : ws.Perm l) {D : Nat → Int} (hD : CostOk (arcs (wordsOf t.ops) ws) (ws.map (goalB (wd t.goal))) (ws.map D)) {k : Int} {fnd : Bool} {lp : List Int} {c n fi : Int} (hg : GPlanIs t k fnd lp c n 0 fi) :
    fnd = decide (D (wd t.init) < 1000000000) ∧ (fnd = true → D (wd t.init) ≤ c) := by
  obtain ⟨_, _, _, hsh, hfew, _, _, hin⟩ := costs_need ok hx hp
  have h0 := ops_cost ok
  have hbig : bigC = 1000000000 := rfl
  rcases hg with ⟨h, _⟩ | ⟨_, _, _, l', _, hg⟩
  · exact absurd rfl h
  rcases hg with ⟨hn, rfl, _⟩ | ⟨q, y, g1, g2, g3, rfl, rfl, rfl, _⟩ | ⟨_, _, _, _, _, _, _, h, _⟩
  · have := opt_none hD hin hn
    exact ⟨by symm; rw [decide_eq_false_iff_not]; omega, fun h => by cases h⟩
  · obtain ⟨h1, h2⟩ := opt_le hsh hD h0 hin g1 g2 (by omega)
    exact ⟨by symm; rw [decide_eq_true_iff]; omega, fun _ => by rw [costL_is]; exact h1⟩
  · cases h
theorem gkinds_cases {t : Tsk} {a b : Int} {fx fy : Bool} {px py : List Int} {cx cy nx ny fcx fix fcy fiy nn c3 : Int} (hx : GPlanIs t a fx px cx nx fcx fix) (hy : GPlanIs t b fy py cy ny fcy fiy)
    (ho : ((expF t).1 ≠ 0 ∧ c3 = (expF t).1) ∨ (c3 = 0 ∧ t.Ok ∧ ∃ (l ws : List Nat) (D : Nat → Int), explored t = some l ∧ ws.Perm l ∧ CostOk (arcs (wordsOf t.ops) ws) (ws.map (goalB (wd t.goal))) (ws.map D) ∧ nn = D (wd t.init))) :
    fcx ≠ 0 ∨ fcy ≠ 0 ∨ c3 ≠ 0 ∨ (fcx = 0 ∧ fcy = 0 ∧ c3 = 0 ∧ fy = fx ∧ fx = decide (nn < 1000000000) ∧ (fx = true → nn ≤ cx ∧ nn ≤ cy)) := by
  by_cases h0 : fcx = 0
  · by_cases h1 : fcy = 0
    · subst h0 h1
      rcases ho with ⟨h2, h3⟩ | ⟨h2, ok, l, ws, D, g1, g2, g3, rfl⟩
      · exact .inr (.inr (.inl (by rw [h3]; exact h2)))
      · obtain ⟨k1, k2⟩ := gopt ok g1 g2 g3 hx
        obtain ⟨k3, k4⟩ := gopt ok g1 g2 g3 hy
        exact .inr (.inr (.inr ⟨rfl, rfl, h2, by rw [k1, k3], k1, fun h => ⟨k2 h, k4 (by rw [k3, ← k1]; exact h)⟩⟩))
    · exact .inr (.inl h1)
  · exact .inl h0

set_option maxRecDepth 100000 in
set_option maxHeartbeats 4000000 in
theorem gkindsLaw_any (w : World) (vi vg vo : Value) (t : Tsk) (k kb : Int) (h : TaskAt w vi vg vo t) :
    Calls Tryz.prog 6 #[.agg #[.int .i64 t.n, vi, vg, vo], .int .i64 k, .int .i64 kb] w fun e w' => e = .returned (.bool true) ∧ Keeps (fun _ => False) w w' := by
  obtain ⟨ai, ci, h1, _⟩ := h.init.form
  obtain ⟨ag, cg, h2, _⟩ := h.goal.form
  obtain ⟨ao, co, h3, hmo⟩ := h.ops.form
  subst h1 h2 h3
  have HB := Lib.hid (Four.new w (.int .i64 t.n) (.slice ai t.init.length ci) (.slice ag t.goal.length cg) (.slice ao t.ops.length co) 25)
  have K1 := (Keeps.refl (fun _ => False) w).alloc (.cells #[.int .i64 t.n, .slice ai t.init.length ci, .slice ag t.goal.length cg, .slice ao t.ops.length co] 25)
  have HT := Lib.hid (h.keeps0 K1); have HK := Lib.hid K1
  clear h K1
  go_enter Tryz.func6, Tryz.ntmps6
  go_upto_region 1 with fail
  generalize (w.alloc (.cells #[.int .i64 t.n, .slice ai t.init.length ci, .slice ag t.goal.length cg, .slice ao t.ops.length co] 25)) = w1 at HB HT HK ⊢
  generalize w.heap.size = bt at HB ⊢
  go_wp2_with fail
  refine (greedyExample_any _).mono ?_; rintro e w2 ⟨rfl, hk⟩
  have HB1 := Lib.hid (HB.out.keeps0 hk); have HT1 := Lib.hid (HT.out.keeps0 hk); have HK1 := Lib.hid (HK.out.trans hk)
  clear HB HT HK hk
  have hbxd := HB1.out.lt
  obtain ⟨d0, d1, d2, d3⟩ := HB1.out
  go_wp2_with fail
  refine (gplan_any _ _ _ _ t k HT1.out).mono ?_; rintro e w4 ⟨hk, fndx, vp, lpx, cx, nx, fcx, fix, rfl, hi, hr⟩
  obtain ⟨apx, cpx, hvp, _⟩ := hi.form
  subst hvp
  have HPX := Lib.hid hr
  clear hr hbxd d0 d1 d2 d3
  simp only [resV, fltV]
  have KA := (Keeps.refl (fun _ => False) w4).alloc (.cells #[.bool fndx, .slice apx lpx.length cpx, .int .i64 cx, .int .i64 nx] 29)
  have KB := (Keeps.refl (fun _ => False) (w4.alloc (.cells #[.bool fndx, .slice apx lpx.length cpx, .int .i64 cx, .int .i64 nx] 29))).alloc (.cells #[.int .i64 fcx, .int .i64 fix] 31)
  have KC := hk.trans (KA.trans KB)
  have HB2 := Lib.hid (HB1.out.keeps0 KC); have HT2 := Lib.hid (HT1.out.keeps0 KC); have HK2 := Lib.hid (HK1.out.trans KC)
  have HRx := Lib.hid (KB.heap (heap_alloc_new w4 (.cells #[.bool fndx, .slice apx lpx.length cpx, .int .i64 cx, .int .i64 nx] 29)) (fun h => h))
  have hf := heap_alloc_new (w4.alloc (.cells #[.bool fndx, .slice apx lpx.length cpx, .int .i64 cx, .int .i64 nx] 29)) (.cells #[.int .i64 fcx, .int .i64 fix] 31)
  rw [World.size_alloc] at hf
  have HFx := Lib.hid hf
  have HIx := Lib.hid (hi.keeps0 (KA.trans KB))
  clear HB1 HT1 HK1 hk KA KB KC hf hi
  go_upto_region 4 with fail
  generalize (w4.alloc (.cells #[.bool fndx, .slice apx lpx.length cpx, .int .i64 cx, .int .i64 nx] 29)).alloc (.cells #[.int .i64 fcx, .int .i64 fix] 31) = w5 at HB2 HT2 HK2 HRx HFx HIx  ⊢
  generalize w4.heap.size = bqx at HRx HFx ⊢
  have hbxd := HB2.out.lt
  obtain ⟨d0, d1, d2, d3⟩ := HB2.out
  go_wp2_with fail
  refine (gplan_any _ _ _ _ t kb HT2.out).mono ?_; rintro e w4 ⟨hk, fndy, vp, lpy, cy, ny, fcy, fiy, rfl, hi, hr⟩
  obtain ⟨apy, cpy, hvp, _⟩ := hi.form
  subst hvp
  have HPY := Lib.hid hr
  clear hr hbxd d0 d1 d2 d3
  simp only [resV, fltV]
  have KA := (Keeps.refl (fun _ => False) w4).alloc (.cells #[.bool fndy, .slice apy lpy.length cpy, .int .i64 cy, .int .i64 ny] 29)
  have KB := (Keeps.refl (fun _ => False) (w4.alloc (.cells #[.bool fndy, .slice apy lpy.length cpy, .int .i64 cy, .int .i64 ny] 29))).alloc (.cells #[.int .i64 fcy, .int .i64 fiy] 31)
  have KC := hk.trans (KA.trans KB)
  have HB3 := Lib.hid (HB2.out.keeps0 KC); have HT3 := Lib.hid (HT2.out.keeps0 KC); have HK3 := Lib.hid (HK2.out.trans KC)
  have HRy := Lib.hid (KB.heap (heap_alloc_new w4 (.cells #[.bool fndy, .slice apy lpy.length cpy, .int .i64 cy, .int .i64 ny] 29)) (fun h => h))
  have hf := heap_alloc_new (w4.alloc (.cells #[.bool fndy, .slice apy lpy.length cpy, .int .i64 cy, .int .i64 ny] 29)) (.cells #[.int .i64 fcy, .int .i64 fiy] 31)
  rw [World.size_alloc] at hf
  have HFy := Lib.hid hf
  have HIy := Lib.hid (hi.keeps0 (KA.trans KB))
  have HRx' := Lib.hid (KC.heap HRx.out (fun h => h)); have HFx' := Lib.hid (KC.heap HFx.out (fun h => h))
  clear HB2 HT2 HK2 hk KA KB KC hf hi
  clear HRx
  have HRx := HRx'
  clear HRx'
  clear HFx
  have HFx := HFx'
  clear HFx'
  go_upto_region 5 with fail
  generalize (w4.alloc (.cells #[.bool fndy, .slice apy lpy.length cpy, .int .i64 cy, .int .i64 ny] 29)).alloc (.cells #[.int .i64 fcy, .int .i64 fiy] 31) = w5 at HB3 HT3 HK3 HRy HFy HIy HRx HFx ⊢
  generalize w4.heap.size = bqy at HRy HFy ⊢
  clear HIx HIy
  have hbxd := HB3.out.lt
  obtain ⟨d0, d1, d2, d3⟩ := HB3.out
  go_wp2_with fail
  refine (optimal_any _ _ _ _ t HT3.out).mono ?_; rintro e w4 ⟨hk, hr⟩
  clear hbxd d0 d1 d2 d3
  have hform : ∃ nn fcz fiz, e = .returned (.tuple #[.int .i64 nn, fltV fcz fiz]) ∧ (((expF t).1 ≠ 0 ∧ fcz = (expF t).1) ∨ (fcz = 0 ∧ t.Ok ∧ ∃ (l ws : List Nat) (D : Nat → Int), explored t = some l ∧ ws.Perm l ∧ CostOk (arcs (wordsOf t.ops) ws) (ws.map (goalB (wd t.goal))) (ws.map D) ∧ nn = D (wd t.init))) := by
    rcases hr with ⟨c, i, h1, h2, h3⟩ | ⟨h1, l, ws, D, h2, h3, _, h4, h5⟩
    · exact ⟨0, c, i, h3, .inl ⟨by rw [h2]; exact h1, by rw [h2]⟩⟩
    · exact ⟨_, 0, 0, h5, .inr ⟨rfl, h1, l, ws, D, h2, h3, h4, rfl⟩⟩
  obtain ⟨nn, fcz, fiz, rfl, hopt⟩ := hform
  have HOP := Lib.hid hopt
  clear hopt hr
  simp only [fltV]
  have KA := (Keeps.refl (fun _ => False) w4).alloc (.cells #[.int .i64 fcz, .int .i64 fiz] 31)
  have KC := hk.trans KA
  have HB4 := Lib.hid (HB3.out.keeps0 KC); have HT4 := Lib.hid (HT3.out.keeps0 KC); have HK4 := Lib.hid (HK3.out.trans KC)
  have HFz := Lib.hid (heap_alloc_new w4 (.cells #[.int .i64 fcz, .int .i64 fiz] 31))
  have HRx' := Lib.hid (KC.heap HRx.out (fun h => h)); have HFx' := Lib.hid (KC.heap HFx.out (fun h => h)); have HRy' := Lib.hid (KC.heap HRy.out (fun h => h)); have HFy' := Lib.hid (KC.heap HFy.out (fun h => h))
  clear HB3 HT3 HK3 hk KA KC
  clear HRx
  have HRx := HRx'
  clear HRx'
  clear HFx
  have HFx := HFx'
  clear HFx'
  clear HRy
  have HRy := HRy'
  clear HRy'
  clear HFy
  have HFy := HFy'
  clear HFy'
  go_upto_region 6 with fail
  generalize (w4.alloc (.cells #[.int .i64 fcz, .int .i64 fiz] 31)) = w5 at HB4 HT4 HK4 HFz HRx HFx HRy HFy ⊢
  generalize w4.heap.size = boz at HFz ⊢
  obtain ⟨r0, r1, r2, r3, rl⟩ := quad_cells HRx.out
  obtain ⟨f0, f1, _, _, fl⟩ := pair_cells HFx.out
  obtain ⟨s0, s1, s2, s3, sl⟩ := quad_cells HRy.out
  obtain ⟨e0, e1, _, _, el⟩ := pair_cells HFy.out
  obtain ⟨g0, g1, _, _, gl⟩ := pair_cells HFz.out
  have hcs := gkinds_cases HPX.out HPY.out HOP.out
  clear HPX HPY HOP
  by_cases hx0 : fcx = 0
  case neg =>
    have q1 : (fcx != 0) = true := by simpa using hx0
    clear hcs
    go_wp2_with fail
    go_ret
    exact ⟨rfl, HK4.out⟩
  case pos =>
    have q1 : (fcx != 0) = false := by simpa using hx0
    by_cases hy0 : fcy = 0
    case neg =>
      have q2 : (fcy != 0) = true := by simpa using hy0
      clear hcs
      go_wp2_with fail
      go_ret
      exact ⟨rfl, HK4.out⟩
    case pos =>
      have q2 : (fcy != 0) = false := by simpa using hy0
      by_cases hz0 : fcz = 0
      case neg =>
        have q3 : (fcz != 0) = true := by simpa using hz0
        clear hcs
        go_wp2_with fail
        go_ret
        exact ⟨rfl, HK4.out⟩
      case pos =>
        have q3 : (fcz != 0) = false := by simpa using hz0
        obtain ⟨rfl, hfx, hcc⟩ : fndy = fndx ∧ fndx = decide (nn < 1000000000) ∧ (fndx = true → nn ≤ cx ∧ nn ≤ cy) := by
          rcases hcs with h | h | h | ⟨_, _, _, h1, h2, h3⟩
          · exact absurd hx0 h
          · exact absurd hy0 h
          · exact absurd hz0 h
          · exact ⟨h1, h2, h3⟩
        clear hcs
        cases fndy with
        | false =>
          have q4 : decide (nn < 1000000000) = false := hfx.symm
          clear hfx hcc
          go_wp2_with fail
          go_ret
          exact ⟨rfl, HK4.out⟩
        | true =>
          have q4 : decide (nn < 1000000000) = true := hfx.symm
          obtain ⟨c1, c2⟩ := hcc rfl
          have q5 : decide (nn ≤ cx) = true := by simpa using c1
          have q6 : decide (nn ≤ cy) = true := by simpa using c2
          clear hfx hcc c1 c2
          go_wp2_with fail
          go_ret
          exact ⟨rfl, HK4.out⟩

end Go.Proofs.YtdokakhgflljgaaGreat
