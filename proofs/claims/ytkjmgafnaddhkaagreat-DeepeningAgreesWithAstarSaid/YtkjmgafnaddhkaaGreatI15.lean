/- deepening: the example of the laws. relaxplan: the walk of levels. relaxplan: the walk of Plan. helmsmanref5.Rounds: the bounds of the searches, and how many states they visit. BothendsAgreesWithAstar walked. deepening: plain facts for the laws. The five laws about deepening, walked. No condition beyond what each theorem says. -/
import Derived.Test.YtkjmgafnaddhkaaGreatI14
import Derived.Test.YtkjmgafnaddhkaaGreatI12
import Derived.Test.YtkjmgafnaddhkaaGreatI1
import Derived.Test.YtkjmgafnaddhkaaGreatI13
import Derived.Test.YtkjmgafnaddhkaaGreatI7
import Derived.Test.YtkjmgafnaddhkaaGreatI3
import Derived.Test.YtkjmgafnaddhkaaGreatI5
import Derived.Test.YtkjmgafnaddhkaaGreatI10
import Derived.Test.YtkjmgafnaddhkaaGreatI11
import Derived.BigQuiet
import Derived.Test.YtkjmgafnaddhkaaGreatI6

namespace Go.Proofs.YtkjmgafnaddhkaaGreat
open Go.RowKit

theorem stepT_ops : wordsOf stepT.ops = [⟨0, 1, 0, 3⟩] := rfl
theorem stepT_op {a : Nat} {o : Wop} (h : (wordsOf stepT.ops)[a]? = some o) : o.cost = 3 ∧ o.next 0 = 1 ∧ o.next 1 = 1 := by
  rw [stepT_ops] at h
  cases a with
  | zero => simp at h; subst h; decide
  | succ a => simp at h
theorem stepT_bway {b : Int} {x : Nat} {q vs : List Nat} (h : BWay (wordsOf stepT.ops) 0 (fun _ => 0) b x q vs) : (x = 0 ∧ q = []) ∨ (x = 1 ∧ 3 ≤ costN (wordsOf stepT.ops) q ∧ 3 ≤ b) := by
  induction h with
  | nil => exact .inl ⟨rfl, rfl⟩
  | @snoc x q vs a o _ ho _ _ hb ih =>
    obtain ⟨h1, h2, h3⟩ := stepT_op ho
    have hb0 : costN (wordsOf stepT.ops) q + o.cost ≤ b := by have : costN (wordsOf stepT.ops) q + o.cost + (0 : Int) ≤ b := hb; omega
    rw [h1] at hb0
    have e := costN_snocB ho q
    rcases ih with ⟨rfl, rfl⟩ | ⟨rfl, g1, g2⟩
    · have : costN (wordsOf stepT.ops) [] = 0 := rfl
      exact .inr ⟨h2, by omega, by omega⟩
    · exact .inr ⟨h3, by omega, by omega⟩
def stepC (b : Int) (x : Nat) : Option Int := if x = 0 then some 0 else if x = 1 ∧ 3 ≤ b then some 3 else none
theorem stepT_rnd {ws : List Nat} (hp : ws.Perm [0, 1]) (b : Int) : RndOk (wordsOf stepT.ops) 0 ws (fun _ => 0) b (stepC b) := by
  have h01 : (0 : Nat) ∈ ws ∧ (1 : Nat) ∈ ws := ⟨hp.mem_iff.2 (by simp), hp.mem_iff.2 (by simp)⟩
  refine ⟨fun x c hc => ?_, fun x c hc => ?_, fun x q vs hw => ?_⟩
  · unfold stepC at hc
    split at hc
    · rename_i e; rw [e]; exact h01.1
    · split at hc
      · rename_i e; rw [e.1]; exact h01.2
      · cases hc
  · unfold stepC at hc
    split at hc
    · rename_i e; cases hc; rw [e]; exact ⟨[], [0], .nil, rfl⟩
    · split at hc
      · rename_i e; cases hc
        have h0 : (wordsOf stepT.ops)[0]? = some ⟨0, 1, 0, 3⟩ := rfl
        have := BWay.snoc (ops := wordsOf stepT.ops) (st := 0) (H := fun _ => 0) (b := b) (a := 0) (o := ⟨0, 1, 0, 3⟩) .nil h0 (by decide) (by decide) (by have h3 := e.2; show (0 : Int) + 3 + 0 ≤ b; omega)
        rw [e.1]
        exact ⟨[0], _, this, by decide⟩
      · cases hc
  · rcases stepT_bway hw with ⟨rfl, rfl⟩ | ⟨rfl, h1, h2⟩
    · exact ⟨0, rfl, Int.le_refl _⟩
    · exact ⟨3, by unfold stepC; rw [if_neg (by decide), if_pos ⟨rfl, h2⟩], h1⟩
theorem stepT_end {ws : List Nat} (hp : ws.Perm [0, 1]) : RunEnd (wordsOf stepT.ops) (wd stepT.init) ws (goalB (wd stepT.goal)) (kindH stepT 0) [0, 3] 3 true 3 := by
  have e0 : wd stepT.init = 0 := rfl
  have eg : goalB (wd stepT.goal) = fun x => goalB 1 x := rfl
  have ek : kindH stepT 0 = fun _ => 0 := rfl
  rw [e0, eg, ek]
  have n0 : nVis ws (stepC 0) = 1 := (nVis_perm hp _).trans (by decide)
  have n3 : nVis ws (stepC 3) = 2 := (nVis_perm hp _).trans (by decide)
  have x0 : endsB ws (fun x => goalB 1 x) (stepC 0) = false := (endsB_perm hp _ _).trans (by decide)
  have x3 : endsB ws (fun x => goalB 1 x) (stepC 3) = true := (endsB_perm hp _ _).trans (by decide)
  have hnx : NextOk (wordsOf stepT.ops) (fun _ => 0) 0 (stepC 0) 3 := by
    refine ⟨by decide, .inr ⟨0, 0, ⟨0, 1, 0, 3⟩, rfl, by rw [stepT_ops]; exact List.mem_singleton.2 rfl, by decide, by decide, by decide, by decide⟩, fun u hu => ?_⟩
    obtain ⟨x, c, o, h1, h2, _, _, h3, h4⟩ := hu
    obtain ⟨a, ha⟩ := List.mem_iff_getElem?.1 h2
    have := (stepT_op ha).1
    unfold stepC at h1
    split at h1
    · cases h1; have h5 : u = 0 + o.cost + 0 := h3; omega
    · rw [if_neg (fun h => absurd h.2 (by decide))] at h1; cases h1
  have r1 := RunTo.step (ops := wordsOf stepT.ops) (st := 0) (L := ws) (acc := fun x => goalB 1 x) (H := fun _ => 0) .start (by decide) (stepT_rnd hp 0) x0 hnx
  rw [n0] at r1
  exact .inr ⟨rfl, by decide, [0], 1, stepC 3, r1, stepT_rnd hp 3, x3, rfl, by rw [n3]; rfl⟩

theorem dplanStep_any (w : World) (vi vg vo : Value) (h : TaskAt w vi vg vo stepT) :
    Calls Tryz.prog 14 #[.agg #[.int .i64 1, vi, vg, vo], .int .i64 0] w fun e w' => ∃ v, e = .returned (.tuple #[resV true v 3 3, fltV 0 0]) ∧ Ints w' v [0] ∧ Keeps (fun _ => False) w w' := by
  refine (callsIn_wide.1 (dplan_in w vi vg vo stepT 0 h)).mono ?_
  rintro e w' ⟨hk, fnd, vp, lp, c, n, fc, fi, rfl, hi, hr⟩
  rcases hr with ⟨h1, _⟩ | ⟨_, n0, hr, _, hx⟩
  · cases h1
  rcases hr with ⟨h1, h2, _⟩ | ⟨_, _, l, b, hl, hb, hr⟩
  · rw [stepT_expF] at h2; cases h2; exact absurd rfl h1
  · obtain rfl := LeastOf.unique hb stepT_least
    rcases hr with ⟨h1, _⟩ | ⟨_, rfl, rfl, hg⟩
    · exact absurd h1 (by decide)
    · obtain ⟨rfl, q, y, rfl, hrun, hacc, hlen, hcost, rfl⟩ := hg.some_ (by decide)
      have hz := (stepT_run hrun).2
      have hl1 : q.length = 1 := by omega
      obtain ⟨a, rfl⟩ := List.length_eq_one_iff.1 hl1
      obtain rfl := hz a (by simp)
      obtain ⟨l', ws, bs, bb, g1, g2, g3⟩ := hx rfl
      have e1 : l' = [0, 1] := by have := stepT_reached.symm.trans g1; cases this; rfl
      subst e1
      obtain ⟨-, rfl, -, -⟩ := g3.unique (List.Perm.refl ws) (stepT_end g2)
      exact ⟨vp, rfl, hi, hk⟩

theorem boundsStep_any (w : World) (vi vg vo : Value) (h : TaskAt w vi vg vo stepT) :
    Calls Tryz.prog 22 #[.agg #[.int .i64 1, vi, vg, vo], .int .i64 0] w fun e w' => ∃ v, e = .returned (.tuple #[v, fltV 0 0]) ∧ Ints w' v [0, 3] ∧ Keeps (fun _ => False) w w' := by
  refine (callsIn_wide.1 (bounds_in w vi vg vo stepT 0 h)).mono ?_
  rintro e w' ⟨hk, v, bs, c, i, rfl, hr⟩
  rcases hr with ⟨h1, h2, _⟩ | ⟨rfl, rfl, _, _, hi, l, ws, n, fnd, b, g1, g2, g3⟩
  · rw [show admK 0 = true from rfl, kindF_true, stepT_expF] at h2; cases h2; exact absurd rfl h1
  · have e1 : l = [0, 1] := by have := stepT_reached.symm.trans g1; cases this; rfl
    subst e1
    obtain ⟨rfl, -, -, -⟩ := g3.unique (List.Perm.refl ws) (stepT_end g2)
    exact ⟨v, rfl, hi, hk⟩

set_option maxRecDepth 100000 in
set_option maxHeartbeats 2000000 in
theorem deepExample_any (w : World) : Calls Tryz.prog 12 #[] w fun e w' => e = .returned (.bool true) ∧ Keeps (fun _ => False) w w' := by
  go_enter Tryz.func12, Tryz.ntmps12
  go_wp2_with fail
  refine (step_any _).mono ?_; rintro e w1 ⟨vi, vg, vo, rfl, ht, hk⟩
  have HT := Lib.hid ht; have K1 := Lib.hid hk
  clear ht hk
  go_wp2_with fail
  refine (dplanStep_any _ _ _ _ HT.out).mono ?_; rintro e w2 ⟨vp, rfl, hp, hk⟩
  obtain ⟨ap, cp, hvp, _⟩ := hp.form
  subst hvp
  have HP := Lib.hid hp; have K2 := Lib.hid (K1.out.trans hk)
  clear hp hk HT
  simp only [resV, fltV]
  have KA := (Keeps.refl (fun _ => False) w2).alloc (.cells #[.bool true, .slice ap 1 cp, .int .i64 3, .int .i64 3] 29)
  have KB := (Keeps.refl (fun _ => False) (w2.alloc (.cells #[.bool true, .slice ap 1 cp, .int .i64 3, .int .i64 3] 29))).alloc (.cells #[.int .i64 0, .int .i64 0] 31)
  have H3 := Lib.hid (KB.heap (heap_alloc_new w2 (.cells #[.bool true, .slice ap 1 cp, .int .i64 3, .int .i64 3] 29)) (fun h => h))
  have hf := heap_alloc_new (w2.alloc (.cells #[.bool true, .slice ap 1 cp, .int .i64 3, .int .i64 3] 29)) (.cells #[.int .i64 0, .int .i64 0] 31)
  rw [World.size_alloc] at hf
  have F3 := Lib.hid hf
  have K3 := Lib.hid (K2.out.trans (KA.trans KB)); have HP3 := Lib.hid (HP.out.keeps0 (KA.trans KB))
  clear KA KB hf
  go_upto_region 2 with fail
  generalize (w2.alloc (.cells #[.bool true, .slice ap 1 cp, .int .i64 3, .int .i64 3] 29)).alloc (.cells #[.int .i64 0, .int .i64 0] 31) = w3 at H3 F3 K3 HP3 ⊢
  generalize w2.heap.size = b3 at H3 F3 ⊢
  go_wp2_with fail
  refine (step_any _).mono ?_; rintro e w4 ⟨vi2, vg2, vo2, rfl, ht, hk⟩
  have HT := Lib.hid ht; have K4 := Lib.hid (K3.out.trans hk); have HP4 := Lib.hid (HP3.out.keeps0 hk); have H4 := Lib.hid (hk.heap H3.out (fun h => h)); have F4 := Lib.hid (hk.heap F3.out (fun h => h))
  clear ht hk
  go_wp2_with fail
  refine (boundsStep_any _ _ _ _ HT.out).mono ?_; rintro e w5 ⟨vs, rfl, hvs, hk⟩
  simp only [fltV]
  have KA := (Keeps.refl (fun _ => False) w5).alloc (.cells #[.int .i64 0, .int .i64 0] 31)
  have KB := hk.trans KA
  have HVS := Lib.hid (hvs.keeps0 KA)
  have G6 := Lib.hid (heap_alloc_new w5 (.cells #[.int .i64 0, .int .i64 0] 31))
  have K6 := Lib.hid (K4.out.trans KB); have HP6 := Lib.hid (HP4.out.keeps0 KB); have H6 := Lib.hid (KB.heap H4.out (fun h => h)); have F6 := Lib.hid (KB.heap F4.out (fun h => h))
  clear hk KA KB
  go_upto_region 3 with fail
  generalize w5.alloc (.cells #[.int .i64 0, .int .i64 0] 31) = w6 at G6 K6 HP6 H6 F6 HVS ⊢
  generalize w5.heap.size = b6 at G6 ⊢
  obtain ⟨g0, g1, _, _, gl⟩ := pair_cells G6.out
  obtain ⟨f0, f1, _, _, fl⟩ := pair_cells F6.out
  obtain ⟨r0, r1, r2, r3, rl⟩ := quad_cells H6.out
  go_wp2_with fail
  refine (isOne_any _ _ _ HP6.out).mono ?_; rintro e w7 ⟨rfl, hk⟩
  have K7 := Lib.hid (K6.out.trans hk)
  have G7 := Lib.hid (hk.heap G6.out (fun h => h)); have H7 := Lib.hid (hk.heap H6.out (fun h => h)); have HV7 := Lib.hid (HVS.out.keeps0 hk)
  clear hk g0 g1 gl f0 f1 fl r0 r1 r2 r3 rl
  obtain ⟨g0, g1, _, _, gl⟩ := pair_cells G7.out
  obtain ⟨r0, r1, r2, r3, rl⟩ := quad_cells H7.out
  have KC := (Keeps.refl (fun _ => False) w7).alloc (.cells #[.int .i64 0, .int .i64 3] 3)
  have HV8 := Lib.hid (HV7.out.keeps0 KC)
  have HN8 := Lib.hid (Ints.two (heap_alloc_new w7 (.cells #[.int .i64 0, .int .i64 3] 3)))
  have K8 := Lib.hid (K7.out.trans KC)
  clear KC
  go_wp2_with fail
  refine (ints_any _ _ _ [0, 3] [0, 3] HV8.out HN8.out).mono ?_; rintro e w9 ⟨rfl, hk⟩
  have K9 := Lib.hid (K8.out.trans hk)
  clear hk
  go_wp2_with fail
  go_ret
  exact ⟨rfl, K9.out⟩

end Go.Proofs.YtkjmgafnaddhkaaGreat

namespace Go.Proofs.YtkjmgafnaddhkaaGreat
open Go.RowKit Go.Shelf

theorem IArr.get {W : World} {g : Nat} {v : List Int} (h : IArr W g v) {j : Nat} (hj : j < v.length) : W.cell? ⟨g, j, none⟩ = some (.int .i64 (getV v (j : Int))) := h.cell (getV_at hj)

section
variable (w3 : World) (g n : Nat)
end

end Go.Proofs.YtkjmgafnaddhkaaGreat

namespace Go.Proofs.YtkjmgafnaddhkaaGreat
open Go.RowKit Go.Shelf

theorem store_func {P : Program} {w : World} (a : Addr) (m : Mode) (fn : Fn) (first captured : Array Value) : (store a (.func fn first captured) m).run P w = stored P w a (.func fn first captured) m := run_store P w a _ m rfl
attribute [local go_sem] store_func

end Go.Proofs.YtkjmgafnaddhkaaGreat

namespace Go.Proofs.YtkjmgafnaddhkaaGreat
open Go.RowKit Go.Shelf

theorem RunTo.len {ops : List Wop} {st : Nat} {L : List Nat} {acc : Nat → Bool} {H : Nat → Int} (h0 : 0 ≤ H st) {bs : List Int} {n b : Int} (h : RunTo ops st L acc H bs n b) : (bs.length : Int) ≤ b ∧ 0 ≤ n ∧ n ≤ (L.length : Int) * b := by
  induction h with
  | start => exact ⟨h0, Int.le_refl _, Int.mul_nonneg (by omega) h0⟩
  | @step bs n b v C _ hb _ _ hv ih =>
    have h1 := hv.gt hb
    have h2 := nVis_le L C
    have h3 : (L.length : Int) * (b + 1) ≤ (L.length : Int) * v := Int.mul_le_mul_of_nonneg_left (by omega) (by omega)
    rw [Int.mul_add, Int.mul_one] at h3
    rw [List.length_append, List.length_singleton]
    exact ⟨by omega, by omega, by omega⟩

end Go.Proofs.YtkjmgafnaddhkaaGreat

namespace Go.Proofs.YtkjmgafnaddhkaaGreat
open Go.RowKit Go.Shelf

theorem bplan_agree {t : Tsk} {f f' : Bool} {p p' : List Int} {c c' n n' a a' b b' : Int} (h : BPlanIs t f p c n a b) (h' : BPlanIs t f' p' c' n' a' b') : a = a' ∧ b = b' ∧ f = f' ∧ c = c' ∧ p.length = p'.length := by
  rcases h with ⟨h1, h2, rfl, rfl, rfl, _⟩ | ⟨h1, ok, l, m, hx, hb, hh⟩
  · rcases h' with ⟨k1, k2, rfl, rfl, rfl, _⟩ | ⟨k1, _⟩
    · rw [h2] at k2; cases k2; exact ⟨rfl, rfl, rfl, rfl, rfl⟩
    · rw [h2] at k1; cases k1; exact absurd rfl h1
  · rcases h' with ⟨k1, k2, _⟩ | ⟨_, _, l', m', hx', hb', hh'⟩
    · rw [h1] at k2; cases k2; exact absurd rfl k1
    · have e : m = m' := hb.unique hb'
      subst e
      rcases hh with ⟨g1, rfl, rfl, rfl, rfl, rfl, _⟩ | ⟨g1, rfl, rfl, g⟩
      · rcases hh' with ⟨k1, rfl, rfl, rfl, rfl, rfl, _⟩ | ⟨k1, _⟩
        · exact ⟨rfl, rfl, rfl, rfl, rfl⟩
        · omega
      · rcases hh' with ⟨k1, _⟩ | ⟨k1, rfl, rfl, k⟩
        · omega
        · by_cases hm : m < 0
          · obtain ⟨rfl, rfl, rfl⟩ := g.none_ hm
            obtain ⟨rfl, rfl, rfl⟩ := k.none_ hm
            exact ⟨rfl, rfl, rfl, rfl, rfl⟩
          · obtain ⟨rfl, q, y, rfl, hr, _, hl, hc, rfl⟩ := g.some_ (by omega)
            obtain ⟨rfl, q', y', rfl, hr', _, hl', hc', rfl⟩ := k.some_ (by omega)
            refine ⟨rfl, rfl, rfl, ?_, ?_⟩
            · rw [costL_is, costL_is]; omega
            · unfold intsP; rw [List.length_map, List.length_map]; omega

end Go.Proofs.YtkjmgafnaddhkaaGreat

namespace Go.Proofs.YtkjmgafnaddhkaaGreat
open Go.RowKit

section
variable {ops : List Wop} {st : Nat} {L : List Nat} {acc : Nat → Bool} {H : Nat → Int} {bs : List Int} {n b : Int} {fnd : Bool}
theorem RunTo.small (h : RunTo ops st L acc H bs n b) : ∀ c ∈ bs, c < 1000000000 := by
  induction h with
  | start => intro c hc; cases hc
  | step _ hb _ _ _ ih =>
    intro c hc
    rcases List.mem_append.1 hc with h | h
    · exact ih c h
    · rw [List.mem_singleton] at h; subst h; exact hb
/-- The first bound is the value of the start. -/
theorem RunEnd.head (h : RunEnd ops st L acc H bs n fnd b) : (bs = [] ∧ 1000000000 ≤ H st) ∨ ∃ r, bs = H st :: r ∧ H st < 1000000000 := by
  rcases h with ⟨_, hr, hb⟩ | ⟨_, hb, bs0, n0, C, hr, _, _, e, _⟩
  · obtain ⟨_, _, h3, h4⟩ := hr.rise
    cases hbs : bs with
    | nil => exact .inl ⟨rfl, by rw [← h4 hbs]; exact hb⟩
    | cons x r =>
      have h5 := h3 (by rw [hbs]; simp)
      rw [hbs] at h5
      simp only [List.head?_cons, Option.some.injEq] at h5
      subst h5
      exact .inr ⟨r, rfl, hr.small _ (by rw [hbs]; simp)⟩
  · obtain ⟨_, _, h3, h4⟩ := hr.rise
    subst e
    cases hbs : bs0 with
    | nil => exact .inr ⟨[], by rw [h4 hbs]; rfl, by rw [← h4 hbs]; exact hb⟩
    | cons x r =>
      have h5 := h3 (by rw [hbs]; simp)
      rw [hbs] at h5
      simp only [List.head?_cons, Option.some.injEq] at h5
      subst h5
      exact .inr ⟨r ++ [b], rfl, hr.small _ (by rw [hbs]; simp)⟩
theorem RunEnd.rise (h : RunEnd ops st L acc H bs n fnd b) : bs.Pairwise (· < ·) := by
  rcases h with ⟨_, hr, _⟩ | ⟨_, _, bs0, n0, C, hr, _, _, e, _⟩
  · exact hr.rise.1
  · subst e
    refine List.pairwise_append.2 ⟨hr.rise.1, List.pairwise_singleton _ _, fun a ha c hc => ?_⟩
    rw [List.mem_singleton] at hc; subst hc
    exact hr.rise.2.1 a ha
theorem RunEnd.few (h0 : 0 ≤ H st) (h : RunEnd ops st L acc H bs n fnd b) : bs.length ≤ 1000000001 ∧ (∀ c ∈ bs, c < 1000000000) ∧ ∀ c ∈ bs, 0 ≤ c := by
  have lo : ∀ {bs : List Int} {n b : Int}, RunTo ops st L acc H bs n b → ∀ c ∈ bs, 0 ≤ c := fun hr => by
    induction hr with
    | start => intro c hc; cases hc
    | step hr _ _ _ _ ih =>
      intro c hc
      rcases List.mem_append.1 hc with h | h
      · exact ih c h
      · rw [List.mem_singleton] at h; subst h; exact hr.low0 h0
  have hi : ∀ {bs : List Int} {n b : Int}, RunTo ops st L acc H bs n b → bs.length ≤ 1000000000 := fun hr => by
    cases hr with
    | start => simp
    | step hr hb _ _ _ =>
      have := (hr.few h0).1
      rw [List.length_append, List.length_singleton]; omega
  rcases h with ⟨_, hr, _⟩ | ⟨_, hb, bs0, n0, C, hr, _, _, e, _⟩
  · exact ⟨by have := hi hr; omega, hr.small, lo hr⟩
  · subst e
    refine ⟨by have := hi hr; rw [List.length_append, List.length_singleton]; omega, fun c hc => ?_, fun c hc => ?_⟩
    · rcases List.mem_append.1 hc with h | h
      · exact hr.small c h
      · rw [List.mem_singleton] at h; subst h; exact hb
    · rcases List.mem_append.1 hc with h | h
      · exact lo hr c h
      · rw [List.mem_singleton] at h; subst h; exact hr.low0 h0
/-- The last bound is the cost of a cheapest plan. -/
theorem RunEnd.opt (hsh : Shut ops L) (h0 : ∀ o ∈ ops, 0 ≤ o.cost ∧ o.cost ≤ 100) (hL : L.length ≤ 2000) (hcl : ∀ p y, runOps ops st p = some y → y ∈ L) (ad : Adm ops L acc H) (hst : st ∈ L) (h : RunEnd ops st L acc H bs n fnd b)
    {L2 : List Nat} (hsh2 : Shut ops L2) (hst2 : st ∈ L2) {D : Nat → Int} (hD : CostOk (arcs ops L2) (L2.map acc) (L2.map D)) : 1000000000 ≤ D st ∨ ∃ r, bs = r ++ [D st] := by
  have hbig : bigC = 1000000000 := rfl
  rcases h with ⟨_, hr, hb⟩ | ⟨_, hb, bs0, n0, C, hr, hC, he, e, _⟩
  · left
    rcases deep_none hsh h0 hL hcl ad hst hr hb with ⟨_, h2⟩ | ⟨h2, _⟩
    · exact Int.not_lt.1 (fun hlt => by
        obtain ⟨q, y, hq, hy⟩ := opt_some hD hst2 (by omega)
        rw [h2 q y hq] at hy; cases hy)
    · omega
  · right
    unfold endsB at he
    rw [List.any_eq_true] at he
    obtain ⟨x, hx, hxa⟩ := he
    rw [Bool.and_eq_true] at hxa
    obtain ⟨c, hc⟩ := Option.isSome_iff_exists.1 hxa.1
    obtain ⟨q, vs, hw, hcq⟩ := hC.real x c hc
    have hsb : H st ≤ b := by
      obtain ⟨_, h2, h3, h4⟩ := hr.rise
      by_cases he : bs0 = []
      · rw [h4 he]; exact Int.le_refl _
      · have h6 := h2 (H st) (List.mem_of_mem_head? (h3 he)); omega
    have h1 := hw.worth hsb
    have h2 := ad.lo x hx
    have h3 := hr.low hsh ad hst hw.run hxa.2
    have hmin : ∀ p z, runOps ops st p = some z → acc z = true → costN ops q ≤ costN ops p := fun p z hp hz => by have := hr.low hsh ad hst hp hz; omega
    obtain ⟨q', g1, g2, g3⟩ := short_run h0 hcl q.length (Nat.le_refl _) hw.run
    have hmin' : ∀ p z, runOps ops st p = some z → acc z = true → costN ops q' ≤ costN ops p := fun p z hp hz => by have := hmin p z hp hz; omega
    have := opt_is hsh2 h0 hD hst2 g1 hxa.2 (by omega) hmin'
    have h4 := hmin q' x g1 hxa.2
    exact ⟨bs0, by rw [e, this, show costN ops q' = b by omega]⟩
end

/-- What Bounds says. -/
def BdsP (t : Tsk) (k : Int) (bs : List Int) (c i : Int) : Prop :=
  (c ≠ 0 ∧ (c, i) = kindF t (admK k) ∧ bs = []) ∨ (c = 0 ∧ i = 0 ∧ admK k = true ∧ t.Ok ∧ ∃ (l ws : List Nat) (n : Int) (fnd : Bool) (b : Int), explored t = some l ∧ ws.Perm l ∧ RunEnd (wordsOf t.ops) (wd t.init) ws (goalB (wd t.goal)) (kindH t k) bs n fnd b)
theorem bounds_any (w : World) (vi vg vo : Value) (t : Tsk) (k : Int) (h : TaskAt w vi vg vo t) :
    Calls Tryz.prog 22 #[.agg #[.int .i64 t.n, vi, vg, vo], .int .i64 k] w fun e w' => Keeps (fun _ => False) w w' ∧ ∃ (av : Option Addr) (cv : Nat) (bs : List Int) (c i : Int), e = .returned (.tuple #[.slice av bs.length cv, fltV c i]) ∧ Ints w' (.slice av bs.length cv) bs ∧ BdsP t k bs c i := by
  refine (callsIn_wide.1 (bounds_in w vi vg vo t k h)).mono ?_
  rintro e w' ⟨hk, v, bs, c, i, rfl, hr⟩
  rcases hr with ⟨h1, h2, rfl, rfl⟩ | ⟨rfl, rfl, h3, ok, hi, hx⟩
  · exact ⟨hk, none, 0, [], c, i, rfl, Ints.nil _, .inl ⟨h1, h2, rfl⟩⟩
  · obtain ⟨av, cv, rfl, _⟩ := hi.form
    exact ⟨hk, av, cv, bs, 0, 0, rfl, hi, .inr ⟨rfl, rfl, h3, ok, hx⟩⟩
theorem dplan_any (w : World) (vi vg vo : Value) (t : Tsk) (k : Int) (h : TaskAt w vi vg vo t) :
    Calls Tryz.prog 14 #[.agg #[.int .i64 t.n, vi, vg, vo], .int .i64 k] w (DPlanPost t k w) := callsIn_wide.1 (dplan_in w vi vg vo t k h)
/-- The reference's list of states. -/
theorem reached_facts {t : Tsk} (ok : t.Ok) {l : List Nat} (hx : explored t = some l) : l[0]? = some (wd t.init) ∧ (∀ x ∈ l, Good t.n x) ∧ ∀ p y, runOps (wordsOf t.ops) (wd t.init) p = some y → y ∈ l := by
  have hr := reached_some (ops := wordsOf t.ops) (s := wd t.init) (l := l) hx
  exact ⟨hr.2.2.1, good_explored ok hx, fun p y h => (hr.2.2.2 y).2 (reach_run p .refl h)⟩
theorem adm_kind {t : Tsk} (ok : t.Ok) {k : Int} (hk : admK k = true) {l : List Nat} (hx : explored t = some l) {ws : List Nat} (hp : ws.Perm l) : Adm (wordsOf t.ops) ws (goalB (wd t.goal)) (kindH t k) := (says_kind hk t l ok hx).2.perm hp

end Go.Proofs.YtkjmgafnaddhkaaGreat

namespace Go.Proofs.YtkjmgafnaddhkaaGreat
open Go.RowKit Go.Shelf

/-- Both searches find plans that are alike. -/
theorem dagree {t : Tsk} {k : Int} {fx fy : Bool} {px py : List Int} {cx cy nx ny fcx fix fcy fiy : Int} (hx : DPF t k fx px cx nx fcx fix) (hy : PlanIsK t (admK k) fy py cy ny fcy fiy) : fcx = fcy ∧ fix = fiy ∧ fx = fy ∧ cx = cy ∧ px.length = py.length := by
  rcases hx with ⟨ha, h1, h2, rfl, rfl, rfl, _⟩ | ⟨ha, n0, hx, _, _⟩
  · rcases hy with ⟨h3, _⟩ | ⟨_, h3, h4, rfl, rfl, rfl, _⟩
    · rw [ha] at h3; cases h3
    · have e := h2.trans h3.symm
      simp only [Prod.mk.injEq] at e
      exact ⟨e.1, e.2, rfl, rfl, rfl⟩
  · rcases hy with ⟨_, hy⟩ | ⟨h3, _⟩
    · obtain ⟨e1, e2, e3, e4, e5⟩ := bplan_agree hx hy
      exact ⟨e1, e2, e3, e4, e5⟩
    · rw [ha] at h3; cases h3
theorem dopt_cases {t : Tsk} {k : Int} {bs : List Int} {i nn : Int} (hp : BdsP t k bs 0 i) (ho : ((expF t).1 ≠ 0 ∧ (0 : Int) = (expF t).1) ∨ ((0 : Int) = 0 ∧ t.Ok ∧ ∃ (l ws : List Nat) (D : Nat → Int), explored t = some l ∧ ws.Perm l ∧ CostOk (arcs (wordsOf t.ops) ws) (ws.map (goalB (wd t.goal))) (ws.map D) ∧ nn = D (wd t.init))) :
    (∀ (i j : Nat) (x y : Int), i < j → bs[i]? = some x → bs[j]? = some y → x < y) ∧ bs.length ≤ 1000000001 ∧ (∀ c ∈ bs, c < 1000000000) ∧ (1000000000 ≤ nn ∨ ∃ r, bs = r ++ [nn] ∧ nn < 1000000000) := by
  rcases hp with ⟨h, _⟩ | ⟨_, _, hk, ok, l, ws, n, fnd, b, hx, hpm, hend⟩
  · exact absurd rfl h
  rcases ho with ⟨h1, h2⟩ | ⟨_, _, l', ws', D, g1, g2, g3, rfl⟩
  · exact absurd h2.symm h1
  have e : l' = l := by have := g1.symm.trans hx; cases this; rfl
  subst e
  have had := adm_kind ok hk hx hpm
  have hnd := costs_need ok hx hpm
  have hnd' := costs_need ok hx g2
  have hcl := (reached_facts ok hx).2.2
  obtain ⟨f1, f2, f3⟩ := hend.few (had.lo _ hnd.2.2.2.2.2.2.2).1
  have hpw := hend.rise
  refine ⟨fun i j x y hij hi hj => ?_, f1, f2, ?_⟩
  · rw [List.pairwise_iff_getElem] at hpw
    obtain ⟨i1, rfl⟩ := List.getElem?_eq_some_iff.1 hi
    obtain ⟨j1, rfl⟩ := List.getElem?_eq_some_iff.1 hj
    exact hpw i j i1 j1 hij
  · rcases hend.opt hnd.2.2.2.1 (ops_cost ok) hnd.2.2.2.2.1 (fun p y h => hpm.mem_iff.2 (hcl p y h)) had hnd.2.2.2.2.2.2.2 hnd'.2.2.2.1 hnd'.2.2.2.2.2.2.2 g3 with h | ⟨r, hr⟩
    · exact .inl h
    · by_cases hbig : 1000000000 ≤ D (wd t.init)
      · exact .inl hbig
      · exact .inr ⟨r, hr, by omega⟩

set_option maxRecDepth 100000 in
set_option maxHeartbeats 4000000 in
theorem dagreeLaw_any (w : World) (vi vg vo : Value) (t : Tsk) (k : Int) (h : TaskAt w vi vg vo t) :
    Calls Tryz.prog 7 #[.agg #[.int .i64 t.n, vi, vg, vo], .int .i64 k] w fun e w' => e = .returned (.bool true) ∧ Keeps (fun _ => False) w w' := by
  obtain ⟨ai, ci, h1, _⟩ := h.init.form
  obtain ⟨ag, cg, h2, _⟩ := h.goal.form
  obtain ⟨ao, co, h3, hmo⟩ := h.ops.form
  subst h1 h2 h3
  have HB := Lib.hid (Four.new w (.int .i64 t.n) (.slice ai t.init.length ci) (.slice ag t.goal.length cg) (.slice ao t.ops.length co) 25)
  have K1 := (Keeps.refl (fun _ => False) w).alloc (.cells #[.int .i64 t.n, .slice ai t.init.length ci, .slice ag t.goal.length cg, .slice ao t.ops.length co] 25)
  have HT := Lib.hid (h.keeps0 K1); have HK := Lib.hid K1
  clear h K1
  go_enter Tryz.func7, Tryz.ntmps7
  go_upto_region 1 with fail
  generalize (w.alloc (.cells #[.int .i64 t.n, .slice ai t.init.length ci, .slice ag t.goal.length cg, .slice ao t.ops.length co] 25)) = w1 at HB HT HK ⊢
  generalize w.heap.size = bt at HB ⊢
  go_wp2_with fail
  refine (deepExample_any _).mono ?_; rintro e w2 ⟨rfl, hk⟩
  have HB1 := Lib.hid (HB.out.keeps0 hk); have HT1 := Lib.hid (HT.out.keeps0 hk); have HK1 := Lib.hid (HK.out.trans hk)
  clear HB HT HK hk
  have hbxd := HB1.out.lt
  obtain ⟨d0, d1, d2, d3⟩ := HB1.out
  go_wp2_with fail
  refine (dplan_any _ _ _ _ t k HT1.out).mono ?_; rintro e w4 ⟨hk, fndx, vp, lpx, cx, nx, fcx, fix, rfl, hi, hr⟩
  obtain ⟨apx, cpx, hvp, _⟩ := hi.form
  subst hvp
  have HPX := Lib.hid hr
  clear hr hbxd d0 d1 d2 d3
  simp only [resV, fltV]
  have KA := (Keeps.refl (fun _ => False) w4).alloc (.cells #[.bool fndx, .slice apx lpx.length cpx, .int .i64 cx, .int .i64 nx] 29)
  have KB := (Keeps.refl (fun _ => False) (w4.alloc (.cells #[.bool fndx, .slice apx lpx.length cpx, .int .i64 cx, .int .i64 nx] 29))).alloc (.cells #[.int .i64 fcx, .int .i64 fix] 31)
  have KC := hk.trans (KA.trans KB)
  have HB2 := Lib.hid (HB1.out.keeps0 KC); have HT2 := Lib.hid (HT1.out.keeps0 KC); have HK2 := Lib.hid (HK1.out.trans KC)
  have HRx := Lib.hid (KB.heap (heap_alloc_new w4 (.cells #[.bool fndx, .slice apx lpx.length cpx, .int .i64 cx, .int .i64 nx] 29)) (fun h => h))
  have hf := heap_alloc_new (w4.alloc (.cells #[.bool fndx, .slice apx lpx.length cpx, .int .i64 cx, .int .i64 nx] 29)) (.cells #[.int .i64 fcx, .int .i64 fix] 31)
  rw [World.size_alloc] at hf
  have HFx := Lib.hid hf
  have HIx := Lib.hid (hi.keeps0 (KA.trans KB))
  clear HB1 HT1 HK1 hk KA KB KC hf hi
  go_upto_region 4 with fail
  generalize (w4.alloc (.cells #[.bool fndx, .slice apx lpx.length cpx, .int .i64 cx, .int .i64 nx] 29)).alloc (.cells #[.int .i64 fcx, .int .i64 fix] 31) = w5 at HB2 HT2 HK2 HRx HFx HIx  ⊢
  generalize w4.heap.size = bqx at HRx HFx ⊢
  have hbxd := HB2.out.lt
  obtain ⟨d0, d1, d2, d3⟩ := HB2.out
  go_wp2_with fail
  refine (aplanK_any _ _ _ _ t k HT2.out).mono ?_; rintro e w4 ⟨hk, fndy, vp, lpy, cy, ny, fcy, fiy, rfl, hi, hr, _⟩
  obtain ⟨apy, cpy, hvp, _⟩ := hi.form
  subst hvp
  have HPY := Lib.hid hr
  clear hr hbxd d0 d1 d2 d3
  simp only [resV, fltV]
  have KA := (Keeps.refl (fun _ => False) w4).alloc (.cells #[.bool fndy, .slice apy lpy.length cpy, .int .i64 cy, .int .i64 ny] 29)
  have KB := (Keeps.refl (fun _ => False) (w4.alloc (.cells #[.bool fndy, .slice apy lpy.length cpy, .int .i64 cy, .int .i64 ny] 29))).alloc (.cells #[.int .i64 fcy, .int .i64 fiy] 31)
  have KC := hk.trans (KA.trans KB)
  have HB3 := Lib.hid (HB2.out.keeps0 KC); have HT3 := Lib.hid (HT2.out.keeps0 KC); have HK3 := Lib.hid (HK2.out.trans KC)
  have HRy := Lib.hid (KB.heap (heap_alloc_new w4 (.cells #[.bool fndy, .slice apy lpy.length cpy, .int .i64 cy, .int .i64 ny] 29)) (fun h => h))
  have hf := heap_alloc_new (w4.alloc (.cells #[.bool fndy, .slice apy lpy.length cpy, .int .i64 cy, .int .i64 ny] 29)) (.cells #[.int .i64 fcy, .int .i64 fiy] 31)
  rw [World.size_alloc] at hf
  have HFy := Lib.hid hf
  have HIy := Lib.hid (hi.keeps0 (KA.trans KB))
  have HRx' := Lib.hid (KC.heap HRx.out (fun h => h)); have HFx' := Lib.hid (KC.heap HFx.out (fun h => h))
  clear HB2 HT2 HK2 hk KA KB KC hf hi
  clear HRx
  have HRx := HRx'
  clear HRx'
  clear HFx
  have HFx := HFx'
  clear HFx'
  go_upto_region 5 with fail
  generalize (w4.alloc (.cells #[.bool fndy, .slice apy lpy.length cpy, .int .i64 cy, .int .i64 ny] 29)).alloc (.cells #[.int .i64 fcy, .int .i64 fiy] 31) = w5 at HB3 HT3 HK3 HRy HFy HIy HRx HFx ⊢
  generalize w4.heap.size = bqy at HRy HFy ⊢
  have HAG := Lib.hid (dagree HPX.out HPY.out)
  obtain ⟨rfl, rfl, rfl, rfl, hl⟩ := HAG.out
  have hll : ((lpx.length : Int) == (lpy.length : Int)) = true := by rw [hl]; simp
  obtain ⟨r0, r1, r2, r3, rl⟩ := quad_cells HRx.out
  obtain ⟨f0, f1, _, _, fl⟩ := pair_cells HFx.out
  obtain ⟨s0, s1, s2, s3, sl⟩ := quad_cells HRy.out
  obtain ⟨e0, e1, _, _, el⟩ := pair_cells HFy.out
  clear HPX HPY HAG hl HIx HIy
  go_wp2_with fail
  go_ret
  exact ⟨rfl, HK3.out⟩

set_option maxRecDepth 100000 in
set_option maxHeartbeats 4000000 in
theorem driseLaw_any (w : World) (vi vg vo : Value) (t : Tsk) (k : Int) (h : TaskAt w vi vg vo t) :
    Calls Tryz.prog 6 #[.agg #[.int .i64 t.n, vi, vg, vo], .int .i64 k] w fun e w' => e = .returned (.bool true) ∧ Keeps (fun _ => False) w w' := by
  obtain ⟨ai, ci, h1, _⟩ := h.init.form
  obtain ⟨ag, cg, h2, _⟩ := h.goal.form
  obtain ⟨ao, co, h3, hmo⟩ := h.ops.form
  subst h1 h2 h3
  have HB := Lib.hid (Four.new w (.int .i64 t.n) (.slice ai t.init.length ci) (.slice ag t.goal.length cg) (.slice ao t.ops.length co) 25)
  have K1 := (Keeps.refl (fun _ => False) w).alloc (.cells #[.int .i64 t.n, .slice ai t.init.length ci, .slice ag t.goal.length cg, .slice ao t.ops.length co] 25)
  have HT := Lib.hid (h.keeps0 K1); have HK := Lib.hid K1
  clear h K1
  go_enter Tryz.func6, Tryz.ntmps6
  go_upto_region 1 with fail
  generalize (w.alloc (.cells #[.int .i64 t.n, .slice ai t.init.length ci, .slice ag t.goal.length cg, .slice ao t.ops.length co] 25)) = w1 at HB HT HK ⊢
  generalize w.heap.size = bt at HB ⊢
  go_wp2_with fail
  refine (deepExample_any _).mono ?_; rintro e w2 ⟨rfl, hk⟩
  have HB1 := Lib.hid (HB.out.keeps0 hk); have HT1 := Lib.hid (HT.out.keeps0 hk); have HK1 := Lib.hid (HK.out.trans hk)
  clear HB HT HK hk
  have hbxd := HB1.out.lt
  obtain ⟨d0, d1, d2, d3⟩ := HB1.out
  go_wp2_with fail
  refine (bounds_any _ _ _ _ t k HT1.out).mono ?_; rintro e w4 ⟨hk, av, cv, bs, fcx, fix, rfl, hi, hp⟩
  clear hbxd d0 d1 d2 d3
  have HI := Lib.hid hi; have HP := Lib.hid hp
  clear hi hp
  simp only [fltV]
  have KA := (Keeps.refl (fun _ => False) w4).alloc (.cells #[.int .i64 fcx, .int .i64 fix] 31)
  have KC := hk.trans KA
  have HB2 := Lib.hid (HB1.out.keeps0 KC); have HT2 := Lib.hid (HT1.out.keeps0 KC); have HK2 := Lib.hid (HK1.out.trans KC)
  have HFx := Lib.hid (heap_alloc_new w4 (.cells #[.int .i64 fcx, .int .i64 fix] 31))
  have HI' := Lib.hid (HI.out.keeps0 KA)
  clear HB1 HT1 HK1 hk KA KC
  clear HI
  have HI := HI'
  clear HI'
  go_upto_region 4 with fail
  generalize (w4.alloc (.cells #[.int .i64 fcx, .int .i64 fix] 31)) = w5 at HB2 HT2 HK2 HFx HI ⊢
  generalize w4.heap.size = box at HFx ⊢
  have hbxd := HB2.out.lt
  obtain ⟨d0, d1, d2, d3⟩ := HB2.out
  go_wp2_with fail
  refine (optimal_any _ _ _ _ t HT2.out).mono ?_; rintro e w4 ⟨hk, hr⟩
  clear hbxd d0 d1 d2 d3
  have hform : ∃ nn fcy fiy, e = .returned (.tuple #[.int .i64 nn, fltV fcy fiy]) ∧ (((expF t).1 ≠ 0 ∧ fcy = (expF t).1) ∨ (fcy = 0 ∧ t.Ok ∧ ∃ (l ws : List Nat) (D : Nat → Int), explored t = some l ∧ ws.Perm l ∧ CostOk (arcs (wordsOf t.ops) ws) (ws.map (goalB (wd t.goal))) (ws.map D) ∧ nn = D (wd t.init))) := by
    rcases hr with ⟨c, i, h1, h2, h3⟩ | ⟨h1, l, ws, D, h2, h3, _, h4, h5⟩
    · exact ⟨0, c, i, h3, .inl ⟨by rw [h2]; exact h1, by rw [h2]⟩⟩
    · exact ⟨_, 0, 0, h5, .inr ⟨rfl, h1, l, ws, D, h2, h3, h4, rfl⟩⟩
  obtain ⟨nn, fcy, fiy, rfl, hopt⟩ := hform
  have HOP := Lib.hid hopt
  clear hopt hr
  simp only [fltV]
  have KA := (Keeps.refl (fun _ => False) w4).alloc (.cells #[.int .i64 fcy, .int .i64 fiy] 31)
  have KC := hk.trans KA
  have HB3 := Lib.hid (HB2.out.keeps0 KC); have HT3 := Lib.hid (HT2.out.keeps0 KC); have HK3 := Lib.hid (HK2.out.trans KC)
  have HFy := Lib.hid (heap_alloc_new w4 (.cells #[.int .i64 fcy, .int .i64 fiy] 31))
  have HFx' := Lib.hid (KC.heap HFx.out (fun h => h)); have HI' := Lib.hid (HI.out.keeps0 KC)
  clear HB2 HT2 HK2 hk KA KC
  clear HFx
  have HFx := HFx'
  clear HFx'
  clear HI
  have HI := HI'
  clear HI'
  go_upto_region 5 with fail
  generalize (w4.alloc (.cells #[.int .i64 fcy, .int .i64 fiy] 31)) = w5 at HB3 HT3 HK3 HFy HFx HI ⊢
  generalize w4.heap.size = boy at HFy ⊢
  obtain ⟨f0, f1, _, _, fl⟩ := pair_cells HFx.out
  obtain ⟨g0, g1, _, _, gl⟩ := pair_cells HFy.out
  by_cases hx0 : fcx = 0
  case neg =>
    have q1 : (fcx != 0) = true := by simpa using hx0
    have q2 : (fcx == 0) = false := by simpa using hx0
    clear HP HOP
    go_wp2_with fail
    go_ret
    exact ⟨rfl, HK3.out⟩
  case pos =>
    subst hx0
    by_cases hy0 : fcy = 0
    case neg =>
      have q1 : (fcy != 0) = true := by simpa using hy0
      have q2 : (fcy == 0) = false := by simpa using hy0
      clear HP HOP
      go_wp2_with fail
      go_ret
      exact ⟨rfl, HK3.out⟩
    case pos =>
      subst hy0
      have hbs := dopt_cases HP.out HOP.out
      obtain ⟨hrise, hlen, hlow, hlast⟩ := hbs
      have HRS := Lib.hid hrise; have HLO := Lib.hid hlow; have HLA := Lib.hid hlast
      obtain ⟨m, hm⟩ : ∃ m, bs.length = m := ⟨_, rfl⟩
      have HCV := Lib.hid (fun h => HI.out.cell (show Value.slice av bs.length cv = .slice av bs.length cv from rfl) h)
      have HM := Lib.hid hm
      rw [hm] at hlen
      rw [show (.slice av bs.length cv : Value) = .slice av m cv by rw [hm]]
      clear HP HOP hrise hlow hlast hm
      go_wp2_with fail
      go_loopw [9] (fun v9 wr => ∃ i : Nat, 1 ≤ i ∧ v9 = .int .i64 (i : Int) ∧ (i ≤ m ∨ i = 1) ∧ Keeps (fun _ => False) w5 wr) (fun v9 _ => m + 1 - (intOf v9).toNat)
      case atStart => exact ⟨1, by omega, rfl, .inr rfl, Keeps.refl _ _⟩
      case round =>
        obtain ⟨i, hi1, rfl, hi2, hkr⟩ := hrel
        have HKR := Lib.hid hkr
        clear hkr f0 f1 fl g0 g1 gl
        by_cases hlt : i < m
        · obtain ⟨bv, ov, rfl, hcv⟩ := HCV.out (by rw [HM.out]; omega)
          obtain ⟨x, hx⟩ : ∃ x, bs[i]? = some x := ⟨_, List.getElem?_eq_getElem (by rw [HM.out]; exact hlt)⟩
          obtain ⟨y, hy⟩ : ∃ y, bs[i - 1]? = some y := ⟨_, List.getElem?_eq_getElem (by rw [HM.out]; omega)⟩
          have cx := HKR.out.cell (hcv i x hx) (fun h => h)
          have cy := HKR.out.cell (hcv (i - 1) y hy) (fun h => h)
          have hxy : y < x := HRS.out (i - 1) i y x (by omega) hy hx
          have hle : decide (x ≤ y) = false := by simpa using hxy
          have i0 : (0 : Int) ≤ (i : Int) := by omega
          have i1 : (i : Int) < (m : Int) := by omega
          have j0 : (0 : Int) ≤ (i : Int) - 1 := by omega
          have j1 : (i : Int) - 1 < (m : Int) := by omega
          have ms : IntKind.i64.wrap ((i : Int) - 1) = (i : Int) - 1 := IntWalk.i64_in _ (by omega)
          have hnat : ((i : Int) - 1).toNat = i - 1 := by omega
          clear hcv hx hy
          go_upto_region 10 with fail
          go_quiet (fail)
          have HKQ := Lib.hid (HKR.out.trans ((Keeps.refl (fun _ => False) wr).drewN nq))
          clear cx cy
          generalize wr.drewN nq = wz at HKQ ⊢
          go_wp2_with fail
          go_roundw
          case rel => exact ⟨i + 1, by omega, by go_num, .inl (by omega), HKQ.out⟩
          case measure => simp [intOf]; omega
        · rcases HLA.out with h1 | ⟨r, hr, h2⟩
          · have q1 : decide (1000000000 ≤ nn) = true := by simpa using h1
            go_wp2_with fail
            go_ret
            exact ⟨rfl, HK3.out.trans HKR.out⟩
          · have hm1 : m = r.length + 1 := by rw [← HM.out, hr]; simp
            obtain ⟨bv, ov, rfl, hcv⟩ := HCV.out (by rw [HM.out]; omega)
            have cx := HKR.out.cell (hcv (m - 1) nn (by rw [hr, hm1]; simp)) (fun h => h)
            have q1 : decide (1000000000 ≤ nn) = false := by simpa using h2
            have q2 : decide (0 < (m : Int)) = true := by simp; omega
            have j0 : (0 : Int) ≤ (m : Int) - 1 := by omega
            have j1 : (m : Int) - 1 < (m : Int) := by omega
            have ms : IntKind.i64.wrap ((m : Int) - 1) = (m : Int) - 1 := IntWalk.i64_in _ (by omega)
            have hnat : ((m : Int) - 1).toNat = m - 1 := by omega
            clear hcv hr hm1
            go_wp2_with fail
            go_ret
            exact ⟨rfl, HK3.out.trans HKR.out⟩

end Go.Proofs.YtkjmgafnaddhkaaGreat
