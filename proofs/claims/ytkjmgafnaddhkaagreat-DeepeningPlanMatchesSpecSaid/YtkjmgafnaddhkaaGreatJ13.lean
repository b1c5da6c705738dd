/- deepening.Plan. bothends: the example of the laws. deepening: the example of the laws. relaxplan: levels, supporters and a plan of the task without deletions, as functions; in plain Lean. slices.ContainsFunc at int with a function value that has one or two variables of its own. Printed by genHasF.py. No condition beyond what each theorem says. -/
import Derived.Test.YtkjmgafnaddhkaaGreatJ12
import Derived.Test.YtkjmgafnaddhkaaGreatJ8
import Derived.Test.YtkjmgafnaddhkaaGreatJ10
import Derived.Test.YtkjmgafnaddhkaaGreatJ11
import Derived.Test.YtkjmgafnaddhkaaGreatJ5
import Derived.Test.YtkjmgafnaddhkaaGreatJ2

namespace Go.Proofs.YtkjmgafnaddhkaaGreat
open Go.RowKit Go.Shelf
attribute [local go_sem] Oper.semAt_some

theorem CkR.after {t : Tsk} {pb : Bool} {w1 wa w9 wf : World} {p : Value} {c i : Int} {S : Nat → Prop} (h : CkR t pb wa p c i w9) (ka : Keeps (fun _ => False) w1 wa) (hk : Keeps S w9 wf) (hS : ∀ k, S k → w1.heap.size ≤ k ∧ k < wa.heap.size) : CkR t pb w1 p c i wf :=
  h.past ka.size hk (fun k h => (hS k h).2) ((ka.trans h.1).trans' hk (fun k h => .inr (hS k h).1))
/-- The boxes of the space and of the fault, behind Checked. -/
def PlR (t : Tsk) (pb : Bool) (w1 : World) (b6 b8 : Nat) (p : Value) (c i : Int) (wc : World) : Prop :=
  wc.heap[b6]? = some (.cells #[p] 71 (0, 0)) ∧ wc.heap[b8]? = some (.cells #[.int .i64 c, .int .i64 i] 31 (0, 0)) ∧ w1.heap.size ≤ b6 ∧ w1.heap.size ≤ b8 ∧ CkR t pb w1 p c i wc
section
variable {t : Tsk} {pb : Bool} {w1 w9 : World} {p q : Value} {c i : Int}
theorem PlR.r0 (h : CkR t pb w1.drew p c i w9) : PlR t pb w1 w9.heap.size (w9.heap.size + 1) p c i ((w9.alloc (.cells #[p] 71)).alloc (.cells #[.int .i64 c, .int .i64 i] 31)) := by
  have k0 : Keeps (fun _ => False) w1 w1.drew := (Keeps.refl (fun _ => False) w1).drew
  have hz := h.1.size
  have h8 := heap_alloc_new (w9.alloc (.cells #[p] 71)) (.cells #[.int .i64 c, .int .i64 i] 31)
  rw [World.size_alloc] at h8
  exact ⟨((Keeps.refl (fun _ => False) _).alloc _).heap (heap_alloc_new w9 _) (fun h => h), h8, hz, Nat.le_succ_of_le hz, h.after k0 (((Keeps.refl (fun _ => False) w9).alloc _).alloc _) (fun _ h => h.elim)⟩
theorem PlR.r0' (h : CkR t pb w1.drew p c i w9) : PlR t pb w1 (w9.heap.size + 1) w9.heap.size p c i ((w9.alloc (.cells #[.int .i64 c, .int .i64 i] 31)).alloc (.cells #[p] 71)) := by
  have k0 : Keeps (fun _ => False) w1 w1.drew := (Keeps.refl (fun _ => False) w1).drew
  have hz := h.1.size
  have h8 := heap_alloc_new (w9.alloc (.cells #[.int .i64 c, .int .i64 i] 31)) (.cells #[p] 71)
  rw [World.size_alloc] at h8
  exact ⟨h8, ((Keeps.refl (fun _ => False) _).alloc _).heap (heap_alloc_new w9 _) (fun h => h), Nat.le_succ_of_le hz, hz, h.after k0 (((Keeps.refl (fun _ => False) w9).alloc _).alloc _) (fun _ h => h.elim)⟩
theorem PlR.r6 {wa : World} (h : CkR t pb wa p c i w9) (ka : Keeps (fun _ => False) w1 wa) (hb : w9.heap[w1.heap.size]? = some (.cells #[q] 71 (0, 0))) (hz : w1.heap.size < wa.heap.size) : PlR t pb w1 w1.heap.size w9.heap.size p c i ((w9.setCell ⟨w1.heap.size, 0, none⟩ p).alloc (.cells #[.int .i64 c, .int .i64 i] 31)) := by
  have kb : Keeps (fun k => k = w1.heap.size) w9 (w9.setCell ⟨w1.heap.size, 0, none⟩ p) := (Keeps.refl (fun k => k = w1.heap.size) w9).setCell (p := ⟨w1.heap.size, 0, none⟩) (.inl rfl) p
  have h8 := heap_alloc_new (w9.setCell ⟨w1.heap.size, 0, none⟩ p) (.cells #[.int .i64 c, .int .i64 i] 31)
  have hs : (w9.setCell ⟨w1.heap.size, 0, none⟩ p).heap.size = w9.heap.size := by simp
  rw [hs] at h8
  have := h.1.size; have := ka.size
  exact ⟨((Keeps.refl (fun _ => False) _).alloc _).heap ((show Boxed w9 w1.heap.size 71 q from hb).set p) (fun h => h), h8, Nat.le_refl _, by omega, h.after ka (kb.alloc _) (fun k e => by omega)⟩
theorem PlR.r8 {wa : World} (h : CkR t pb wa p c i w9) (ka : Keeps (fun _ => False) w1 wa) (hb : w9.heap[w1.heap.size]? = some (.cells #[.int .i64 0, .int .i64 0] 31 (0, 0))) (hz : w1.heap.size < wa.heap.size) : PlR t pb w1 w9.heap.size w1.heap.size p c i (((w9.setCell ⟨w1.heap.size, 0, none⟩ (.int .i64 c)).setCell ⟨w1.heap.size, 1, none⟩ (.int .i64 i)).alloc (.cells #[p] 71)) := by
  have kb := keeps_pair (w := w9) w1.heap.size (.int .i64 c) (.int .i64 i)
  have h8 := heap_alloc_new ((w9.setCell ⟨w1.heap.size, 0, none⟩ (.int .i64 c)).setCell ⟨w1.heap.size, 1, none⟩ (.int .i64 i)) (.cells #[p] 71)
  have hs : ((w9.setCell ⟨w1.heap.size, 0, none⟩ (.int .i64 c)).setCell ⟨w1.heap.size, 1, none⟩ (.int .i64 i)).heap.size = w9.heap.size := by simp
  rw [hs] at h8
  have := h.1.size; have := ka.size
  exact ⟨h8, ((Keeps.refl (fun _ => False) _).alloc _).heap (pair_set hb _ _) (fun h => h), by omega, Nat.le_refl _, h.after ka (kb.alloc _) (fun k e => by omega)⟩
theorem PlR.r68 {wa : World} {b6 b8 : Nat} (h : CkR t pb wa p c i w9) (ka : Keeps (fun _ => False) w1 wa) (hb : w9.heap[b6]? = some (.cells #[q] 71 (0, 0))) (hb8 : w9.heap[b8]? = some (.cells #[.int .i64 0, .int .i64 0] 31 (0, 0))) (h6 : w1.heap.size ≤ b6 ∧ b6 < wa.heap.size) (h8 : w1.heap.size ≤ b8 ∧ b8 < wa.heap.size) : PlR t pb w1 b6 b8 p c i (((w9.setCell ⟨b6, 0, none⟩ p).setCell ⟨b8, 0, none⟩ (.int .i64 c)).setCell ⟨b8, 1, none⟩ (.int .i64 i)) := by
  have hne : b6 ≠ b8 := fun e => by rw [e, hb8] at hb; cases hb
  have kb : Keeps (fun k => k = b6) w9 (w9.setCell ⟨b6, 0, none⟩ p) := (Keeps.refl (fun k => k = b6) w9).setCell (p := ⟨b6, 0, none⟩) (.inl rfl) p
  have kp := keeps_pair (w := w9.setCell ⟨b6, 0, none⟩ p) b8 (.int .i64 c) (.int .i64 i)
  exact ⟨kp.heap ((show Boxed w9 b6 71 q from hb).set p) hne, pair_set (kb.heap hb8 (fun e => hne e.symm)) _ _, h6.1, h8.1,
    h.after ka ((kb.mono (S' := fun k => k = b6 ∨ k = b8) (fun _ _ h => .inl h)).trans (kp.mono (fun _ _ h => .inr h))) (fun k e => by rcases e with e | e <;> omega)⟩
end

theorem Four.c4 {w : World} {b : Nat} {x0 x1 x2 x3 : Value} (h : Four w b x0 x1 x2 x3) : w.cell? ⟨b, 0, none⟩ = some x0 ∧ w.cell? ⟨b, 1, none⟩ = some x1 ∧ w.cell? ⟨b, 2, none⟩ = some x2 ∧ w.cell? ⟨b, 3, none⟩ = some x3 := ⟨h.c0, h.c1, h.c2, h.c3⟩
theorem Four.al {w : World} {b : Nat} {x0 x1 x2 x3 : Value} {o : Obj} (h : Four w b x0 x1 x2 x3) : Four (w.alloc o) b x0 x1 x2 x3 := h.keeps0 ((Keeps.refl _ _).alloc o)
theorem Four.se {w : World} {b q i : Nat} {x0 x1 x2 x3 v : Value} (h : Four w b x0 x1 x2 x3) (hb : b < q) : Four (w.setCell ⟨q, i, none⟩ v) b x0 x1 x2 x3 :=
  h.keepsB ((Keeps.refl (fun k => k = q) w).setCell (p := ⟨q, i, none⟩) (.inl rfl) v) (Nat.ne_of_lt hb)
/-- What is found: a best plan, and how many states the rounds visited. -/
def DPF (t : Tsk) (k : Int) (fnd : Bool) (lp : List Int) (c n fc fi : Int) : Prop :=
  (admK k = false ∧ fc ≠ 0 ∧ (fc, fi) = kindF t false ∧ fnd = false ∧ lp = [] ∧ c = 0 ∧ n = 0) ∨ (admK k = true ∧ ∃ n0 : Int, BPlanIs t fnd lp c n0 fc fi ∧ (fc ≠ 0 → n = 0) ∧
    (fc = 0 → ∃ (l ws : List Nat) (bs : List Int) (b : Int), explored t = some l ∧ ws.Perm l ∧ RunEnd (wordsOf t.ops) (wd t.init) ws (goalB (wd t.goal)) (kindH t k) bs n fnd b))
/-- What Plan hands back. -/
def DPlanPost (t : Tsk) (k : Int) (w : World) (e : Ending) (w' : World) : Prop := Keeps (fun _ => False) w w' ∧ ∃ (fnd : Bool) (vp : Value) (lp : List Int) (c n fc fi : Int), e = .returned (.tuple #[resV fnd vp c n, fltV fc fi]) ∧ Ints w' vp lp ∧ DPF t k fnd lp c n fc fi
theorem dpl_bad {t : Tsk} {k c i : Int} (hc : c ≠ 0) (he : (c, i) = kindF t (admK k)) : DPF t k false [] 0 0 c i := by
  cases ha : admK k with
  | false => rw [ha] at he; exact .inl ⟨ha, hc, he, rfl, rfl, rfl, rfl⟩
  | true =>
    rw [ha, kindF_true] at he
    exact .inr ⟨ha, 0, .inl ⟨hc, he.symm, rfl, rfl, rfl, rfl⟩, fun _ => rfl, fun h => absurd h hc⟩
theorem FMap.run_len {α : Type} {w : World} {b : Nat} {enc : α → Value} {f : Nat → Option α} {P : Program} {t kk e : TypeId} (h : FMap w b enc f) {L : List Nat} (hn : L.Nodup) (hd : ∀ x v, f x = some v → x ∈ L) (ht : P.underlying t = some (.map kk e)) (ty : TypeId) :
    (Builtin.len_ #[t] ty #[.map (some b)]).run P w = .ok (.int .i64 ((L.filter fun x => (f x).isSome).length : Int)) w := by
  obtain ⟨l, h1, h2, h3⟩ := h
  have e : (l.map Prod.fst).length = (L.filter fun x => (f x).isSome).length := by
    refine Nat.le_antisymm (nodup_sub_length h2 (fun x hx => ?_)) (nodup_sub_length (hn.sublist List.filter_sublist) (fun x hx => ?_))
    · obtain ⟨q, hq, rfl⟩ := List.mem_map.1 hx
      have hs := (h3 q.1 q.2).2 hq
      exact List.mem_filter.2 ⟨hd _ _ hs, by rw [hs]; rfl⟩
    · have h4 := (List.mem_filter.1 hx).2
      obtain ⟨v, hv⟩ := Option.isSome_iff_exists.1 h4
      exact List.mem_map.2 ⟨(x, v), (h3 x v).1 hv, rfl⟩
  have := h1.run_len (P := P) ht ty
  rw [List.length_map] at this
  rw [List.length_map] at e
  rw [this, e]
theorem RunEnd.not_found {ops : List Wop} {st : Nat} {L : List Nat} {acc : Nat → Bool} {H : Nat → Int} {bs : List Int} {n n' b b' : Int} (h : RunTo ops st L acc H bs n b) (h' : RunEnd ops st L acc H bs n' true b') : False := by
  rcases h' with ⟨h0, _⟩ | ⟨_, _, bs0, n0, C, g1, g2, g3, g4, _⟩
  · cases h0
  · rcases h.inv with ⟨e, _⟩ | ⟨bs1, n1, b1, C1, k1, _, k3, k4, _, k6, _⟩
    · rw [e] at g4; simp at g4
    · rw [k6] at g4
      have e := List.append_inj' g4 rfl
      simp only [List.cons.injEq, and_true] at e
      obtain ⟨rfl, rfl⟩ := e
      have := k3.unique g2
      subst this
      rw [k4] at g3; cases g3
set_option maxRecDepth 100000 in
set_option maxHeartbeats 2000000 in
theorem heuristicQ_any (w : World) (vi vg vo : Value) (t : Tsk) (kind : Int) (H : Nat → Int) (h : TaskAt w vi vg vo t) :
    Calls Tryz.prog 48 #[.agg #[.int .i64 t.n, vi, vg, vo], .int .i64 kind] w fun e w' => ∃ kb tb qb mb : Nat, e = .returned (.func (.func 77) #[] #[.pointer (some ⟨kb, 0, none⟩), .pointer (some ⟨tb, 0, none⟩), .pointer (some ⟨qb, 0, none⟩)]) ∧
      HeurM t kind H w kb tb qb mb vi vg vo w' ∧ w.heap.size ≤ mb ∧ kb < w'.heap.size ∧ tb < w'.heap.size ∧ qb < w'.heap.size ∧ mb < w'.heap.size ∧ Keeps (fun _ => False) w w' ∧ w.heap.size ≤ qb := by
  have hmm := @run_makeMap Tryz.prog
  have hmf : ∀ (fn : Fn) (first cap : Array Value) (w : World), (Instr.makeFunc fn first cap).run Tryz.prog w = .ok (.func fn first cap) w := fun _ _ _ _ => rfl
  obtain ⟨ai, ci, h1, _⟩ := h.init.form
  obtain ⟨ag, cg, h2, _⟩ := h.goal.form
  obtain ⟨ao, co, h3, hmo⟩ := h.ops.form
  subst h1 h2 h3
  clear h
  go_enter Tryz.func48, Tryz.ntmps48
  go_wp2_with fail
  go_ret
  have b1 := heap_alloc_new w (.cells #[.int .i64 t.n, .slice ai t.init.length ci, .slice ag t.goal.length cg, .slice ao t.ops.length co] 25)
  have b2 := heap_alloc_new (w.alloc (.cells #[.int .i64 t.n, .slice ai t.init.length ci, .slice ag t.goal.length cg, .slice ao t.ops.length co] 25)) (.cells #[.int .i64 kind] 3)
  have k2 := (Keeps.refl (fun _ => False) (w.alloc (.cells #[.int .i64 t.n, .slice ai t.init.length ci, .slice ag t.goal.length cg, .slice ao t.ops.length co] 25))).alloc (.cells #[.int .i64 kind] 3)
  have m3 := FMap.made ((w.alloc (.cells #[.int .i64 t.n, .slice ai t.init.length ci, .slice ag t.goal.length cg, .slice ao t.ops.length co] 25)).alloc (.cells #[.int .i64 kind] 3)) intV
  have k3 := (Keeps.refl (fun _ => False) ((w.alloc (.cells #[.int .i64 t.n, .slice ai t.init.length ci, .slice ag t.goal.length cg, .slice ao t.ops.length co] 25)).alloc (.cells #[.int .i64 kind] 3))).alloc (.map #[] 0)
  have b4 := heap_alloc_new (((w.alloc (.cells #[.int .i64 t.n, .slice ai t.init.length ci, .slice ag t.goal.length cg, .slice ao t.ops.length co] 25)).alloc (.cells #[.int .i64 kind] 3)).alloc (.map #[] 0)) (.cells #[.map (some (w.heap.size + 1 + 1))] 80)
  have k4 := (Keeps.refl (fun _ => False) (((w.alloc (.cells #[.int .i64 t.n, .slice ai t.init.length ci, .slice ag t.goal.length cg, .slice ao t.ops.length co] 25)).alloc (.cells #[.int .i64 kind] 3)).alloc (.map #[] 0))).alloc (.cells #[.map (some (w.heap.size + 1 + 1))] 80)
  have k1 := (Keeps.refl (fun _ => False) w).alloc (.cells #[.int .i64 t.n, .slice ai t.init.length ci, .slice ag t.goal.length cg, .slice ao t.ops.length co] 25)
  rw [World.size_alloc] at b2
  rw [World.size_alloc, World.size_alloc] at m3
  rw [World.size_alloc, World.size_alloc, World.size_alloc] at b4
  have k34 := k3.trans k4
  exact ⟨w.heap.size + 1 + 1 + 1, w.heap.size, w.heap.size + 1, w.heap.size + 1 + 1, rfl, ⟨b4, k34.heap (k2.heap b1 (fun h => h)) (fun h => h), k34.heap b2 (fun h => h), ⟨_, m3.keeps k4 (fun h => h), fun x v hx => by cases hx⟩, k1.trans (k2.trans k34)⟩, by omega, by simp only [World.size_alloc]; omega, by simp only [World.size_alloc]; omega, by simp only [World.size_alloc]; omega, by simp only [World.size_alloc]; omega, k1.trans (k2.trans k34), by omega⟩
theorem cells5 {w w' : World} {b b6 : Nat} {x0 x1 x2 x3 x4 : Value} (hk : Keeps (fun _ => False) w w') (h : w.cell? ⟨b, 0, none⟩ = some x0 ∧ w.cell? ⟨b, 1, none⟩ = some x1 ∧ w.cell? ⟨b, 2, none⟩ = some x2 ∧ w.cell? ⟨b, 3, none⟩ = some x3 ∧ w.cell? ⟨b6, 0, none⟩ = some x4) : w'.cell? ⟨b, 0, none⟩ = some x0 ∧ w'.cell? ⟨b, 1, none⟩ = some x1 ∧ w'.cell? ⟨b, 2, none⟩ = some x2 ∧ w'.cell? ⟨b, 3, none⟩ = some x3 ∧ w'.cell? ⟨b6, 0, none⟩ = some x4 :=
  ⟨hk.cell h.1 (fun h => h), hk.cell h.2.1 (fun h => h), hk.cell h.2.2.1 (fun h => h), hk.cell h.2.2.2.1 (fun h => h), hk.cell h.2.2.2.2 (fun h => h)⟩
theorem cells8 {w w' : World} {b r b6 b9 : Nat} {x0 x1 x2 x3 x4 x5 x6 x7 : Value} (hk : Keeps (fun _ => False) w w') (h : w.cell? ⟨b, 0, none⟩ = some x0 ∧ w.cell? ⟨b, 1, none⟩ = some x1 ∧ w.cell? ⟨b, 2, none⟩ = some x2 ∧ w.cell? ⟨b, 3, none⟩ = some x3 ∧ w.cell? ⟨r, 1, none⟩ = some x4 ∧ w.cell? ⟨r, 3, none⟩ = some x5 ∧ w.cell? ⟨b6, 0, none⟩ = some x6 ∧ w.cell? ⟨b9, 0, none⟩ = some x7) : w'.cell? ⟨b, 0, none⟩ = some x0 ∧ w'.cell? ⟨b, 1, none⟩ = some x1 ∧ w'.cell? ⟨b, 2, none⟩ = some x2 ∧ w'.cell? ⟨b, 3, none⟩ = some x3 ∧ w'.cell? ⟨r, 1, none⟩ = some x4 ∧ w'.cell? ⟨r, 3, none⟩ = some x5 ∧ w'.cell? ⟨b6, 0, none⟩ = some x6 ∧ w'.cell? ⟨b9, 0, none⟩ = some x7 :=
  ⟨hk.cell h.1 (fun h => h), hk.cell h.2.1 (fun h => h), hk.cell h.2.2.1 (fun h => h), hk.cell h.2.2.2.1 (fun h => h), hk.cell h.2.2.2.2.1 (fun h => h), hk.cell h.2.2.2.2.2.1 (fun h => h), hk.cell h.2.2.2.2.2.2.1 (fun h => h), hk.cell h.2.2.2.2.2.2.2 (fun h => h)⟩
theorem dpl_mid {t : Tsk} {k : Int} {H : Nat → Int} {wc w4 wd w5 : World} {kb tb qb mb : Nat} {vi vg vo : Value} (hhm : HeurM t k H wd kb tb qb mb vi vg vo w5) (h1 : wd.heap.size ≤ mb) (h2 : kb < w5.heap.size) (h3 : tb < w5.heap.size) (h4 : qb < w5.heap.size) (h5 : mb < w5.heap.size) (hk5 : Keeps (fun _ => False) wd w5) (hkd : Keeps (fun _ => False) w4 wd) (hk4 : Keeps (fun _ => False) wc w4) (hq : wd.heap.size ≤ qb) (b gh : Nat) :
    HeurM t k H wc kb tb qb mb vi vg vo ((w5.alloc (.cells #[.pointer (some ⟨b, 0, none⟩)] 71)).alloc (.cells #[.func (.func gh) #[] #[.pointer (some ⟨kb, 0, none⟩), .pointer (some ⟨tb, 0, none⟩), .pointer (some ⟨qb, 0, none⟩)]] 77)) ∧ Keeps (fun _ => False) w4 ((w5.alloc (.cells #[.pointer (some ⟨b, 0, none⟩)] 71)).alloc (.cells #[.func (.func gh) #[] #[.pointer (some ⟨kb, 0, none⟩), .pointer (some ⟨tb, 0, none⟩), .pointer (some ⟨qb, 0, none⟩)]] 77)) ∧
      ((w5.alloc (.cells #[.pointer (some ⟨b, 0, none⟩)] 71)).alloc (.cells #[.func (.func gh) #[] #[.pointer (some ⟨kb, 0, none⟩), .pointer (some ⟨tb, 0, none⟩), .pointer (some ⟨qb, 0, none⟩)]] 77)).heap[w5.heap.size]? = some (.cells #[.pointer (some ⟨b, 0, none⟩)] 71 (0, 0)) ∧
      ((w5.alloc (.cells #[.pointer (some ⟨b, 0, none⟩)] 71)).alloc (.cells #[.func (.func gh) #[] #[.pointer (some ⟨kb, 0, none⟩), .pointer (some ⟨tb, 0, none⟩), .pointer (some ⟨qb, 0, none⟩)]] 77)).heap[w5.heap.size + 1]? = some (.cells #[.func (.func gh) #[] #[.pointer (some ⟨kb, 0, none⟩), .pointer (some ⟨tb, 0, none⟩), .pointer (some ⟨qb, 0, none⟩)]] 77 (0, 0)) ∧
      w4.heap.size ≤ mb ∧ w4.heap.size ≤ qb ∧ kb < ((w5.alloc (.cells #[.pointer (some ⟨b, 0, none⟩)] 71)).alloc (.cells #[.func (.func gh) #[] #[.pointer (some ⟨kb, 0, none⟩), .pointer (some ⟨tb, 0, none⟩), .pointer (some ⟨qb, 0, none⟩)]] 77)).heap.size ∧
      tb < ((w5.alloc (.cells #[.pointer (some ⟨b, 0, none⟩)] 71)).alloc (.cells #[.func (.func gh) #[] #[.pointer (some ⟨kb, 0, none⟩), .pointer (some ⟨tb, 0, none⟩), .pointer (some ⟨qb, 0, none⟩)]] 77)).heap.size ∧
      qb < ((w5.alloc (.cells #[.pointer (some ⟨b, 0, none⟩)] 71)).alloc (.cells #[.func (.func gh) #[] #[.pointer (some ⟨kb, 0, none⟩), .pointer (some ⟨tb, 0, none⟩), .pointer (some ⟨qb, 0, none⟩)]] 77)).heap.size ∧ mb < w5.heap.size ∧ mb < w5.heap.size + 1 ∧
      w5.heap.size < ((w5.alloc (.cells #[.pointer (some ⟨b, 0, none⟩)] 71)).alloc (.cells #[.func (.func gh) #[] #[.pointer (some ⟨kb, 0, none⟩), .pointer (some ⟨tb, 0, none⟩), .pointer (some ⟨qb, 0, none⟩)]] 77)).heap.size ∧
      w5.heap.size + 1 < ((w5.alloc (.cells #[.pointer (some ⟨b, 0, none⟩)] 71)).alloc (.cells #[.func (.func gh) #[] #[.pointer (some ⟨kb, 0, none⟩), .pointer (some ⟨tb, 0, none⟩), .pointer (some ⟨qb, 0, none⟩)]] 77)).heap.size := by
  have k56 : Keeps (fun _ => False) w5 ((w5.alloc (.cells #[.pointer (some ⟨b, 0, none⟩)] 71)).alloc (.cells #[.func (.func gh) #[] #[.pointer (some ⟨kb, 0, none⟩), .pointer (some ⟨tb, 0, none⟩), .pointer (some ⟨qb, 0, none⟩)]] 77)) := ((Keeps.refl _ _).alloc _).alloc _
  have z := hkd.size
  have h8 := heap_alloc_new (w5.alloc (.cells #[.pointer (some ⟨b, 0, none⟩)] 71)) (.cells #[.func (.func gh) #[] #[.pointer (some ⟨kb, 0, none⟩), .pointer (some ⟨tb, 0, none⟩), .pointer (some ⟨qb, 0, none⟩)]] 77)
  rw [World.size_alloc] at h8
  refine ⟨(hhm.rebase (hk4.trans hkd)).keeps k56 (fun h => h) (fun h => h) (fun h => h) (fun h => h) (fun _ h => h.elim), hkd.trans (hk5.trans k56), ((Keeps.refl (fun _ => False) _).alloc _).heap (heap_alloc_new w5 _) (fun h => h), h8, by omega, by omega, ?_⟩
  simp only [World.size_alloc]
  omega

set_option maxRecDepth 100000 in
set_option maxHeartbeats 4000000 in
theorem dplan_in (w : World) (vi vg vo : Value) (t : Tsk) (k : Int) (h : TaskAt w vi vg vo t) :
    CallsIn Fence.wide 9 Tryz.prog 14 #[.agg #[.int .i64 t.n, vi, vg, vo], .int .i64 k] w (DPlanPost t k w) := by
  obtain ⟨ai, ci, h1, _⟩ := h.init.form
  obtain ⟨ag, cg, h2, _⟩ := h.goal.form
  obtain ⟨ao, co, h3, hmo⟩ := h.ops.form
  have K1 := (Keeps.refl (fun _ => False) w).alloc (.cells #[.int .i64 t.n, vi, vg, vo] 25)
  have KA := (Keeps.refl (fun _ => False) (w.alloc (.cells #[.int .i64 t.n, vi, vg, vo] 25))).alloc (.cells #[.bool false, .slice none 0 0, .int .i64 0, .int .i64 0] 29)
  have KB := (Keeps.refl (fun _ => False) ((w.alloc (.cells #[.int .i64 t.n, vi, vg, vo] 25)).alloc (.cells #[.bool false, .slice none 0 0, .int .i64 0, .int .i64 0] 29))).alloc (.cells #[.int .i64 0, .int .i64 0] 31)
  have HB := Lib.hid ((Four.new w (.int .i64 t.n) vi vg vo 25).keeps0 (KA.trans KB))
  have hr := KB.heap (heap_alloc_new (w.alloc (.cells #[.int .i64 t.n, vi, vg, vo] 25)) (.cells #[.bool false, .slice none 0 0, .int .i64 0, .int .i64 0] 29)) (fun h => h)
  have hf : Flt w _ _ 31 := ⟨heap_alloc_new ((w.alloc (.cells #[.int .i64 t.n, vi, vg, vo] 25)).alloc (.cells #[.bool false, .slice none 0 0, .int .i64 0, .int .i64 0] 29)) (.cells #[.int .i64 0, .int .i64 0] 31), by simp; omega, K1.trans (KA.trans KB)⟩
  have HT := Lib.hid (h.keeps0 (K1.trans (KA.trans KB)))
  rw [World.size_alloc] at hr hf
  rw [World.size_alloc] at hf
  have HR := Lib.hid (show RFl w _ (w.heap.size + 1) (w.heap.size + 1 + 1) from ⟨hr, hf, by omega, by omega⟩)
  subst h1 h2 h3
  clear h K1 KA KB hr hf
  refine callsIn_of_wp_marks Tryz.func14 rfl trivial ?_ rfl
  simp only [Tryz.ntmps14, List.size_toArray, List.length_cons, List.length_nil, Nat.reduceAdd, Nat.reduceSub, Array.replicate_succ, Array.replicate_zero, List.push_toArray, List.append_toArray, List.nil_append, List.cons_append]
  gi_upto_region 1 with fail
  generalize ((w.alloc (.cells #[.int .i64 t.n, .slice ai t.init.length ci, .slice ag t.goal.length cg, .slice ao t.ops.length co] 25)).alloc (.cells #[.bool false, .slice none 0 0, .int .i64 0, .int .i64 0] 29)).alloc (.cells #[.int .i64 0, .int .i64 0] 31) = w1 at HB HR HT ⊢
  gi_cut [6, 8] from 12 (fun s6 s8 wc => ∃ (b6 b8 : Nat) (p : Value) (c i : Int), s6 = .pointer (some ⟨b6, 0, none⟩) ∧ s8 = .pointer (some ⟨b8, 0, none⟩) ∧ PlR t (admK k) w1 b6 b8 p c i wc)
  case first =>
    obtain ⟨o6, ho6⟩ : ∃ o6 : Obj, o6 = .cells #[.pointer none] 71 := ⟨_, rfl⟩
    have KR := Keeps.refl (fun _ => False) w1
    have k0 : Keeps (fun _ => False) w1 w1.drew := KR.drew
    have k6 : Keeps (fun _ => False) w1 (w1.alloc (.cells #[.pointer none] 71)).drew := (KR.alloc _).drew
    have k8 : Keeps (fun _ => False) w1 (w1.alloc (.cells #[.int .i64 0, .int .i64 0] 31)).drew := (KR.alloc _).drew
    have k68 : Keeps (fun _ => False) w1 ((w1.alloc (.cells #[.pointer none] 71)).alloc (.cells #[.int .i64 0, .int .i64 0] 31)).drew := ((KR.alloc _).alloc _).drew
    have k86 : Keeps (fun _ => False) w1 ((w1.alloc (.cells #[.int .i64 0, .int .i64 0] 31)).alloc (.cells #[.pointer none] 71)).drew := ((KR.alloc _).alloc _).drew
    have HK0 := Lib.hid k0; have HK6 := Lib.hid k6; have HK8 := Lib.hid k8; have HK68 := Lib.hid k68; have HK86 := Lib.hid k86
    have HT0 := Lib.hid (HT.out.keeps0 k0); have HT6 := Lib.hid (HT.out.keeps0 k6); have HT8 := Lib.hid (HT.out.keeps0 k8); have HT68 := Lib.hid (HT.out.keeps0 k68); have HT86 := Lib.hid (HT.out.keeps0 k86)
    have HB1 := HB.out.keeps0 k0
    have hbx := HB1.lt
    have HF0 := Lib.hid (HB.out.keeps0 k0); have HF6 := Lib.hid (HB.out.keeps0 k6); have HF8 := Lib.hid (HB.out.keeps0 k8); have HF68 := Lib.hid (HB.out.keeps0 k68); have HF86 := Lib.hid (HB.out.keeps0 k86)
    clear HB1
    have Z66 := Lib.hid (show (w1.alloc (.cells #[.pointer none] 71)).drew.heap[w1.heap.size]? = some (.cells #[.pointer none] 71 (0, 0)) from heap_alloc_new w1 _)
    have Z88 := Lib.hid (show (w1.alloc (.cells #[.int .i64 0, .int .i64 0] 31)).drew.heap[w1.heap.size]? = some (.cells #[.int .i64 0, .int .i64 0] 31 (0, 0)) from heap_alloc_new w1 _)
    have Z686 := Lib.hid (show ((w1.alloc (.cells #[.pointer none] 71)).alloc (.cells #[.int .i64 0, .int .i64 0] 31)).drew.heap[w1.heap.size]? = some (.cells #[.pointer none] 71 (0, 0)) from ((Keeps.refl (fun _ => False) _).alloc _).heap (heap_alloc_new w1 _) (fun h => h))
    have Z688 := Lib.hid (show ((w1.alloc (.cells #[.pointer none] 71)).alloc (.cells #[.int .i64 0, .int .i64 0] 31)).drew.heap[w1.heap.size + 1]? = some (.cells #[.int .i64 0, .int .i64 0] 31 (0, 0)) by
      have h := heap_alloc_new (w1.alloc (.cells #[.pointer none] 71)) (.cells #[.int .i64 0, .int .i64 0] 31)
      rw [World.size_alloc] at h; exact h)
    have Z868 := Lib.hid (show ((w1.alloc (.cells #[.int .i64 0, .int .i64 0] 31)).alloc (.cells #[.pointer none] 71)).drew.heap[w1.heap.size]? = some (.cells #[.int .i64 0, .int .i64 0] 31 (0, 0)) from ((Keeps.refl (fun _ => False) _).alloc _).heap (heap_alloc_new w1 _) (fun h => h))
    have Z866 := Lib.hid (show ((w1.alloc (.cells #[.int .i64 0, .int .i64 0] 31)).alloc (.cells #[.pointer none] 71)).drew.heap[w1.heap.size + 1]? = some (.cells #[.pointer none] 71 (0, 0)) by
      have h := heap_alloc_new (w1.alloc (.cells #[.int .i64 0, .int .i64 0] 31)) (.cells #[.pointer none] 71)
      rw [World.size_alloc] at h; exact h)
    have HBL := Lib.hid (show w.heap.size < w1.heap.size from HB.out.lt)
    have HBL1 := Lib.hid (show w.heap.size < w1.heap.size + 1 from Nat.lt_succ_of_lt HB.out.lt)
    have HS6 := Lib.hid (show w1.heap.size < (w1.alloc (.cells #[.pointer none] 71)).drew.heap.size from by show _ < (w1.alloc (.cells #[.pointer none] 71)).heap.size; rw [World.size_alloc]; omega)
    have HS8 := Lib.hid (show w1.heap.size < (w1.alloc (.cells #[.int .i64 0, .int .i64 0] 31)).drew.heap.size from by show _ < (w1.alloc (.cells #[.int .i64 0, .int .i64 0] 31)).heap.size; rw [World.size_alloc]; omega)
    have HS68 := Lib.hid (show w1.heap.size ≤ w1.heap.size ∧ w1.heap.size < ((w1.alloc (.cells #[.pointer none] 71)).alloc (.cells #[.int .i64 0, .int .i64 0] 31)).drew.heap.size from by show _ ∧ _ < ((w1.alloc (.cells #[.pointer none] 71)).alloc (.cells #[.int .i64 0, .int .i64 0] 31)).heap.size; rw [World.size_alloc, World.size_alloc]; omega)
    have HS68' := Lib.hid (show w1.heap.size ≤ w1.heap.size + 1 ∧ w1.heap.size + 1 < ((w1.alloc (.cells #[.pointer none] 71)).alloc (.cells #[.int .i64 0, .int .i64 0] 31)).drew.heap.size from by show _ ∧ _ < ((w1.alloc (.cells #[.pointer none] 71)).alloc (.cells #[.int .i64 0, .int .i64 0] 31)).heap.size; rw [World.size_alloc, World.size_alloc]; omega)
    have HS86 := Lib.hid (show w1.heap.size ≤ w1.heap.size ∧ w1.heap.size < ((w1.alloc (.cells #[.int .i64 0, .int .i64 0] 31)).alloc (.cells #[.pointer none] 71)).drew.heap.size from by show _ ∧ _ < ((w1.alloc (.cells #[.int .i64 0, .int .i64 0] 31)).alloc (.cells #[.pointer none] 71)).heap.size; rw [World.size_alloc, World.size_alloc]; omega)
    have HS86' := Lib.hid (show w1.heap.size ≤ w1.heap.size + 1 ∧ w1.heap.size + 1 < ((w1.alloc (.cells #[.int .i64 0, .int .i64 0] 31)).alloc (.cells #[.pointer none] 71)).drew.heap.size from by show _ ∧ _ < ((w1.alloc (.cells #[.int .i64 0, .int .i64 0] 31)).alloc (.cells #[.pointer none] 71)).heap.size; rw [World.size_alloc, World.size_alloc]; omega)
    clear KR k0 k6 k8 k68 k86
    refine wpIn_wide.2 ?_
    go_region_held3 (fun w' => w'.cell? ⟨w.heap.size, 0, none⟩ = some (.int .i64 t.n) ∧ w'.cell? ⟨w.heap.size, 1, none⟩ = some (.slice ai t.init.length ci) ∧ w'.cell? ⟨w.heap.size, 2, none⟩ = some (.slice ag t.goal.length cg) ∧ w'.cell? ⟨w.heap.size, 3, none⟩ = some (.slice ao t.ops.length co))
      (with_reducible (refine Four.c4 ?_; (first | exact HF0.out | exact HF6.out | exact HF8.out | exact HF68.out | exact HF86.out | (repeat (first | exact F9.out | refine Four.al ?_ | refine Four.se ?_ HBL.out | refine Four.se ?_ HBL1.out)))))
      (first
        | (go_at_call 46; refine (admissible_any k _).mono ?_; rintro e wq ⟨rfl, rfl⟩)
        | (go_at_call 45; refine (acheckB_any _ _ _ _ t (admK k) HT0.out).mono ?_; rintro e w9 ⟨pv, lv, fc, fi, rfl, hr⟩; have HC0 := Lib.hid hr; have F9 := Lib.hid (HF0.out.keeps0 hr.1); clear hr)
        | (go_at_call 45; refine (acheckB_any _ _ _ _ t (admK k) HT6.out).mono ?_; rintro e w9 ⟨pv, lv, fc, fi, rfl, hr⟩; have HC6 := Lib.hid hr; have F9 := Lib.hid (HF6.out.keeps0 hr.1); have HZ66 := Lib.hid (hr.1.heap Z66.out (fun h => h)); have x6c := (show w9.cell? ⟨w1.heap.size, 0, none⟩ = some (.pointer none) from (cell_of_blk HZ66.out).trans rfl); have x6f := (show w9.frozen? ⟨w1.heap.size, 0, none⟩ = false from frozen_of_blk HZ66.out); have x6l := lt_of_heap HZ66.out; clear hr)
        | (go_at_call 45; refine (acheckB_any _ _ _ _ t (admK k) HT8.out).mono ?_; rintro e w9 ⟨pv, lv, fc, fi, rfl, hr⟩; have HC8 := Lib.hid hr; have F9 := Lib.hid (HF8.out.keeps0 hr.1); have HZ88 := Lib.hid (hr.1.heap Z88.out (fun h => h)); obtain ⟨q0, q1, y0, y1, hl6⟩ := pair_cells HZ88.out; clear hr)
        | (go_at_call 45; refine (acheckB_any _ _ _ _ t (admK k) HT68.out).mono ?_; rintro e w9 ⟨pv, lv, fc, fi, rfl, hr⟩; have HC68 := Lib.hid hr; have F9 := Lib.hid (HF68.out.keeps0 hr.1); have HZ686 := Lib.hid (hr.1.heap Z686.out (fun h => h)); have x6c := (show w9.cell? ⟨w1.heap.size, 0, none⟩ = some (.pointer none) from (cell_of_blk HZ686.out).trans rfl); have x6f := (show w9.frozen? ⟨w1.heap.size, 0, none⟩ = false from frozen_of_blk HZ686.out); have x6l := lt_of_heap HZ686.out; have HZ688 := Lib.hid (hr.1.heap Z688.out (fun h => h)); obtain ⟨q0, q1, y0, y1, hl6⟩ := pair_cells HZ688.out; clear hr)
        | (go_at_call 45; refine (acheckB_any _ _ _ _ t (admK k) HT86.out).mono ?_; rintro e w9 ⟨pv, lv, fc, fi, rfl, hr⟩; have HC86 := Lib.hid hr; have F9 := Lib.hid (HF86.out.keeps0 hr.1); have HZ866 := Lib.hid (hr.1.heap Z866.out (fun h => h)); have x6c := (show w9.cell? ⟨w1.heap.size + 1, 0, none⟩ = some (.pointer none) from (cell_of_blk HZ866.out).trans rfl); have x6f := (show w9.frozen? ⟨w1.heap.size + 1, 0, none⟩ = false from frozen_of_blk HZ866.out); have x6l := lt_of_heap HZ866.out; have HZ868 := Lib.hid (hr.1.heap Z868.out (fun h => h)); obtain ⟨q0, q1, y0, y1, hl6⟩ := pair_cells HZ868.out; clear hr))
    all_goals
      gi_wp2
      gi_meet
      case rel =>
        first
          | exact ⟨_, _, _, fc, fi, rfl, rfl, PlR.r0 HC0.out⟩
          | exact ⟨_, _, _, fc, fi, rfl, rfl, PlR.r0' HC0.out⟩
          | exact ⟨_, _, _, fc, fi, rfl, rfl, PlR.r6 HC6.out HK6.out HZ66.out HS6.out⟩
          | exact ⟨_, _, _, fc, fi, rfl, rfl, PlR.r8 HC8.out HK8.out HZ88.out HS8.out⟩
          | exact ⟨_, _, _, fc, fi, rfl, rfl, PlR.r68 HC68.out HK68.out HZ686.out HZ688.out HS68.out HS68'.out⟩
          | exact ⟨_, _, _, fc, fi, rfl, rfl, PlR.r68 HC86.out HK86.out HZ866.out HZ868.out HS86'.out HS86.out⟩
  case rest =>
    obtain ⟨b6, b8, p, c, i, rfl, rfl, hb6, hb8, hl6, hl8, hck⟩ := hcut
    have HB6 := Lib.hid hb6
    have HB4 := Lib.hid (HB.out.keeps0 hck.1); have HT4 := Lib.hid (HT.out.keeps0 hck.1); have HR4 := Lib.hid (HR.out.keeps0 hck.1)
    have HCK := Lib.hid hck.2
    obtain ⟨f0, f1, y0, y1, hlf⟩ := pair_cells hb8
    clear y0 y1 hb6 hb8 hck HB HT HR hl6 hl8
    rcases HCK.out with ⟨hc, hke⟩ | ⟨rfl, rfl, had, ok, l, hx, b, v, ws, rfl, hw, hp⟩
    · have hcb : (c == 0) = false := by simpa using hc
      have HKE := Lib.hid (And.intro hc hke)
      have HFIN := Lib.hid (HR4.out.fin (.int .i64 c) (.int .i64 i))
      obtain ⟨r0, r1, r2, r3, y0, y1, y2, y3, hlR⟩ := HR4.out.cells
      obtain ⟨e0, e1, z0, z1, hF⟩ := HR4.out.flt.cells
      obtain ⟨s0, s1, s2, s3⟩ := HR4.out.ids
      have HPO := Lib.hid (dpl_bad (t := t) (k := k) HKE.out.1 HKE.out.2)
      clear hc hke HCK
      gi_wp2
      refine wpIn_wide.2 ?_
      go_region
      all_goals
        gi_wp2
        refine leaves_marks (Marks.nil _ w.heap.size) (fun W' hk => ?_)
        refine ⟨_, results_cell_cell _ _ (w.heap.size + 1 + 1) 31 #[.int .i64 c, .int .i64 i] (0, 0) _ rfl rfl (hk.heap HFIN.out.2.1 (fun h => by have h2 := h.2; rw [HFIN.out.2.1] at h2; cases h2)) Tryz.underlying31 rfl (by kernel_rfl) rfl (hk.heap HFIN.out.1 (fun h => by have h2 := h.2; rw [HFIN.out.1] at h2; cases h2)) Tryz.underlying29 rfl (by kernel_rfl), ?_⟩
        exact ⟨HFIN.out.2.2.trans' hk (fun i hi => .inr hi.1), false, _, [], 0, 0, c, i, rfl, Ints.nil _, HPO.out⟩
    · obtain ⟨wa, hwa⟩ : ∃ wa, wa = wc := ⟨_, rfl⟩
      subst hwa
      have hvh := says_kind had t l ok hx
      have HVL := Lib.hid (hvh.1.perm hp)
      have HAM := Lib.hid (hvh.2.perm hp)
      have HND := Lib.hid (costs_need ok hx hp)
      have hbw : b < wa.heap.size := lt_of_heap hw.blk
      have hb6w : b6 < wa.heap.size := lt_of_heap HB6.out
      have HW := Lib.hid hw; have OK := Lib.hid ok; have HX := Lib.hid hx; have HPM := Lib.hid hp; have HAD := Lib.hid had
      have kA := (Keeps.refl (fun _ => False) wa).alloc (.cells #[.int .i64 0] 3)
      have HB5 := Lib.hid (HB4.out.keeps0 kA)
      have HT5 := Lib.hid (HT4.out.keeps0 kA)
      have HX9 := Lib.hid (heap_alloc_new wa (.cells #[.int .i64 0] 3))
      have HX6 := Lib.hid (kA.heap HB6.out (fun h => h))
      have HK5 := Lib.hid kA
      have HZ5 := Lib.hid (show (wa.alloc (.cells #[.int .i64 0] 3)).heap.size = wa.heap.size + 1 from World.size_alloc _ _)
      clear hvh hw ok hx hp HCK kA
      gi_upto_region 5 with fail
      clear f0 f1 hlf
      generalize wa.alloc (.cells #[.int .i64 0] 3) = w4 at HB5 HT5 HX9 HX6 HK5 HZ5 ⊢
      gi_cut [29] from 30 (fun s29 w6 => ∃ (kb tb qb mb bw bh : Nat), s29 = .func (.func 75) #[] #[.pointer (some ⟨bh, 0, none⟩), .pointer (some ⟨bw, 0, none⟩)] ∧ (HeurM t k (kindH t k) wa kb tb qb mb (.slice ai t.init.length ci) (.slice ag t.goal.length cg) (.slice ao t.ops.length co)) w6 ∧ Keeps (fun _ => False) w4 w6 ∧
        w6.heap[bw]? = some (.cells #[.pointer (some ⟨b, 0, none⟩)] 71 (0, 0)) ∧ w6.heap[bh]? = some (.cells #[.func (.func 77) #[] #[.pointer (some ⟨kb, 0, none⟩), .pointer (some ⟨tb, 0, none⟩), .pointer (some ⟨qb, 0, none⟩)]] 77 (0, 0)) ∧ w4.heap.size ≤ mb ∧ w4.heap.size ≤ qb ∧ kb < w6.heap.size ∧ tb < w6.heap.size ∧ qb < w6.heap.size ∧ mb < bw ∧ mb < bh ∧ bw < w6.heap.size ∧ bh < w6.heap.size)
      case first =>
        have KD : Keeps (fun _ => False) w4 w4.drew := (Keeps.refl (fun _ => False) w4).drew
        have HKD := Lib.hid KD
        have HTD := Lib.hid (HT5.out.keeps0 KD)
        have hbx := (HB5.out.keeps0 KD).lt
        obtain ⟨d0, d1, d2, d3⟩ := HB5.out.keeps0 KD
        have q6 : w4.drew.cell? ⟨b6, 0, none⟩ = some (.pointer (some ⟨b, 0, none⟩)) := (cell_of_blk (KD.heap HX6.out (fun h => h))).trans rfl
        have l6 := lt_of_heap (KD.heap HX6.out (fun h => h))
        clear KD
        have HS0 := Lib.hid (show w4.drew.cell? ⟨w.heap.size, 0, none⟩ = some (.int .i64 t.n) ∧ w4.drew.cell? ⟨w.heap.size, 1, none⟩ = some (.slice ai t.init.length ci) ∧ w4.drew.cell? ⟨w.heap.size, 2, none⟩ = some (.slice ag t.goal.length cg) ∧ w4.drew.cell? ⟨w.heap.size, 3, none⟩ = some (.slice ao t.ops.length co) ∧ w4.drew.cell? ⟨b6, 0, none⟩ = some (.pointer (some ⟨b, 0, none⟩)) from ⟨d0, d1, d2, d3, q6⟩)
        clear d0 d1 d2 d3 q6 hbx l6
        refine wpIn_wide.2 ?_
        go_region_held3 (fun w' => w'.cell? ⟨w.heap.size, 0, none⟩ = some (.int .i64 t.n) ∧ w'.cell? ⟨w.heap.size, 1, none⟩ = some (.slice ai t.init.length ci) ∧ w'.cell? ⟨w.heap.size, 2, none⟩ = some (.slice ag t.goal.length cg) ∧ w'.cell? ⟨w.heap.size, 3, none⟩ = some (.slice ao t.ops.length co) ∧ w'.cell? ⟨b6, 0, none⟩ = some (.pointer (some ⟨b, 0, none⟩)))
          (with_reducible (first | exact HS0.out | exact HS5.out | exact HS6.out))
          (first
            | (go_at_call 48; refine (heuristicQ_any _ _ _ _ t k (kindH t k) HTD.out).mono ?_; rintro e w5 ⟨kb, tb, qb, mb, rfl, hhm, h1, h2, h3, h4, h5, hk5, hqq⟩; have HS5 := Lib.hid (cells5 hk5 HS0.out))
            | (go_at_call 47; refine (rounds_any _ _ _ _ _).mono ?_; rintro e w6 ⟨rfl, rfl⟩; have HS6 := Lib.hid (cells5 (((Keeps.refl (fun _ => False) w5).alloc (.cells #[.pointer (some ⟨b, 0, none⟩)] 71)).alloc (.cells #[.func (.func 77) #[] #[.pointer (some ⟨kb, 0, none⟩), .pointer (some ⟨tb, 0, none⟩), .pointer (some ⟨qb, 0, none⟩)]] 77)) HS5.out)))
        all_goals
          have HFIN := Lib.hid (dpl_mid hhm h1 h2 h3 h4 h5 hk5 HKD.out HK5.out hqq b 77)
          clear hhm h1 h2 h3 h4 h5 hk5 hqq
          gi_wp2
          gi_meet
          case rel => exact ⟨kb, tb, qb, mb, _, _, rfl, HFIN.out⟩
      case rest =>
        obtain ⟨kb, tb, qb, mb, bw, bh, rfl, hm6, k46, xw, xh, h1, hq, h2, h3, h4, h5, h6, h7, h8⟩ := hcut
        have z5 := HZ5.out
        obtain ⟨w6, hw6⟩ : ∃ w6, w6 = wc := ⟨_, rfl⟩
        subst hw6
        have kc6 := HK5.out.trans k46
        have HHU := Lib.hid (heur_is t k ws (kindH t k) HVL.out wa kb tb qb mb wa.heap.size w6.heap.size _ _ _ HT4.out (by omega) (by omega) h2 h3 h4 (by omega))
        have HRM := Lib.hid (show RnM wa (HeurM t k (kindH t k) wa kb tb qb mb (.slice ai t.init.length ci) (.slice ag t.goal.length cg) (.slice ao t.ops.length co)) bh bw b (.func (.func 77) #[] #[.pointer (some ⟨kb, 0, none⟩), .pointer (some ⟨tb, 0, none⟩), .pointer (some ⟨qb, 0, none⟩)]) w6.heap.size w6 from ⟨hm6, kc6, xh, xw, Nat.le_refl _⟩)
        have HX96 := Lib.hid (k46.heap HX9.out (fun h => h))
        have HX66 := Lib.hid (k46.heap HX6.out (fun h => h))
        have HKC := Lib.hid kc6
        have HR6 := Lib.hid (HR4.out.keeps0 kc6)
        have HT6 := Lib.hid (HT4.out.keeps0 kc6)
        have HB6F := Lib.hid (HB4.out.keeps0 kc6)
        have hmb6 : mb < w6.heap.size := by omega
        have hmbw : wa.heap.size < mb := by omega
        have hqbw : wa.heap.size < qb := by omega
        have hs6 : wa.heap.size ≤ w6.heap.size := by omega
        have HRI := Lib.hid (rounds1_in 8 (by omega) wa b (wd t.init) (wd t.goal) _ v (wordsOf t.ops) ws (kindH t k) 77 #[] #[.pointer (some ⟨kb, 0, none⟩), .pointer (some ⟨tb, 0, none⟩), .pointer (some ⟨qb, 0, none⟩)] (fun q => q = mb) (HeurM t k (kindH t k) wa kb tb qb mb (.slice ai t.init.length ci) (.slice ag t.goal.length cg) (.slice ao t.ops.length co)) bh bw w6.heap.size
          HW.out (wops_ok OK.out) HND.out.2.2.1 HND.out.2.1 HND.out.2.2.2.1 HND.out.2.2.2.2.1 HND.out.2.2.2.2.2.1 (ops_cost OK.out) HND.out.2.2.2.2.2.2.2 HHU.out HAM.out.lo (fun e => by have e' : bh = mb := e; omega) (fun e => by have e' : bw = mb := e; omega))
        have hwR : w.heap.size + 1 + 1 < wa.heap.size := HR4.out.flt.cells.2.2.2.2
        clear hm6 kc6 xw xh z5 HB5 HT5 HX9 HX6
        have lo1 : ∀ {W : World} (lp : Nat) (r : Loop), w6.heap.size ≤ lp → W.heap[lp]? = some (.loop r) → ∀ {q : Nat} {cs T fr}, W.heap[q]? = some (.cells cs T fr) → ¬ q = lp := fun lp r _ hr q cs T fr hc e => by rw [e, hr] at hc; cases hc
        gi_wp2
        refine wpIn_rangeFunc_R (α := Rdn) (n := 9) rfl (by decide) (gf := 75) (lb := #[.pointer (some ⟨bh, 0, none⟩), .pointer (some ⟨bw, 0, none⟩)]) rfl trivial (enters_of Tryz.func75 (by kernel_rfl) rfl) HRI.out
          ?hSt (RnK.trans) ?hKb ?hR ?hps
          (fun pre W => ∃ (n : Int), W.heap[wa.heap.size]? = some (.cells #[.int .i64 n] 3 (0, 0)) ∧ (∃ b, RunTo (wordsOf t.ops) (wd t.init) ws (goalB (wd t.goal)) (kindH t k) (pre.map Rdn.bd) n b) ∧ Keeps (fun _ => False) wa W ∧ w6.heap.size ≤ W.heap.size)
          (fun c _ W => c = .ret ∧ ∃ (fnd : Bool) (vp : Value) (lp : List Int) (cst n fc fi : Int), W.heap[w.heap.size + 1]? = some (.cells #[.bool fnd, vp, .int .i64 cst, .int .i64 n] 29 (0, 0)) ∧ W.heap[w.heap.size + 1 + 1]? = some (.cells #[.int .i64 fc, .int .i64 fi] 31 (0, 0)) ∧ Keeps (fun _ => False) w W ∧ W.ownsRow w6.heap.size 3 1 vp lp.length (lp.map (Value.int .i64)) ∧ DPF t k fnd lp cst n fc fi) ?hI ?hIx ?hIR ?hIxR ?hT ?h0
          (fun (x : Rdn) (a' : Act) => ∃ u : Nat → Value, a' = { tmps := #[.agg #[.int .i64 t.n, .slice ai t.init.length ci, .slice ag t.goal.length cg, .slice ao t.ops.length co], .int .i64 k, .pointer (some ⟨w.heap.size, 0, none⟩), undef, .pointer (some ⟨w.heap.size + 1, 0, none⟩), .pointer (some ⟨w.heap.size + 1 + 1, 0, none⟩), .pointer (some ⟨b6, 0, none⟩), u 7, .pointer (some ⟨b8, 0, none⟩), .pointer (some ⟨wa.heap.size, 0, none⟩), undef, .pointer (some ⟨x.rb, 0, none⟩), u 12, u 13, u 14, u 15, u 16, u 17, u 18, u 19, u 20, u 21, u 22, u 23, u 24, u 25, u 26, u 27, u 28, u 29, u 30, u 31, u 32, u 33, u 34, u 35, u 36, u 37, u 38, u 39, u 40, u 41, u 42, u 43, u 44, u 45, u 46, u 47, u 48, u 49, u 50, u 51, u 52, u 53, u 54, u 55, u 56, u 57, u 58, u 59, u 60, u 61, u 62, u 63], defers := [] }) ?hassign ?hbody ?hdone ?hstop
        case hSt =>
          intro o
          have hk := ((Keeps.refl (fun _ => False) w6).alloc (.deferred (some []))).alloc (.loop o)
          exact HRM.out.by hk (HHU.out.steady HRM.out.hI hk (fun _ h => h.elim)) (fun h => h) (fun h => h) (fun _ h => h.elim)
        case hKb =>
          intro x W lp r o hl hr
          have hk := keeps_putObj W lp o
          exact ⟨fun h => h.by hk (HHU.out.steady h.hI hk (fun q hq => by omega)) (by omega) (by omega) (fun q hq => by have := HKC.out.size; omega), fun cs T fr h => hk.heap h (lo1 lp r hl hr h)⟩
        case hps => exact fun _ => rfl
        case hR => exact fun X Y q hk h1 h2 => hk.block q h2 (by omega)
        case hI =>
          rintro pre W lp r o hl hr ⟨n, h1, h2, h3, h4⟩
          have hk := keeps_putObj W lp o
          exact ⟨n, hk.heap h1 (lo1 lp r hl hr h1), h2, h3.trans' hk (fun q hq => .inr (by omega)), Nat.le_trans h4 hk.size⟩
        case hIx =>
          rintro c pre W lp r o hl hr ⟨h0, fnd, vp, lq, cst, n, fc, fi, h1, h2, h3, h4, h5⟩
          have hk := keeps_putObj W lp o
          exact ⟨h0, fnd, vp, lq, cst, n, fc, fi, hk.heap h1 (lo1 lp r hl hr h1), hk.heap h2 (lo1 lp r hl hr h2), h3.trans' hk (fun q hq => .inr (by omega)), hk.ownsRow h4 (fun q hq e => by obtain ⟨cs, fr, hc⟩ := row_isCells h4 hq; exact lo1 lp r hl hr hc e), h5⟩
        case hIR =>
          rintro pre X Y ⟨n, h1, h2, h3, h4⟩ hk
          exact ⟨n, hk.heap h1 (by omega), h2, h3.trans' hk (fun q hq => .inr (by omega)), Nat.le_trans h4 hk.size⟩
        case hIxR =>
          rintro c pre X Y ⟨h0, fnd, vp, lq, cst, n, fc, fi, h1, h2, h3, h4, h5⟩ hk
          exact ⟨h0, fnd, vp, lq, cst, n, fc, fi, hk.heap h1 (by omega), hk.heap h2 (by omega), h3.trans' hk (fun q hq => .inr (by omega)), hk.ownsRow h4 (fun q hq e => by have := (World.ownsRow.lt h4 q hq).1; omega), h5⟩
        case hT =>
          rintro x pre W lp r o hl hr ⟨n, mp, mr, g, P, par, fnd, nx, q1, q2, q3, q4, q5, q6, q7, q8, q9⟩
          have hk := keeps_putObj W lp o
          have nm : ∀ {q : Nat} {es c}, W.heap[q]? = some (.map es c) → ¬ q = lp := fun hm e => by rw [e, hr] at hm; cases hm
          obtain ⟨es1, c1, m1⟩ := q7.map_block
          obtain ⟨es2, c2, m2⟩ := q8.map_block
          exact ⟨n, mp, mr, g, P, par, fnd, nx, q1, q2, q3, q4, q5, hk.heap q6 (lo1 lp r hl hr q6), q7.keeps hk (nm m1), q8.keeps hk (nm m2), q9⟩
        case h0 =>
          intro o o'
          have hk := ((Keeps.refl (fun _ => False) w6).alloc o).alloc o'
          exact ⟨0, hk.heap HX96.out (fun h => h), ⟨_, .start⟩, HKC.out.trans hk, hk.size⟩
        case hassign =>
          intro lp x W K hK
          have HK := Lib.hid hK
          clear hK
          simp only [rdnEnc]
          gi_wp2
          exact HK.out _ (ex_fnD rfl)
        case hbody =>
          rintro lp pre x a' W ⟨u, rfl⟩ hl - ⟨n, h1, ⟨bb, h2⟩, h3, h4⟩ ⟨n0, mp, mr, g, P, par, fnd, nx, q1, q2, q3, q4, q5, q6, q7, q8, q9, q10, q11⟩
          obtain ⟨-, rfl, rfl⟩ := RunTo.unique (List.Perm.refl ws) _ h2 q1 rfl rfl
          have hfw := h2.few (HAM.out.lo _ HND.out.2.2.2.2.2.2.2).1
          have hdn := q9.done (ops_cost OK.out) HND.out.2.2.2.2.1
          have hvl := nVis_le ws (costP P)
          have hw2 := HND.out.2.2.2.2.1
          have hnb : n ≤ 2000 * 1000000000 := by
            have e1 : (ws.length : Int) * x.bd ≤ 2000 * 1000000000 := Int.le_trans (Int.mul_le_mul_of_nonneg_right (by omega) (by omega)) (Int.mul_le_mul_of_nonneg_left (by omega) (by omega))
            omega
          have hln := (q7.keeps ((Keeps.refl (fun _ => False) W).drew) (fun h => h)).run_len HND.out.2.2.2.1.1 q9.dom (P := Tryz.prog) Tryz.underlying80 3
          rw [← show nVis ws (costP P) = (ws.filter fun y => (P y).isSome).length by unfold nVis costP; simp] at hln
          obtain ⟨vk, hvk⟩ : ∃ vk, nVis ws (costP P) = vk := ⟨_, rfl⟩
          have HVK := Lib.hid hvk
          rw [hvk] at hln hvl
          have hwr : IntKind.i64.wrap (n + (vk : Int)) = n + (vk : Int) := IntWalk.i64_in _ (by omega)
          clear hvk
          have H1 := Lib.hid h1; have H2 := Lib.hid h2; have H3 := Lib.hid h3; have H4 := Lib.hid h4; have Q2 := Lib.hid q2; have Q3 := Lib.hid q3; have Q4 := Lib.hid q5; have Q6 := Lib.hid q6; have Q7 := Lib.hid q7; have Q8 := Lib.hid q8; have Q9 := Lib.hid q9; have Q10 := Lib.hid q10; have Q11 := Lib.hid q11; have HRD := Lib.hid hdn.rnd
          have x9c : W.cell? ⟨wa.heap.size, 0, none⟩ = some (.int .i64 n) := (cell_of_blk h1).trans rfl
          have x9f : W.frozen? ⟨wa.heap.size, 0, none⟩ = false := frozen_of_blk h1
          have x9l := lt_of_heap h1
          have xr0 : W.cell? ⟨x.rb, 0, none⟩ = some (.map (some mp)) := (cell_of_blk q6).trans rfl
          have xrl := lt_of_heap q6
          have hmix : Tryz.prog.follows .mixedOrders = true := by kernel_rfl
          clear h1 h2 h3 h4 q2 q3 q4 q5 q6 q7 q8 q9 q10 q11 hdn
          gi_wp2
          refine wpIn_region_still_tail 7 (Wide.wide.inRound lp) hmix rfl (by kernel_rfl) ?_
          repeat still_step
          refine wpStill_nil ?_
          have KD := (Keeps.refl (fun _ => False) W).drew
          have hx9D := KD.heap H1.out (fun h => h)
          clear x9c x9f x9l xr0 xrl hln
          generalize W.drew = Wd at KD hx9D ⊢
          have x9c : Wd.cell? ⟨wa.heap.size, 0, none⟩ = some (.int .i64 n) := (cell_of_blk hx9D).trans rfl
          have x9f : Wd.frozen? ⟨wa.heap.size, 0, none⟩ = false := frozen_of_blk hx9D
          have x9l := lt_of_heap hx9D
          obtain ⟨nn, hnn⟩ : ∃ nn, n + (vk : Int) = nn := ⟨_, rfl⟩
          have HNN := Lib.hid hnn
          have K2 : Keeps (fun q => q = wa.heap.size) W (Wd.setCell ⟨wa.heap.size, 0, none⟩ (.int .i64 nn)) := (KD.mono (fun _ _ h => h.elim)).trans ((Keeps.refl (fun q => q = wa.heap.size) Wd).setCell (p := ⟨wa.heap.size, 0, none⟩) (.inl rfl) _)
          have HK2 := Lib.hid K2
          have HX9 := Lib.hid (show (Wd.setCell ⟨wa.heap.size, 0, none⟩ (.int .i64 nn)).heap[wa.heap.size]? = some (.cells #[.int .i64 nn] 3 (0, 0)) from (show Boxed Wd wa.heap.size 3 (.int .i64 n) from hx9D).set _)
          clear KD hx9D K2
          gi_upto_region 8 with fail
          clear x9c x9f x9l hwr hnn
          generalize Wd.setCell ⟨wa.heap.size, 0, none⟩ (.int .i64 nn) = W2 at HK2 HX9 ⊢
          have Q62 := Lib.hid (HK2.out.heap Q6.out (by have := Q3.out; omega))
          have x4c : W2.cell? ⟨x.rb, 4, none⟩ = some (.bool fnd) := (cell_of_blk Q62.out).trans rfl
          have xrl := lt_of_heap Q62.out
          have HEN := Lib.hid (Q10.out.ends Q9.out.dom)
          cases fnd with
          | false =>
            have HFI := Lib.hid (show (∃ (n : Int), W2.heap[wa.heap.size]? = some (.cells #[.int .i64 n] 3 (0, 0)) ∧ (∃ b, RunTo (wordsOf t.ops) (wd t.init) ws (goalB (wd t.goal)) (kindH t k) ((pre ++ [x]).map Rdn.bd) n b) ∧ Keeps (fun _ => False) wa W2 ∧ w6.heap.size ≤ W2.heap.size) from
              ⟨nn, HX9.out, ⟨nx, by rw [List.map_append, ← HNN.out, ← HVK.out]; exact .step H2.out Q2.out HRD.out HEN.out Q11.out⟩, H3.out.trans' HK2.out (fun q hq => .inr (by omega)), Nat.le_trans H4.out HK2.out.size⟩)
            gi_wp2
            refine ⟨keepsFrom_cells HK2.out (fun q hq => by rw [hq]; exact ⟨_, _, _, H1.out⟩), ⟨fun h => h.by HK2.out ?_ (by omega) (by omega) (fun q hq => by omega), fun cs T fr hc => HK2.out.heap hc (by have := Q3.out; omega)⟩, HFI.out⟩
            exact h.hI.keeps HK2.out (fun e => by have h1 := H1.out; have h2 := h.hI.kbox; rw [e, h1] at h2; cases h2) (fun e => by have h1 := H1.out; have h2 := h.hI.tbox; rw [e, h1] at h2; cases h2) (by omega) (by omega) (fun q hq => by omega)
          | true =>
            have HKW := Lib.hid (show Keeps (fun _ => False) wa W2.drew from (H3.out.trans' HK2.out (fun q hq => .inr (by omega))).trans ((Keeps.refl (fun _ => False) W2).drew))
            have HKD := Lib.hid (show Keeps (fun q => q = wa.heap.size) W W2.drew from HK2.out.trans ((Keeps.refl (fun q => q = wa.heap.size) W2).drew))
            obtain ⟨p, out, hpg, hch, hol, hrn, hwy, hlst, hpb⟩ := deep_found HND.out.2.2.2.1 (ops_cost OK.out) HND.out.2.2.2.2.1 HAM.out HND.out.2.2.2.2.2.2.2 H2.out Q9.out Q10.out
            have hbnd := Q9.out.bound (ops_cost OK.out) HND.out.2.2.2.2.1 hpg
            have hsp := wayN_split (wordsOf t.ops) out.reverse
            have hacc : goalB (wd t.goal) g = true := by
              obtain ⟨p', _, ha, _⟩ := Q10.out.some_ rfl
              exact ha
            have HLC := Lib.hid (show (out.reverse.length : Int) = p % 4096 ∧ costN (wordsOf t.ops) out.reverse = p / 4096 by
              have e1 : out.reverse.length ≤ 2000 := by rw [List.length_reverse]; omega
              omega)
            have HRUN := Lib.hid hrn; have HBT := Lib.hid (show BestT t p from hlst); have HP0 := Lib.hid hbnd.1; have HAC := Lib.hid hacc
            have HPIN := Lib.hid (planIn_run hrn)
            have HEND := Lib.hid (show RunEnd (wordsOf t.ops) (wd t.init) ws (goalB (wd t.goal)) (kindH t k) (pre.map Rdn.bd ++ [x.bd]) nn true x.bd from .inr ⟨rfl, Q2.out, pre.map Rdn.bd, n, _, H2.out, HRD.out, HEN.out, rfl, by rw [← HNN.out, ← HVK.out]⟩)
            have hk2 : ∀ q, w6.heap.size ≤ q → ¬ q = wa.heap.size := fun q hq e => by omega
            have HPA := Lib.hid (pathC_any W2.drew mr (wd t.init) g par (parF (wd t.init) par) out (Q8.out.keeps HKD.out (hk2 _ Q4.out)) (parF_of Q9.out.start.2) Q9.out.start.2 hch (by omega))
            have HTD := Lib.hid (HT4.out.keeps0 HKW.out); have HRD2 := Lib.hid (HR4.out.keeps0 HKW.out)
            have HRW := Lib.hid (HR4.out.keeps0 H3.out)
            have HWD := Lib.hid (HW.out.past HKW.out)
            have hSd : W2.drew.cell? ⟨w.heap.size, 0, none⟩ = some (.int .i64 t.n) ∧ W2.drew.cell? ⟨w.heap.size, 1, none⟩ = some (.slice ai t.init.length ci) ∧ W2.drew.cell? ⟨w.heap.size, 2, none⟩ = some (.slice ag t.goal.length cg) ∧ W2.drew.cell? ⟨w.heap.size, 3, none⟩ = some (.slice ao t.ops.length co) ∧ W2.drew.cell? ⟨x.rb, 1, none⟩ = some (.map (some mr)) ∧ W2.drew.cell? ⟨x.rb, 3, none⟩ = some (.int .u32 (g : Int)) ∧ W2.drew.cell? ⟨b6, 0, none⟩ = some (.pointer (some ⟨b, 0, none⟩)) ∧ W2.drew.cell? ⟨wa.heap.size, 0, none⟩ = some (.int .i64 nn) := by
              obtain ⟨e0, e1, e2, e3⟩ := HB4.out.keeps0 HKW.out
              exact ⟨e0, e1, e2, e3, (cell_of_blk (HKD.out.heap Q6.out (hk2 _ Q3.out))).trans rfl, (cell_of_blk (HKD.out.heap Q6.out (hk2 _ Q3.out))).trans rfl, (cell_of_blk (HKW.out.heap HB6.out (fun h => h))).trans rfl, (cell_of_blk (((Keeps.refl (fun _ => False) W2).drew).heap HX9.out (fun h => h))).trans rfl⟩
            have HS1 := Lib.hid hSd
            have HW6 := Lib.hid (show w6.heap.size ≤ W2.drew.heap.size from Nat.le_trans H4.out HKD.out.size)
            clear hpg hch hrn hwy hlst hpb hbnd hsp hacc hk2 hSd lo1 hvl
            gi_upto_region 9 with fail
            clear x4c xrl
            refine wpIn_region_held (fun W' => W'.cell? ⟨w.heap.size, 0, none⟩ = some (.int .i64 t.n) ∧ W'.cell? ⟨w.heap.size, 1, none⟩ = some (.slice ai t.init.length ci) ∧ W'.cell? ⟨w.heap.size, 2, none⟩ = some (.slice ag t.goal.length cg) ∧ W'.cell? ⟨w.heap.size, 3, none⟩ = some (.slice ao t.ops.length co) ∧ W'.cell? ⟨x.rb, 1, none⟩ = some (.map (some mr)) ∧ W'.cell? ⟨x.rb, 3, none⟩ = some (.int .u32 (g : Int)) ∧ W'.cell? ⟨b6, 0, none⟩ = some (.pointer (some ⟨b, 0, none⟩)) ∧ W'.cell? ⟨wa.heap.size, 0, none⟩ = some (.int .i64 nn)) (fun i => decide (16 ≤ i)) hmix ?_
            generalize W2.drew = W3 at HKW HKD HPA HTD HRD2 HWD HS1 HW6 ⊢
            refine wpAnyHIn_take (Wide.wide.inRound lp) 0 (.agg #[.int .i64 t.n, .slice ai t.init.length ci, .slice ag t.goal.length cg, .slice ao t.ops.length co]) rfl (by kernel_rfl) (by kernel_rfl) (by kernel_rfl) (by kernel_rfl) (by kernel_rfl) (fun _ _ _ h => h) HS1.out ?_ (by kernel_rfl) ?_
            · rintro W ⟨s0, s1, s2, s3, s4, s5, s6, s7⟩; go_simp
            refine wpAnyHIn_take (Wide.wide.inRound lp) 1 (.pointer (some ⟨x.rb, 0, none⟩)) rfl (by kernel_rfl) (by kernel_rfl) (by kernel_rfl) (by kernel_rfl) (by kernel_rfl) (fun _ _ _ h => h) HS1.out ?_ (by kernel_rfl) ?_
            · rintro W ⟨s0, s1, s2, s3, s4, s5, s6, s7⟩; go_simp
            refine wpAnyHIn_take (Wide.wide.inRound lp) 2 (.pointer (some ⟨x.rb, 0, none⟩)) rfl (by kernel_rfl) (by kernel_rfl) (by kernel_rfl) (by kernel_rfl) (by kernel_rfl) (fun _ _ _ h => h) HS1.out ?_ (by kernel_rfl) ?_
            · rintro W ⟨s0, s1, s2, s3, s4, s5, s6, s7⟩; go_simp
            refine wpAnyHIn_take (Wide.wide.inRound lp) 3 (.pointer (some ⟨x.rb, 1, none⟩)) rfl (by kernel_rfl) (by kernel_rfl) (by kernel_rfl) (by kernel_rfl) (by kernel_rfl) (fun _ _ _ h => h) HS1.out ?_ (by kernel_rfl) ?_
            · rintro W ⟨s0, s1, s2, s3, s4, s5, s6, s7⟩; go_simp
            refine wpAnyHIn_take (Wide.wide.inRound lp) 4 (.map (some mr)) rfl (by kernel_rfl) (by kernel_rfl) (by kernel_rfl) (by kernel_rfl) (by kernel_rfl) (fun _ _ _ h => h) HS1.out ?_ (by kernel_rfl) ?_
            · rintro W ⟨s0, s1, s2, s3, s4, s5, s6, s7⟩; go_simp
            refine wpAnyHIn_take (Wide.wide.inRound lp) 5 (.pointer (some ⟨b, 0, none⟩)) rfl (by kernel_rfl) (by kernel_rfl) (by kernel_rfl) (by kernel_rfl) (by kernel_rfl) (fun _ _ _ h => h) HS1.out ?_ (by kernel_rfl) ?_
            · rintro W ⟨s0, s1, s2, s3, s4, s5, s6, s7⟩; go_simp
            refine wpAnyHIn_take (Wide.wide.inRound lp) 7 (.pointer (some ⟨x.rb, 0, none⟩)) rfl (by kernel_rfl) (by kernel_rfl) (by kernel_rfl) (by kernel_rfl) (by kernel_rfl) (fun _ _ _ h => h) HS1.out ?_ (by kernel_rfl) ?_
            · rintro W ⟨s0, s1, s2, s3, s4, s5, s6, s7⟩; go_simp
            refine wpAnyHIn_take (Wide.wide.inRound lp) 8 (.pointer (some ⟨x.rb, 0, none⟩)) rfl (by kernel_rfl) (by kernel_rfl) (by kernel_rfl) (by kernel_rfl) (by kernel_rfl) (fun _ _ _ h => h) HS1.out ?_ (by kernel_rfl) ?_
            · rintro W ⟨s0, s1, s2, s3, s4, s5, s6, s7⟩; go_simp
            refine wpAnyHIn_take (Wide.wide.inRound lp) 9 (.pointer (some ⟨x.rb, 3, none⟩)) rfl (by kernel_rfl) (by kernel_rfl) (by kernel_rfl) (by kernel_rfl) (by kernel_rfl) (fun _ _ _ h => h) HS1.out ?_ (by kernel_rfl) ?_
            · rintro W ⟨s0, s1, s2, s3, s4, s5, s6, s7⟩; go_simp
            refine wpAnyHIn_take (Wide.wide.inRound lp) 10 (.int .u32 (g : Int)) rfl (by kernel_rfl) (by kernel_rfl) (by kernel_rfl) (by kernel_rfl) (by kernel_rfl) (fun _ _ _ h => h) HS1.out ?_ (by kernel_rfl) ?_
            · rintro W ⟨s0, s1, s2, s3, s4, s5, s6, s7⟩; go_simp
            refine wpAnyHIn_take (Wide.wide.inRound lp) 12 (.int .i64 nn) rfl (by kernel_rfl) (by kernel_rfl) (by kernel_rfl) (by kernel_rfl) (by kernel_rfl) (fun _ _ _ h => h) HS1.out ?_ (by kernel_rfl) ?_
            · rintro W ⟨s0, s1, s2, s3, s4, s5, s6, s7⟩; go_simp
            refine wpAnyHIn_one 6 rfl (by kernel_rfl) (by kernel_rfl) (fun K hK => ?_)
            go_simp
            refine ⟨trivial, ?_⟩
            refine (CallsIn.inRound lp (callsIn_wide.2 (start_any _ _ _ _ _ _ _ HWD.out))).mono ?_; rintro en we ⟨rfl, rfl⟩
            refine hK _ _ (fun _ => HS1.out) ?_
            clear hK K
            refine wpAnyHIn_one 11 rfl (by kernel_rfl) (by kernel_rfl) (fun K hK => ?_)
            go_simp
            refine ⟨trivial, ?_⟩
            refine (CallsIn.inRound lp (callsIn_wide.2 HPA.out)).mono ?_; rintro en wp ⟨vp, rfl, hrow, hkp⟩
            rw [show out.length = (intsP out.reverse).length from by unfold intsP; rw [List.length_map, List.length_reverse]] at hrow
            obtain ⟨lq, hlq⟩ : ∃ lq, intsP out.reverse = lq := ⟨_, rfl⟩
            rw [hlq] at hrow
            have HLQ := Lib.hid hlq
            have HPI2 := Lib.hid (show PlanIn t lq from by rw [← hlq]; exact HPIN.out)
            clear hlq
            have HROW := Lib.hid (ownsRow_mono hrow HW6.out)
            obtain ⟨a3, c3, hv3⟩ := ownsRow_form1 hrow
            subst hv3
            have HKP := Lib.hid hkp
            have HS2 := Lib.hid (cells8 hkp HS1.out)
            have HTP := Lib.hid (HTD.out.keeps0 hkp); have HRP := Lib.hid (HRD2.out.keeps0 hkp)
            clear hrow hkp
            refine hK _ _ (fun _ => HS2.out) ?_
            clear hK K
            have HLL := Lib.hid (show lq.length = out.reverse.length by rw [← HLQ.out]; unfold intsP; rw [List.length_map])
            by_cases h60 : lq.length ≤ 60
            · have HPO := Lib.hid (show DPF t k true lq (costL t lq) nn 0 0 from by
                  rw [← HLQ.out]
                  exact .inr ⟨HAD.out, 0, bplan_short OK.out HX.out HBT.out HP0.out HRUN.out HAC.out HLC.out.1 HLC.out.2 (by have := HLL.out; omega) ⟨Int.le_refl _, by omega⟩, fun h => absurd rfl h, fun _ => ⟨l, ws, _, _, HX.out, HPM.out, HEND.out⟩⟩)
              refine wpAnyHIn_one 13 rfl (by kernel_rfl) (by kernel_rfl) (fun K hK => ?_)
              go_simp
              refine ⟨trivial, ?_⟩
              refine (CallsIn.inRound lp (callsIn_wide.2 (aresult_fit wp _ _ _ _ t lq true nn HTP.out OK.out (Ints.of_own HROW.out) HPI2.out h60))).mono ?_; rintro en w8 ⟨rfl, hk8⟩
              have HK8 := Lib.hid hk8; have HR8 := Lib.hid (HRP.out.keeps0 hk8); have HROW8 := Lib.hid (hk8.ownsRow HROW.out (fun _ _ h => h)); have HS3 := Lib.hid (cells8 hk8 HS2.out)
              obtain ⟨r0, r1, r2, r3, y0, y1, y2, y3, hlR⟩ := HR8.out.cells
              obtain ⟨e0, e1, z0, z1, hF⟩ := HR8.out.flt.cells
              have HFIN := Lib.hid (HR8.out.set (.bool true) (.slice a3 lq.length c3) (.int .i64 (costL t lq)) (.int .i64 nn) (.int .i64 0) (.int .i64 0))
              clear hk8
              refine hK _ _ (fun _ => HS3.out) ?_
              clear hK K
              refine wpAnyHIn_take (Wide.wide.inRound lp) 14 (.agg #[.bool true, .slice a3 lq.length c3, .int .i64 (costL t lq), .int .i64 nn]) rfl (by kernel_rfl) (by kernel_rfl) (by kernel_rfl) (by kernel_rfl) (by kernel_rfl) (fun _ _ _ h => h) HS3.out ?_ (by kernel_rfl) ?_
              · rintro W ⟨s0, s1, s2, s3, s4, s5, s6, s7⟩; go_simp
              refine wpAnyHIn_take (Wide.wide.inRound lp) 15 (.agg #[.int .i64 0, .int .i64 0]) rfl (by kernel_rfl) (by kernel_rfl) (by kernel_rfl) (by kernel_rfl) (by kernel_rfl) (fun _ _ _ h => h) HS3.out ?_ (by kernel_rfl) ?_
              · rintro W ⟨s0, s1, s2, s3, s4, s5, s6, s7⟩; go_simp
              refine wpAnyHIn_one 16 rfl (by kernel_rfl) (by kernel_rfl) (fun K hK => ?_)
              go_simp
              refine hK _ _ (fun h => absurd h (by decide)) ?_
              clear hK K
              refine wpAnyHIn_one 17 rfl (by kernel_rfl) (by kernel_rfl) (fun K hK => ?_)
              go_simp
              refine hK _ _ (fun h => absurd h (by decide)) ?_
              clear hK K
              refine wpAnyHIn_done (by kernel_rfl) ?_
              gi_wp2
              have KT := ((HKD.out.trans (HKP.out.mono (fun _ _ h => h.elim))).trans (HK8.out.mono (fun _ _ h => h.elim))).mono (S' := fun q => q = wa.heap.size ∨ q = w.heap.size + 1 ∨ q = w.heap.size + 1 + 1) (fun _ _ h => .inl h)
              have KT2 := KT.trans (HFIN.out.2.2.2.mono (fun _ _ h => .inr h))
              refine ⟨keepsFrom_cells KT2 (fun q hq => ?_), rfl, _, _, _, _, _, _, _, HFIN.out.1, HFIN.out.2.1, HFIN.out.2.2.1, ?_, HPO.out⟩
              · rcases hq with rfl | rfl | rfl
                · exact ⟨_, _, _, H1.out⟩
                · exact ⟨_, _, _, HRW.out.res⟩
                · exact ⟨_, _, _, HRW.out.flt.blk⟩
              · exact HFIN.out.2.2.2.ownsRow HROW8.out (fun q hq e => by have h1 := (World.ownsRow.lt HROW8.out q hq).1; omega)
            · have HPO := Lib.hid (show DPF t k false [] 0 0 10 (-9) from .inr ⟨HAD.out, 0, bplan_long OK.out HX.out HBT.out HP0.out HLC.out.1 (by have := HLL.out; omega), fun _ => rfl, fun h => by cases h⟩)
              refine wpAnyHIn_one 13 rfl (by kernel_rfl) (by kernel_rfl) (fun K hK => ?_)
              go_simp
              refine ⟨trivial, ?_⟩
              refine (CallsIn.inRound lp (callsIn_wide.2 (aresult_long wp _ _ _ _ t lq true nn HTP.out OK.out (Ints.of_own HROW.out) HPI2.out (by omega)))).mono ?_; rintro en w8 ⟨rfl, hk8⟩
              have HK8 := Lib.hid hk8; have HR8 := Lib.hid (HRP.out.keeps0 hk8); have HROW8 := Lib.hid (hk8.ownsRow HROW.out (fun _ _ h => h)); have HS3 := Lib.hid (cells8 hk8 HS2.out)
              obtain ⟨r0, r1, r2, r3, y0, y1, y2, y3, hlR⟩ := HR8.out.cells
              obtain ⟨e0, e1, z0, z1, hF⟩ := HR8.out.flt.cells
              have HFIN := Lib.hid (HR8.out.set (.bool false) (.slice none 0 0) (.int .i64 0) (.int .i64 0) (.int .i64 10) (.int .i64 (-9)))
              clear hk8
              refine hK _ _ (fun _ => HS3.out) ?_
              clear hK K
              refine wpAnyHIn_take (Wide.wide.inRound lp) 14 (.agg #[.bool false, .slice none 0 0, .int .i64 0, .int .i64 0]) rfl (by kernel_rfl) (by kernel_rfl) (by kernel_rfl) (by kernel_rfl) (by kernel_rfl) (fun _ _ _ h => h) HS3.out ?_ (by kernel_rfl) ?_
              · rintro W ⟨s0, s1, s2, s3, s4, s5, s6, s7⟩; go_simp
              refine wpAnyHIn_take (Wide.wide.inRound lp) 15 (.agg #[.int .i64 10, .int .i64 (-9)]) rfl (by kernel_rfl) (by kernel_rfl) (by kernel_rfl) (by kernel_rfl) (by kernel_rfl) (fun _ _ _ h => h) HS3.out ?_ (by kernel_rfl) ?_
              · rintro W ⟨s0, s1, s2, s3, s4, s5, s6, s7⟩; go_simp
              refine wpAnyHIn_one 16 rfl (by kernel_rfl) (by kernel_rfl) (fun K hK => ?_)
              go_simp
              refine hK _ _ (fun h => absurd h (by decide)) ?_
              clear hK K
              refine wpAnyHIn_one 17 rfl (by kernel_rfl) (by kernel_rfl) (fun K hK => ?_)
              go_simp
              refine hK _ _ (fun h => absurd h (by decide)) ?_
              clear hK K
              refine wpAnyHIn_done (by kernel_rfl) ?_
              gi_wp2
              have KT := ((HKD.out.trans (HKP.out.mono (fun _ _ h => h.elim))).trans (HK8.out.mono (fun _ _ h => h.elim))).mono (S' := fun q => q = wa.heap.size ∨ q = w.heap.size + 1 ∨ q = w.heap.size + 1 + 1) (fun _ _ h => .inl h)
              have KT2 := KT.trans (HFIN.out.2.2.2.mono (fun _ _ h => .inr h))
              refine ⟨keepsFrom_cells KT2 (fun q hq => ?_), rfl, _, _, _, _, _, _, _, HFIN.out.1, HFIN.out.2.1, HFIN.out.2.2.1, ?_, HPO.out⟩
              · rcases hq with rfl | rfl | rfl
                · exact ⟨_, _, _, H1.out⟩
                · exact ⟨_, _, _, HRW.out.res⟩
                · exact ⟨_, _, _, HRW.out.flt.blk⟩
              · exact World.ownsRow_nil _ _ _ _
        case hdone =>
          rintro D xs W hD ⟨n, fnd, b', hend⟩ ⟨n1, h1, ⟨bb, h2⟩, h3, h4⟩ hd
          cases fnd with
          | true => exact (hend.not_found h2).elim
          | false =>
            have hrun : RunTo (wordsOf t.ops) (wd t.init) ws (goalB (wd t.goal)) (kindH t k) (xs.map Rdn.bd) n b' ∧ 1000000000 ≤ b' := by
              rcases hend with ⟨_, g1, g2⟩ | ⟨g1, _⟩
              · exact ⟨g1, g2⟩
              · cases g1
            obtain ⟨-, rfl, rfl⟩ := RunTo.unique (List.Perm.refl ws) _ hrun.1 h2 rfl rfl
            have hr2 := (reached_some (ops := wordsOf t.ops) (s := wd t.init) (l := l) HX.out).2.2.2
            have hbt : BestT t (-1) := deep_none HND.out.2.2.2.1 (ops_cost OK.out) HND.out.2.2.2.2.1 (fun p y h => HPM.out.mem_iff.2 ((hr2 y).2 (reach_run p ((hr2 _).1 (HPM.out.mem_iff.1 HND.out.2.2.2.2.2.2.2)) h))) HAM.out HND.out.2.2.2.2.2.2.2 h2 hrun.2
            have HPO := Lib.hid (show DPF t k false [] 0 n 0 0 from .inr ⟨HAD.out, 0, bplan_none OK.out HX.out hbt ⟨Int.le_refl _, by omega⟩, fun h => absurd rfl h, fun _ => ⟨l, ws, _, _, HX.out, HPM.out, hend⟩⟩)
            have HDD := Lib.hid hd
            have HTW := Lib.hid (HT4.out.keeps0 h3)
            have HRW := Lib.hid (HR4.out.keeps0 h3)
            obtain ⟨d0, d1, d2, d3⟩ := HB4.out.keeps0 h3
            have hbx := (HB4.out.keeps0 h3).lt
            have x9c : W.cell? ⟨wa.heap.size, 0, none⟩ = some (.int .i64 n) := (cell_of_blk h1).trans rfl
            have x9l := lt_of_heap h1
            have hDl := (Array.getElem?_eq_some_iff.1 hd).1
            clear hend hrun h1 h2 h3 hbt hd lo1
            gi_wp2
            refine ⟨trivial, ?_⟩
            refine (callsIn_wide.2 (result_any W _ _ _ _ t [] false n HTW.out OK.out (Ints.nil _) (fun z hz => by simp at hz))).mono ?_
            rintro e w8 ⟨hk8, hr8⟩
            rcases hr8 with ⟨h60, rfl⟩ | ⟨h60, rfl⟩
            · simp at h60
            have HR8 := Lib.hid (HRW.out.keeps0 hk8)
            have HD8 := Lib.hid (hk8.heap HDD.out (fun h => h))
            obtain ⟨r0, r1, r2, r3, y0, y1, y2, y3, hlR⟩ := HR8.out.cells
            obtain ⟨e0, e1, z0, z1, hF⟩ := HR8.out.flt.cells
            have HFIN := Lib.hid (HR8.out.set (.bool false) (.slice none 0 0) (.int .i64 (costL t [])) (.int .i64 n) (.int .i64 0) (.int .i64 0))
            simp only [resV, fltV]
            clear d0 d1 d2 d3 hbx x9c x9l hk8 h60
            gi_wp2
            have hDD := HFIN.out.2.2.2.heap HD8.out (by omega)
            refine leaves_marks (B := w.heap.size) (ds := [mark D]) (Marks.cons (Marks.nil w6 _) (Marks.nil _ _) hD (by omega) hDD) (fun W' hk => ?_)
            refine ⟨_, results_cell_cell _ _ (w.heap.size + 1 + 1) 31 #[.int .i64 0, .int .i64 0] (0, 0) _ rfl rfl (hk.heap HFIN.out.2.1 (fun h => by have h' := h.2; rw [HFIN.out.2.1] at h'; cases h')) Tryz.underlying31 rfl (by kernel_rfl) rfl (hk.heap HFIN.out.1 (fun h => by have h' := h.2; rw [HFIN.out.1] at h'; cases h')) Tryz.underlying29 rfl (by kernel_rfl), ?_⟩
            exact ⟨HFIN.out.2.2.1.trans' hk (fun i hi => .inr hi.1), false, _, [], 0, n, 0, 0, rfl, Ints.nil _, HPO.out⟩
        case hstop =>
          rintro D c pre W hD - ⟨rfl, fnd, vp, lq, cst, n, fc, fi, h1, h2, h3, h4, h5⟩ hd
          gi_wp2
          refine leaves_marks (B := w.heap.size) (ds := [mark D]) (Marks.cons (Marks.nil w6 _) (Marks.nil _ _) hD (by omega) hd) (fun W' hk => ?_)
          refine ⟨_, results_cell_cell _ _ (w.heap.size + 1 + 1) 31 #[.int .i64 fc, .int .i64 fi] (0, 0) _ rfl rfl (hk.heap h2 (fun h => by have h' := h.2; rw [h2] at h'; cases h')) Tryz.underlying31 rfl (by kernel_rfl) rfl (hk.heap h1 (fun h => by have h' := h.2; rw [h1] at h'; cases h')) Tryz.underlying29 rfl (by kernel_rfl), ?_⟩
          exact ⟨h3.trans' hk (fun i hi => .inr hi.1), fnd, vp, lq, cst, n, fc, fi, rfl, Ints.of_own (hk.ownsRow h4 (fun q hq e => row_not_deferred h4 q hq e.2)), h5⟩

end Go.Proofs.YtkjmgafnaddhkaaGreat

namespace Go.Proofs.YtkjmgafnaddhkaaGreat
open Go.RowKit

theorem stepT_run {q : List Nat} {x y : Nat} (h : runOps (wordsOf stepT.ops) x q = some y) : costN (wordsOf stepT.ops) q = 3 * (q.length : Int) ∧ ∀ k ∈ q, k = 0 := by
  have hl := runOps_lt h
  have hz : ∀ k ∈ q, k = 0 := fun k hk => by
    have h1 := hl k hk
    have h2 : (wordsOf stepT.ops).length = 1 := rfl
    omega
  refine ⟨?_, hz⟩
  clear h hl
  induction q with
  | nil => rfl
  | cons a r ih =>
    obtain rfl := hz a (by simp)
    have h1 := ih (fun k hk => hz k (by simp [hk]))
    rw [costN, h1, List.length_cons]
    have : ((wordsOf stepT.ops)[0]?.map Wop.cost).getD 0 = 3 := rfl
    rw [this]
    omega

theorem stepT_least : BestT stepT 12289 := by
  refine .inr ⟨by decide, ⟨[0], 1, by decide, by decide, by decide⟩, fun p y hr hy => ?_⟩
  have h1 := (stepT_run hr).1
  rw [wayN_split, h1]
  cases p with
  | nil =>
    simp [runOps] at hr; subst hr
    exact absurd hy (by decide)
  | cons a q => rw [List.length_cons]; omega

theorem stepT_expF : expF stepT = (0, 0) := by unfold expF; rw [if_pos (by rw [stepT_ok]), stepT_reached]

end Go.Proofs.YtkjmgafnaddhkaaGreat

namespace Go.Proofs.YtkjmgafnaddhkaaGreat
open Go.RowKit

theorem stepT_ops : wordsOf stepT.ops = [⟨0, 1, 0, 3⟩] := rfl
theorem stepT_op {a : Nat} {o : Wop} (h : (wordsOf stepT.ops)[a]? = some o) : o.cost = 3 ∧ o.next 0 = 1 ∧ o.next 1 = 1 := by
  rw [stepT_ops] at h
  cases a with
  | zero => simp at h; subst h; decide
  | succ a => simp at h
theorem stepT_bway {b : Int} {x : Nat} {q vs : List Nat} (h : BWay (wordsOf stepT.ops) 0 (fun _ => 0) b x q vs) : (x = 0 ∧ q = []) ∨ (x = 1 ∧ 3 ≤ costN (wordsOf stepT.ops) q ∧ 3 ≤ b) := by
  induction h with
  | nil => exact .inl ⟨rfl, rfl⟩
  | @snoc x q vs a o _ ho _ _ hb ih =>
    obtain ⟨h1, h2, h3⟩ := stepT_op ho
    have hb0 : costN (wordsOf stepT.ops) q + o.cost ≤ b := by have : costN (wordsOf stepT.ops) q + o.cost + (0 : Int) ≤ b := hb; omega
    rw [h1] at hb0
    have e := costN_snocB ho q
    rcases ih with ⟨rfl, rfl⟩ | ⟨rfl, g1, g2⟩
    · have : costN (wordsOf stepT.ops) [] = 0 := rfl
      exact .inr ⟨h2, by omega, by omega⟩
    · exact .inr ⟨h3, by omega, by omega⟩
def stepC (b : Int) (x : Nat) : Option Int := if x = 0 then some 0 else if x = 1 ∧ 3 ≤ b then some 3 else none
theorem stepT_rnd {ws : List Nat} (hp : ws.Perm [0, 1]) (b : Int) : RndOk (wordsOf stepT.ops) 0 ws (fun _ => 0) b (stepC b) := by
  have h01 : (0 : Nat) ∈ ws ∧ (1 : Nat) ∈ ws := ⟨hp.mem_iff.2 (by simp), hp.mem_iff.2 (by simp)⟩
  refine ⟨fun x c hc => ?_, fun x c hc => ?_, fun x q vs hw => ?_⟩
  · unfold stepC at hc
    split at hc
    · rename_i e; rw [e]; exact h01.1
    · split at hc
      · rename_i e; rw [e.1]; exact h01.2
      · cases hc
  · unfold stepC at hc
    split at hc
    · rename_i e; cases hc; rw [e]; exact ⟨[], [0], .nil, rfl⟩
    · split at hc
      · rename_i e; cases hc
        have h0 : (wordsOf stepT.ops)[0]? = some ⟨0, 1, 0, 3⟩ := rfl
        have := BWay.snoc (ops := wordsOf stepT.ops) (st := 0) (H := fun _ => 0) (b := b) (a := 0) (o := ⟨0, 1, 0, 3⟩) .nil h0 (by decide) (by decide) (by have h3 := e.2; show (0 : Int) + 3 + 0 ≤ b; omega)
        rw [e.1]
        exact ⟨[0], _, this, by decide⟩
      · cases hc
  · rcases stepT_bway hw with ⟨rfl, rfl⟩ | ⟨rfl, h1, h2⟩
    · exact ⟨0, rfl, Int.le_refl _⟩
    · exact ⟨3, by unfold stepC; rw [if_neg (by decide), if_pos ⟨rfl, h2⟩], h1⟩
theorem stepT_end {ws : List Nat} (hp : ws.Perm [0, 1]) : RunEnd (wordsOf stepT.ops) (wd stepT.init) ws (goalB (wd stepT.goal)) (kindH stepT 0) [0, 3] 3 true 3 := by
  have e0 : wd stepT.init = 0 := rfl
  have eg : goalB (wd stepT.goal) = fun x => goalB 1 x := rfl
  have ek : kindH stepT 0 = fun _ => 0 := rfl
  rw [e0, eg, ek]
  have n0 : nVis ws (stepC 0) = 1 := (nVis_perm hp _).trans (by decide)
  have n3 : nVis ws (stepC 3) = 2 := (nVis_perm hp _).trans (by decide)
  have x0 : endsB ws (fun x => goalB 1 x) (stepC 0) = false := (endsB_perm hp _ _).trans (by decide)
  have x3 : endsB ws (fun x => goalB 1 x) (stepC 3) = true := (endsB_perm hp _ _).trans (by decide)
  have hnx : NextOk (wordsOf stepT.ops) (fun _ => 0) 0 (stepC 0) 3 := by
    refine ⟨by decide, .inr ⟨0, 0, ⟨0, 1, 0, 3⟩, rfl, by rw [stepT_ops]; exact List.mem_singleton.2 rfl, by decide, by decide, by decide, by decide⟩, fun u hu => ?_⟩
    obtain ⟨x, c, o, h1, h2, _, _, h3, h4⟩ := hu
    obtain ⟨a, ha⟩ := List.mem_iff_getElem?.1 h2
    have := (stepT_op ha).1
    unfold stepC at h1
    split at h1
    · cases h1; have h5 : u = 0 + o.cost + 0 := h3; omega
    · rw [if_neg (fun h => absurd h.2 (by decide))] at h1; cases h1
  have r1 := RunTo.step (ops := wordsOf stepT.ops) (st := 0) (L := ws) (acc := fun x => goalB 1 x) (H := fun _ => 0) .start (by decide) (stepT_rnd hp 0) x0 hnx
  rw [n0] at r1
  exact .inr ⟨rfl, by decide, [0], 1, stepC 3, r1, stepT_rnd hp 3, x3, rfl, by rw [n3]; rfl⟩

theorem dplanStep_any (w : World) (vi vg vo : Value) (h : TaskAt w vi vg vo stepT) :
    Calls Tryz.prog 14 #[.agg #[.int .i64 1, vi, vg, vo], .int .i64 0] w fun e w' => ∃ v, e = .returned (.tuple #[resV true v 3 3, fltV 0 0]) ∧ Ints w' v [0] ∧ Keeps (fun _ => False) w w' := by
  refine (callsIn_wide.1 (dplan_in w vi vg vo stepT 0 h)).mono ?_
  rintro e w' ⟨hk, fnd, vp, lp, c, n, fc, fi, rfl, hi, hr⟩
  rcases hr with ⟨h1, _⟩ | ⟨_, n0, hr, _, hx⟩
  · cases h1
  rcases hr with ⟨h1, h2, _⟩ | ⟨_, _, l, b, hl, hb, hr⟩
  · rw [stepT_expF] at h2; cases h2; exact absurd rfl h1
  · obtain rfl := LeastOf.unique hb stepT_least
    rcases hr with ⟨h1, _⟩ | ⟨_, rfl, rfl, hg⟩
    · exact absurd h1 (by decide)
    · obtain ⟨rfl, q, y, rfl, hrun, hacc, hlen, hcost, rfl⟩ := hg.some_ (by decide)
      have hz := (stepT_run hrun).2
      have hl1 : q.length = 1 := by omega
      obtain ⟨a, rfl⟩ := List.length_eq_one_iff.1 hl1
      obtain rfl := hz a (by simp)
      obtain ⟨l', ws, bs, bb, g1, g2, g3⟩ := hx rfl
      have e1 : l' = [0, 1] := by have := stepT_reached.symm.trans g1; cases this; rfl
      subst e1
      obtain ⟨-, rfl, -, -⟩ := g3.unique (List.Perm.refl ws) (stepT_end g2)
      exact ⟨vp, rfl, hi, hk⟩

theorem boundsStep_any (w : World) (vi vg vo : Value) (h : TaskAt w vi vg vo stepT) :
    Calls Tryz.prog 22 #[.agg #[.int .i64 1, vi, vg, vo], .int .i64 0] w fun e w' => ∃ v, e = .returned (.tuple #[v, fltV 0 0]) ∧ Ints w' v [0, 3] ∧ Keeps (fun _ => False) w w' := by
  refine (callsIn_wide.1 (bounds_in w vi vg vo stepT 0 h)).mono ?_
  rintro e w' ⟨hk, v, bs, c, i, rfl, hr⟩
  rcases hr with ⟨h1, h2, _⟩ | ⟨rfl, rfl, _, _, hi, l, ws, n, fnd, b, g1, g2, g3⟩
  · rw [show admK 0 = true from rfl, kindF_true, stepT_expF] at h2; cases h2; exact absurd rfl h1
  · have e1 : l = [0, 1] := by have := stepT_reached.symm.trans g1; cases this; rfl
    subst e1
    obtain ⟨rfl, -, -, -⟩ := g3.unique (List.Perm.refl ws) (stepT_end g2)
    exact ⟨v, rfl, hi, hk⟩

set_option maxRecDepth 100000 in
set_option maxHeartbeats 2000000 in
theorem deepExample_any (w : World) : Calls Tryz.prog 12 #[] w fun e w' => e = .returned (.bool true) ∧ Keeps (fun _ => False) w w' := by
  go_enter Tryz.func12, Tryz.ntmps12
  go_wp2_with fail
  refine (step_any _).mono ?_; rintro e w1 ⟨vi, vg, vo, rfl, ht, hk⟩
  have HT := Lib.hid ht; have K1 := Lib.hid hk
  clear ht hk
  go_wp2_with fail
  refine (dplanStep_any _ _ _ _ HT.out).mono ?_; rintro e w2 ⟨vp, rfl, hp, hk⟩
  obtain ⟨ap, cp, hvp, _⟩ := hp.form
  subst hvp
  have HP := Lib.hid hp; have K2 := Lib.hid (K1.out.trans hk)
  clear hp hk HT
  simp only [resV, fltV]
  have KA := (Keeps.refl (fun _ => False) w2).alloc (.cells #[.bool true, .slice ap 1 cp, .int .i64 3, .int .i64 3] 29)
  have KB := (Keeps.refl (fun _ => False) (w2.alloc (.cells #[.bool true, .slice ap 1 cp, .int .i64 3, .int .i64 3] 29))).alloc (.cells #[.int .i64 0, .int .i64 0] 31)
  have H3 := Lib.hid (KB.heap (heap_alloc_new w2 (.cells #[.bool true, .slice ap 1 cp, .int .i64 3, .int .i64 3] 29)) (fun h => h))
  have hf := heap_alloc_new (w2.alloc (.cells #[.bool true, .slice ap 1 cp, .int .i64 3, .int .i64 3] 29)) (.cells #[.int .i64 0, .int .i64 0] 31)
  rw [World.size_alloc] at hf
  have F3 := Lib.hid hf
  have K3 := Lib.hid (K2.out.trans (KA.trans KB)); have HP3 := Lib.hid (HP.out.keeps0 (KA.trans KB))
  clear KA KB hf
  go_upto_region 2 with fail
  generalize (w2.alloc (.cells #[.bool true, .slice ap 1 cp, .int .i64 3, .int .i64 3] 29)).alloc (.cells #[.int .i64 0, .int .i64 0] 31) = w3 at H3 F3 K3 HP3 ⊢
  generalize w2.heap.size = b3 at H3 F3 ⊢
  go_wp2_with fail
  refine (step_any _).mono ?_; rintro e w4 ⟨vi2, vg2, vo2, rfl, ht, hk⟩
  have HT := Lib.hid ht; have K4 := Lib.hid (K3.out.trans hk); have HP4 := Lib.hid (HP3.out.keeps0 hk); have H4 := Lib.hid (hk.heap H3.out (fun h => h)); have F4 := Lib.hid (hk.heap F3.out (fun h => h))
  clear ht hk
  go_wp2_with fail
  refine (boundsStep_any _ _ _ _ HT.out).mono ?_; rintro e w5 ⟨vs, rfl, hvs, hk⟩
  simp only [fltV]
  have KA := (Keeps.refl (fun _ => False) w5).alloc (.cells #[.int .i64 0, .int .i64 0] 31)
  have KB := hk.trans KA
  have HVS := Lib.hid (hvs.keeps0 KA)
  have G6 := Lib.hid (heap_alloc_new w5 (.cells #[.int .i64 0, .int .i64 0] 31))
  have K6 := Lib.hid (K4.out.trans KB); have HP6 := Lib.hid (HP4.out.keeps0 KB); have H6 := Lib.hid (KB.heap H4.out (fun h => h)); have F6 := Lib.hid (KB.heap F4.out (fun h => h))
  clear hk KA KB
  go_upto_region 3 with fail
  generalize w5.alloc (.cells #[.int .i64 0, .int .i64 0] 31) = w6 at G6 K6 HP6 H6 F6 HVS ⊢
  generalize w5.heap.size = b6 at G6 ⊢
  obtain ⟨g0, g1, _, _, gl⟩ := pair_cells G6.out
  obtain ⟨f0, f1, _, _, fl⟩ := pair_cells F6.out
  obtain ⟨r0, r1, r2, r3, rl⟩ := quad_cells H6.out
  go_wp2_with fail
  refine (isOne_any _ _ _ HP6.out).mono ?_; rintro e w7 ⟨rfl, hk⟩
  have K7 := Lib.hid (K6.out.trans hk)
  have G7 := Lib.hid (hk.heap G6.out (fun h => h)); have H7 := Lib.hid (hk.heap H6.out (fun h => h)); have HV7 := Lib.hid (HVS.out.keeps0 hk)
  clear hk g0 g1 gl f0 f1 fl r0 r1 r2 r3 rl
  obtain ⟨g0, g1, _, _, gl⟩ := pair_cells G7.out
  obtain ⟨r0, r1, r2, r3, rl⟩ := quad_cells H7.out
  have KC := (Keeps.refl (fun _ => False) w7).alloc (.cells #[.int .i64 0, .int .i64 3] 3)
  have HV8 := Lib.hid (HV7.out.keeps0 KC)
  have HN8 := Lib.hid (Ints.two (heap_alloc_new w7 (.cells #[.int .i64 0, .int .i64 3] 3)))
  have K8 := Lib.hid (K7.out.trans KC)
  clear KC
  go_wp2_with fail
  refine (ints_any _ _ _ [0, 3] [0, 3] HV8.out HN8.out).mono ?_; rintro e w9 ⟨rfl, hk⟩
  have K9 := Lib.hid (K8.out.trans hk)
  clear hk
  go_wp2_with fail
  go_ret
  exact ⟨rfl, K9.out⟩

end Go.Proofs.YtkjmgafnaddhkaaGreat

namespace Go.Proofs.YtkjmgafnaddhkaaGreat

/-! ### levels -/
def lev0 (n : Int) (s : List Int) : List Int := zeroV (List.replicate n.toNat (-1)) s
def levAdd (k : Int) (v ps : List Int) : List Int := ps.foldl (fun v p => if getV v p < 0 then v.set p.toNat k else v) v
def levBad (k : Int) (v ps : List Int) : Bool := ps.any fun p => decide (getV v p < 0 ∨ k ≤ getV v p)
def levOp (k : Int) (o : Opr) (v : List Int) : List Int := if levBad k v o.pre = true then v else levAdd k v o.add
def levR (k : Int) (ops : List Opr) (v : List Int) : List Int := ops.foldl (fun v o => levOp k o v) v
def levTo (ops : List Opr) (v : List Int) : Nat → List Int
  | 0 => v
  | k + 1 => levR ((k + 1 : Nat) : Int) ops (levTo ops v k)
def levelsV (t : Tsk) (s : List Int) : List Int := levTo t.ops (lev0 t.n s) t.n.toNat
theorem levAdd_snoc (k : Int) (v ps : List Int) (p : Int) : levAdd k v (ps ++ [p]) = if getV (levAdd k v ps) p < 0 then (levAdd k v ps).set p.toNat k else levAdd k v ps := by unfold levAdd; rw [List.foldl_append]; rfl
theorem levR_snoc (k : Int) (ops : List Opr) (o : Opr) (v : List Int) : levR k (ops ++ [o]) v = levOp k o (levR k ops v) := by unfold levR; rw [List.foldl_append]; rfl

/-- Levels are numbers from -1 to n. -/
def LevI (n : Nat) (m : Nat) (v : List Int) : Prop := v.length = n ∧ ∀ y ∈ v, -1 ≤ y ∧ y ≤ m
theorem LevI.get {n m : Nat} {v : List Int} (h : LevI n m v) {p : Int} (hp : p.toNat < n) : -1 ≤ getV v p ∧ getV v p ≤ m := by
  unfold getV
  rw [List.getD_eq_getElem?_getD, List.getElem?_eq_getElem (by have := h.1; omega)]
  exact h.2 _ (List.getElem_mem _)
theorem LevI.set {n m : Nat} {v : List Int} (h : LevI n m v) (i : Nat) {x : Int} (hx : -1 ≤ x ∧ x ≤ m) : LevI n m (v.set i x) := ⟨by rw [List.length_set]; exact h.1, fun y hy => by
  rcases List.mem_or_eq_of_mem_set hy with h2 | h2
  · exact h.2 y h2
  · rw [h2]; exact hx⟩
theorem zeroV_lev {n m : Nat} : ∀ (ps v : List Int), LevI n m v → LevI n m (zeroV v ps)
  | [], v, h => h
  | p :: r, v, h => zeroV_lev r (v.set p.toNat 0) (h.set _ (by omega))
theorem lev0_ok (n : Int) (s : List Int) (m : Nat) : LevI n.toNat m (lev0 n s) := zeroV_lev s _ ⟨by simp, fun y hy => by rw [(List.mem_replicate.1 hy).2]; omega⟩
theorem levAdd_ok {n m : Nat} {k : Int} (hk : -1 ≤ k ∧ k ≤ m) : ∀ (ps v : List Int), LevI n m v → LevI n m (levAdd k v ps)
  | [], v, h => h
  | p :: r, v, h => by
    unfold levAdd
    rw [List.foldl_cons]
    refine levAdd_ok hk r _ ?_
    split
    · exact h.set _ hk
    · exact h
theorem levOp_ok {n m : Nat} {k : Int} (hk : -1 ≤ k ∧ k ≤ m) (o : Opr) {v : List Int} (h : LevI n m v) : LevI n m (levOp k o v) := by
  unfold levOp
  split
  · exact h
  · exact levAdd_ok hk _ _ h
theorem levR_ok {n m : Nat} {k : Int} (hk : -1 ≤ k ∧ k ≤ m) : ∀ (ops : List Opr) (v : List Int), LevI n m v → LevI n m (levR k ops v)
  | [], v, h => h
  | o :: r, v, h => by
    unfold levR
    rw [List.foldl_cons]
    exact levR_ok hk r _ (levOp_ok hk o h)
theorem levTo_ok {n m : Nat} (ops : List Opr) {v : List Int} (h : LevI n m v) : ∀ k, k ≤ m → LevI n m (levTo ops v k)
  | 0, _ => h
  | k + 1, hk => levR_ok (by omega) ops _ (levTo_ok ops h k (by omega))
theorem levelsV_ok (t : Tsk) (s : List Int) : LevI t.n.toNat t.n.toNat (levelsV t s) := levTo_ok t.ops (lev0_ok t.n s t.n.toNat) _ (Nat.le_refl _)

/-! ### supporters -/
def supPre (n : Int) (lv ps : List Int) : Int × Int := ps.foldl (fun a p => (a.1 + getV lv p, if getV lv p < 0 then n else max a.2 (getV lv p))) (0, -1)
def supAdd (i sum top : Int) (lv : List Int) (st : List Int × List Int) (ps : List Int) : List Int × List Int :=
  ps.foldl (fun st p => if top < getV lv p ∧ 0 < getV lv p ∧ (getV st.1 p < 0 ∨ sum < getV st.2 p) then (st.1.set p.toNat i, st.2.set p.toNat sum) else st) st
def supTo (n : Int) (lv : List Int) (ops : List Opr) : Nat → List Int × List Int
  | 0 => (List.replicate n.toNat (-1), List.replicate n.toNat 0)
  | k + 1 => match ops[k]? with
    | some o => supAdd (k : Int) (supPre n lv o.pre).1 (supPre n lv o.pre).2 lv (supTo n lv ops k) o.add
    | none => supTo n lv ops k
def supV (t : Tsk) (s : List Int) : List Int := (supTo t.n (levelsV t s) t.ops t.ops.length).1
theorem supPre_snoc (n : Int) (lv ps : List Int) (p : Int) : supPre n lv (ps ++ [p]) = ((supPre n lv ps).1 + getV lv p, if getV lv p < 0 then n else max (supPre n lv ps).2 (getV lv p)) := by unfold supPre; rw [List.foldl_append]; rfl
theorem supAdd_snoc (i sum top : Int) (lv : List Int) (st : List Int × List Int) (ps : List Int) (p : Int) : supAdd i sum top lv st (ps ++ [p]) =
    if top < getV lv p ∧ 0 < getV lv p ∧ (getV (supAdd i sum top lv st ps).1 p < 0 ∨ sum < getV (supAdd i sum top lv st ps).2 p) then ((supAdd i sum top lv st ps).1.set p.toNat i, (supAdd i sum top lv st ps).2.set p.toNat sum) else supAdd i sum top lv st ps := by
  unfold supAdd; rw [List.foldl_append]; rfl
theorem supPre_low {n : Int} {m : Nat} {lv : List Int} (h : LevI n.toNat m lv) (h0 : 0 ≤ n) (hm : (m : Int) ≤ n) : ∀ (ps : List Int), (∀ p ∈ ps, 0 ≤ p ∧ p < n) → ∀ a : Int × Int, -1 ≤ a.2 ∧ a.2 ≤ n →
    a.1 - ps.length ≤ (ps.foldl (fun a p => (a.1 + getV lv p, if getV lv p < 0 then n else max a.2 (getV lv p))) a).1 ∧ (ps.foldl (fun a p => (a.1 + getV lv p, if getV lv p < 0 then n else max a.2 (getV lv p))) a).1 ≤ a.1 + n * ps.length ∧
    -1 ≤ (ps.foldl (fun a p => (a.1 + getV lv p, if getV lv p < 0 then n else max a.2 (getV lv p))) a).2 ∧ (ps.foldl (fun a p => (a.1 + getV lv p, if getV lv p < 0 then n else max a.2 (getV lv p))) a).2 ≤ n
  | [], _, a, ha => by simp; omega
  | p :: r, hp, a, ha => by
    have h1 := h.get (p := p) (by have := hp p (by simp); omega)
    obtain ⟨g1, g2, g3, g4⟩ := supPre_low h h0 hm r (fun q hq => hp q (by simp [hq])) (a.1 + getV lv p, if getV lv p < 0 then n else max a.2 (getV lv p)) (by simp only; split <;> omega)
    rw [List.foldl_cons]
    simp only at g1 g2
    refine ⟨by rw [List.length_cons]; omega, ?_, g3, g4⟩
    rw [List.length_cons, show n * ((r.length + 1 : Nat) : Int) = n * (r.length : Int) + n by rw [Int.natCast_succ, Int.mul_add, Int.mul_one]]
    omega
/-- Supporters are -1 or numbers of operators. -/
def SupI (n m : Nat) (c : Int) (st : List Int × List Int) : Prop := st.1.length = n ∧ st.2.length = n ∧ (∀ y ∈ st.1, -1 ≤ y ∧ y < (m : Int)) ∧ ∀ y ∈ st.2, -c ≤ y ∧ y ≤ c
theorem supAdd_ok {n m : Nat} {c i sum top : Int} (hi : -1 ≤ i ∧ i < (m : Int)) (hs : -c ≤ sum ∧ sum ≤ c) (lv : List Int) : ∀ (ps : List Int) (st : List Int × List Int), SupI n m c st → SupI n m c (supAdd i sum top lv st ps)
  | [], st, h => h
  | p :: r, st, h => by
    unfold supAdd
    rw [List.foldl_cons]
    refine supAdd_ok hi hs lv r _ ?_
    split
    · refine ⟨by rw [List.length_set]; exact h.1, by rw [List.length_set]; exact h.2.1, fun y hy => ?_, fun y hy => ?_⟩
      · rcases List.mem_or_eq_of_mem_set hy with h2 | h2
        · exact h.2.2.1 y h2
        · rw [h2]; exact hi
      · rcases List.mem_or_eq_of_mem_set hy with h2 | h2
        · exact h.2.2.2 y h2
        · rw [h2]; exact hs
    · exact h
theorem supTo_ok {t : Tsk} (ok : t.Ok) (s : List Int) : ∀ k, k ≤ t.ops.length → SupI t.n.toNat k 1000 (supTo t.n (levelsV t s) t.ops k)
  | 0, _ => ⟨by simp [supTo], by simp [supTo], fun y hy => by rw [(List.mem_replicate.1 hy).2]; decide, fun y hy => by rw [(List.mem_replicate.1 hy).2]; decide⟩
  | k + 1, hk => by
    have ih := supTo_ok ok s k (by omega)
    obtain ⟨o, ho⟩ : ∃ o, t.ops[k]? = some o := ⟨_, List.getElem?_eq_getElem (by omega)⟩
    have oko := ok.ops o (List.mem_of_getElem? ho)
    have n0 := ok.n0; have n1 := ok.n1
    have hl : (o.pre.length : Int) ≤ 24 := by
      rcases setFrom_length oko.pre with h | h
      · rw [h]; decide
      · omega
    have hp := supPre_low (levelsV_ok t s) n0 (by omega) o.pre (isSet_iff.1 oko.pre).1 (0, -1) (by simp only; omega)
    have hm : t.n * (o.pre.length : Int) ≤ 24 * 24 := Int.mul_le_mul n1 hl (by omega) (by decide)
    rw [supTo, ho]
    simp only
    have e : SupI t.n.toNat (k + 1) 1000 (supTo t.n (levelsV t s) t.ops k) := ⟨ih.1, ih.2.1, fun y hy => by have := ih.2.2.1 y hy; omega, ih.2.2.2⟩
    refine supAdd_ok (by omega) ?_ _ _ _ e
    unfold supPre
    have h1 := hp.1; have h2 := hp.2.1
    simp only at h1 h2
    omega
theorem supV_ok {t : Tsk} (ok : t.Ok) (s : List Int) : (supV t s).length = t.n.toNat ∧ ∀ y ∈ supV t s, -1 ≤ y ∧ y < (t.ops.length : Int) := by
  have h := supTo_ok ok s t.ops.length (Nat.le_refl _)
  exact ⟨h.1, h.2.2.1⟩

/-! ### the plan -/
def opPre (ops : List Opr) (i : Int) : List Int := ((ops[i.toNat]?).map Opr.pre).getD []
def ach (sup : List Int) (ops : List Opr) : Nat → Int → List Bool × List Int → List Bool × List Int
  | 0, _, st => st
  | k + 1, p, st => if getV sup p < 0 ∨ getB st.1 (getV sup p) = true then st else
    (((opPre ops (getV sup p)).foldl (fun st q => ach sup ops k q st) (st.1.set (getV sup p).toNat true, st.2)).1,
     ((opPre ops (getV sup p)).foldl (fun st q => ach sup ops k q st) (st.1.set (getV sup p).toNat true, st.2)).2 ++ [getV sup p])
def achs (sup : List Int) (ops : List Opr) (k : Nat) (st : List Bool × List Int) (ps : List Int) : List Bool × List Int := ps.foldl (fun st q => ach sup ops k q st) st
def relP (t : Tsk) (s : List Int) : List Int := (achs (supV t s) t.ops (t.ops.length + 1) (List.replicate t.ops.length false, []) t.goal).2
/-- Is there a plan of the task without deletions? -/
def relOk (t : Tsk) (s : List Int) : Bool := !t.goal.any fun p => decide (getV (levelsV t s) p < 0)
theorem achs_snoc (sup : List Int) (ops : List Opr) (k : Nat) (st : List Bool × List Int) (ps : List Int) (p : Int) : achs sup ops k st (ps ++ [p]) = ach sup ops k p (achs sup ops k st ps) := by unfold achs; rw [List.foldl_append]; rfl
theorem ach_skip {sup : List Int} {ops : List Opr} {k : Nat} {p : Int} {st : List Bool × List Int} (h : getV sup p < 0 ∨ getB st.1 (getV sup p) = true) : ach sup ops (k + 1) p st = st := by rw [ach, if_pos h]
theorem ach_go {sup : List Int} {ops : List Opr} {k : Nat} {p : Int} {st : List Bool × List Int} (h : ¬ (getV sup p < 0 ∨ getB st.1 (getV sup p) = true)) :
    ach sup ops (k + 1) p st = ((achs sup ops k (st.1.set (getV sup p).toNat true, st.2) (opPre ops (getV sup p))).1, (achs sup ops k (st.1.set (getV sup p).toNat true, st.2) (opPre ops (getV sup p))).2 ++ [getV sup p]) := by rw [ach, if_neg h]; rfl

/-- Every step of the plan is an operator, and none comes twice. -/
structure AchI (m : Nat) (st st' : List Bool × List Int) : Prop where
  len : st'.1.length = m
  more : offs st'.1 + st'.2.length ≤ offs st.1 + st.2.length
  fewer : offs st'.1 ≤ offs st.1
  ops : ∀ i ∈ st'.2, 0 ≤ i ∧ i < (m : Int)
/-- What the supporters and the operators must be. -/
structure AchNeed (sup : List Int) (ops : List Opr) : Prop where
  inn : ∀ p : Int, 0 ≤ p → p.toNat < sup.length → -1 ≤ getV sup p ∧ getV sup p < (ops.length : Int)
  pre : ∀ o ∈ ops, ∀ p ∈ o.pre, 0 ≤ p ∧ p.toNat < sup.length
theorem AchNeed.opPre {sup : List Int} {ops : List Opr} (h : AchNeed sup ops) (i : Int) : ∀ p ∈ opPre ops i, 0 ≤ p ∧ p.toNat < sup.length := fun p hp => by
  unfold Go.Proofs.YtkjmgafnaddhkaaGreat.opPre at hp
  cases ho : ops[i.toNat]? with
  | none => rw [ho] at hp; cases hp
  | some o => rw [ho] at hp; exact h.pre o (List.mem_of_getElem? ho) p hp
theorem achs_of {sup : List Int} {ops : List Opr} {k : Nat} (h : ∀ (p : Int) (st : List Bool × List Int), 0 ≤ p → p.toNat < sup.length → st.1.length = ops.length → (∀ i ∈ st.2, 0 ≤ i ∧ i < (ops.length : Int)) → AchI ops.length st (ach sup ops k p st)) :
    ∀ (ps : List Int) (st : List Bool × List Int), (∀ p ∈ ps, 0 ≤ p ∧ p.toNat < sup.length) → st.1.length = ops.length → (∀ i ∈ st.2, 0 ≤ i ∧ i < (ops.length : Int)) → AchI ops.length st (achs sup ops k st ps)
  | [], st, _, hl, ho => ⟨hl, Nat.le_refl _, Nat.le_refl _, ho⟩
  | q :: r, st, hp, hl, ho => by
    have a := h q st (hp q (by simp)).1 (hp q (by simp)).2 hl ho
    have b := achs_of h r (ach sup ops k q st) (fun p hpp => hp p (by simp [hpp])) a.len a.ops
    exact ⟨b.len, Nat.le_trans b.more a.more, Nat.le_trans b.fewer a.fewer, b.ops⟩
theorem ach_ok {sup : List Int} {ops : List Opr} (hn : AchNeed sup ops) : ∀ (k : Nat) (p : Int) (st : List Bool × List Int), 0 ≤ p → p.toNat < sup.length → st.1.length = ops.length → (∀ i ∈ st.2, 0 ≤ i ∧ i < (ops.length : Int)) → AchI ops.length st (ach sup ops k p st)
  | 0, p, st, _, _, hl, ho => ⟨hl, Nat.le_refl _, Nat.le_refl _, ho⟩
  | k + 1, p, st, hp0, hp, hl, ho => by
    by_cases hc : getV sup p < 0 ∨ getB st.1 (getV sup p) = true
    · rw [ach_skip hc]; exact ⟨hl, Nat.le_refl _, Nat.le_refl _, ho⟩
    · have h1 := hn.inn p hp0 hp
      have hf : getB st.1 (getV sup p) = false := by
        cases h : getB st.1 (getV sup p) with
        | false => rfl
        | true => exact absurd (.inr h) hc
      have hneg : ¬ getV sup p < 0 := fun e => hc (.inl e)
      have hlt : (getV sup p).toNat < st.1.length := by omega
      have hoff := offs_set st.1 _ (getB_false hlt hf)
      have b := achs_of (ach_ok hn k) (opPre ops (getV sup p)) (st.1.set (getV sup p).toNat true, st.2) (hn.opPre _) (by simp only; rw [List.length_set, hl]) ho
      rw [ach_go hc]
      refine ⟨b.len, ?_, ?_, fun i hi => ?_⟩
      · have := b.more; simp only [List.length_append, List.length_singleton] at this ⊢; omega
      · have := b.fewer; simp only at this ⊢; omega
      · rcases List.mem_append.1 hi with h | h
        · exact b.ops i h
        · have : i = getV sup p := by simpa using h
          omega
theorem achs_ok {sup : List Int} {ops : List Opr} (hn : AchNeed sup ops) (k : Nat) : ∀ (ps : List Int) (st : List Bool × List Int), (∀ p ∈ ps, 0 ≤ p ∧ p.toNat < sup.length) → st.1.length = ops.length → (∀ i ∈ st.2, 0 ≤ i ∧ i < (ops.length : Int)) → AchI ops.length st (achs sup ops k st ps) :=
  achs_of (ach_ok hn k)
theorem sup_need {t : Tsk} (ok : t.Ok) (s : List Int) : AchNeed (supV t s) t.ops := by
  obtain ⟨h1, h2⟩ := supV_ok ok s
  have n0 := ok.n0
  refine ⟨fun p _ hp => ?_, fun o ho p hp => by have := (isSet_iff.1 (ok.ops o ho).pre).1 p hp; omega⟩
  unfold getV
  rw [List.getD_eq_getElem?_getD, List.getElem?_eq_getElem hp]
  exact h2 _ (List.getElem_mem _)
theorem offs_falses (n : Nat) : offs (List.replicate n false) = n := by unfold offs; simp
theorem relP_ok {t : Tsk} (ok : t.Ok) (s : List Int) : (relP t s).length ≤ 40 ∧ ∀ i ∈ relP t s, 0 ≤ i ∧ i < (t.ops.length : Int) := by
  have n0 := ok.n0
  have h := achs_ok (sup_need ok s) (t.ops.length + 1) t.goal (List.replicate t.ops.length false, []) (fun p hp => by have := (isSet_iff.1 ok.goal).1 p hp; have := (supV_ok ok s).1; omega) (by simp) (fun i hi => by cases hi)
  have h1 := h.more
  simp only [offs_falses, List.length_nil] at h1
  have := ok.few
  exact ⟨by unfold relP; omega, h.ops⟩

end Go.Proofs.YtkjmgafnaddhkaaGreat

namespace Go.Proofs.YtkjmgafnaddhkaaGreat
open Go.RowKit

/-- A function value says of every element of a list whether pr holds. -/
def HasP1 (G : Nat) (x0 : Nat) (pr : Int → Bool) (l : List Int) (w : World) : Prop := ∀ (W : World) (x : Int), Keeps (fun _ => False) w W → x ∈ l → Calls Tryz.prog G #[.int .i64 x, .pointer (some ⟨x0, 0, none⟩)] W fun e W' => e = .returned (.bool (pr x)) ∧ Keeps (fun _ => False) W W'
set_option maxHeartbeats 1000000 in
theorem indexF1_any (G : Nat) (x0 : Nat) (pr : Int → Bool) (hen : ∀ args w, (callFunc G args).run Tryz.prog w = .ok (.enter G args) w) (w : World) (va : Value) (a : List Int) (ha : Ints w va a) (hf : HasP1 G x0 pr a w) :
    Calls Tryz.prog 127 #[va, .func (.func G) #[] #[.pointer (some ⟨x0, 0, none⟩)]] w fun e w' => ∃ k : Int, e = .returned (.int .i64 k) ∧ (decide (0 ≤ k) = a.any pr) ∧ Keeps (fun _ => False) w w' := by
  obtain ⟨ao, ca, hv, ma⟩ := ha.form
  have CA := Lib.hid (ha.cell hv)
  have HF := Lib.hid hf
  subst hv
  clear ha hf
  go_enter Tryz.func127, Tryz.ntmps127
  go_wp2_with fail
  go_loopw [8] (fun i wr => ∃ k : Nat, k ≤ a.length ∧ i = .int .i64 (k : Int) ∧ (a.take k).any pr = false ∧ Keeps (fun _ => False) w wr) (fun i _ => a.length - (intOf i).toNat)
  case atStart => exact ⟨0, Nat.zero_le _, rfl, rfl, Keeps.refl _ _⟩
  case round =>
    obtain ⟨k, hk, rfl, ht, hkw⟩ := hrel
    have HT := Lib.hid ht; clear ht
    have KW := Lib.hid hkw; clear hkw
    by_cases hlt : k < a.length
    · obtain ⟨ba, oa, rfl, ha'⟩ := CA.out (by omega)
      obtain ⟨x, hx⟩ : ∃ x, a[k]? = some x := ⟨_, List.getElem?_eq_getElem hlt⟩
      have ha1 := KW.out.cell (ha' k _ hx) (fun h => h)
      have HXM := Lib.hid (List.mem_of_getElem? hx)
      have HTK := Lib.hid (show (a.take (k + 1)).any pr = pr x by rw [take_getS hx, List.any_append, HT.out]; simp)
      clear ha' hx
      go_wp2_with fail
      refine (HF.out _ x KW.out HXM.out).mono ?_; rintro e w1 ⟨rfl, hk1⟩
      have KW1 := Lib.hid (KW.out.trans hk1)
      clear hk1
      cases hp : pr x with
      | true =>
        have hf : Hid (a.any pr = true) := by
          unfold Hid
          exact List.any_eq_true.2 ⟨x, HXM.out, hp⟩
        clear hp
        go_wp2_with fail
        go_ret
        exact ⟨_, rfl, by rw [hf.out]; simp, KW1.out⟩
      | false =>
        rw [hp] at HTK
        clear hp
        go_wp2_with fail
        go_roundw
        case rel => exact ⟨k + 1, by omega, by go_num, HTK.out, KW1.out⟩
        case measure => simp [intOf]; omega
    · have hf : Hid (a.any pr = false) := by
        unfold Hid
        have := HT.out
        rwa [List.take_of_length_le (by omega)] at this
      go_wp2_with fail
      go_ret
      exact ⟨_, rfl, by rw [hf.out]; rfl, KW.out⟩
theorem containsF1_any (G : Nat) (x0 : Nat) (pr : Int → Bool) (hen : ∀ args w, (callFunc G args).run Tryz.prog w = .ok (.enter G args) w) (w : World) (va : Value) (a : List Int) (ha : Ints w va a) (hf : HasP1 G x0 pr a w) :
    Calls Tryz.prog 106 #[va, .func (.func G) #[] #[.pointer (some ⟨x0, 0, none⟩)]] w fun e w' => e = .returned (.bool (a.any pr)) ∧ Keeps (fun _ => False) w w' := by
  have H := Lib.hid (indexF1_any G x0 pr hen w va a ha hf)
  clear ha hf
  generalize a.any pr = r at H ⊢
  go_enter Tryz.func106, Tryz.ntmps106
  go_wp2_with fail
  refine H.out.mono ?_; rintro e w1 ⟨k, rfl, hk, hkw⟩
  have KW := Lib.hid hkw
  have HK := Lib.hid hk
  clear hkw hk
  go_wp2_with fail
  go_ret
  exact ⟨congrArg (fun b => Ending.returned (Value.bool b)) HK.out, KW.out⟩

/-- A function value says of every element of a list whether pr holds. -/
def HasP2 (G : Nat) (x0 x1 : Nat) (pr : Int → Bool) (l : List Int) (w : World) : Prop := ∀ (W : World) (x : Int), Keeps (fun _ => False) w W → x ∈ l → Calls Tryz.prog G #[.int .i64 x, .pointer (some ⟨x0, 0, none⟩), .pointer (some ⟨x1, 0, none⟩)] W fun e W' => e = .returned (.bool (pr x)) ∧ Keeps (fun _ => False) W W'
set_option maxHeartbeats 1000000 in
theorem indexF2_any (G : Nat) (x0 x1 : Nat) (pr : Int → Bool) (hen : ∀ args w, (callFunc G args).run Tryz.prog w = .ok (.enter G args) w) (w : World) (va : Value) (a : List Int) (ha : Ints w va a) (hf : HasP2 G x0 x1 pr a w) :
    Calls Tryz.prog 127 #[va, .func (.func G) #[] #[.pointer (some ⟨x0, 0, none⟩), .pointer (some ⟨x1, 0, none⟩)]] w fun e w' => ∃ k : Int, e = .returned (.int .i64 k) ∧ (decide (0 ≤ k) = a.any pr) ∧ Keeps (fun _ => False) w w' := by
  obtain ⟨ao, ca, hv, ma⟩ := ha.form
  have CA := Lib.hid (ha.cell hv)
  have HF := Lib.hid hf
  subst hv
  clear ha hf
  go_enter Tryz.func127, Tryz.ntmps127
  go_wp2_with fail
  go_loopw [8] (fun i wr => ∃ k : Nat, k ≤ a.length ∧ i = .int .i64 (k : Int) ∧ (a.take k).any pr = false ∧ Keeps (fun _ => False) w wr) (fun i _ => a.length - (intOf i).toNat)
  case atStart => exact ⟨0, Nat.zero_le _, rfl, rfl, Keeps.refl _ _⟩
  case round =>
    obtain ⟨k, hk, rfl, ht, hkw⟩ := hrel
    have HT := Lib.hid ht; clear ht
    have KW := Lib.hid hkw; clear hkw
    by_cases hlt : k < a.length
    · obtain ⟨ba, oa, rfl, ha'⟩ := CA.out (by omega)
      obtain ⟨x, hx⟩ : ∃ x, a[k]? = some x := ⟨_, List.getElem?_eq_getElem hlt⟩
      have ha1 := KW.out.cell (ha' k _ hx) (fun h => h)
      have HXM := Lib.hid (List.mem_of_getElem? hx)
      have HTK := Lib.hid (show (a.take (k + 1)).any pr = pr x by rw [take_getS hx, List.any_append, HT.out]; simp)
      clear ha' hx
      go_wp2_with fail
      refine (HF.out _ x KW.out HXM.out).mono ?_; rintro e w1 ⟨rfl, hk1⟩
      have KW1 := Lib.hid (KW.out.trans hk1)
      clear hk1
      cases hp : pr x with
      | true =>
        have hf : Hid (a.any pr = true) := by
          unfold Hid
          exact List.any_eq_true.2 ⟨x, HXM.out, hp⟩
        clear hp
        go_wp2_with fail
        go_ret
        exact ⟨_, rfl, by rw [hf.out]; simp, KW1.out⟩
      | false =>
        rw [hp] at HTK
        clear hp
        go_wp2_with fail
        go_roundw
        case rel => exact ⟨k + 1, by omega, by go_num, HTK.out, KW1.out⟩
        case measure => simp [intOf]; omega
    · have hf : Hid (a.any pr = false) := by
        unfold Hid
        have := HT.out
        rwa [List.take_of_length_le (by omega)] at this
      go_wp2_with fail
      go_ret
      exact ⟨_, rfl, by rw [hf.out]; rfl, KW.out⟩
theorem containsF2_any (G : Nat) (x0 x1 : Nat) (pr : Int → Bool) (hen : ∀ args w, (callFunc G args).run Tryz.prog w = .ok (.enter G args) w) (w : World) (va : Value) (a : List Int) (ha : Ints w va a) (hf : HasP2 G x0 x1 pr a w) :
    Calls Tryz.prog 106 #[va, .func (.func G) #[] #[.pointer (some ⟨x0, 0, none⟩), .pointer (some ⟨x1, 0, none⟩)]] w fun e w' => e = .returned (.bool (a.any pr)) ∧ Keeps (fun _ => False) w w' := by
  have H := Lib.hid (indexF2_any G x0 x1 pr hen w va a ha hf)
  clear ha hf
  generalize a.any pr = r at H ⊢
  go_enter Tryz.func106, Tryz.ntmps106
  go_wp2_with fail
  refine H.out.mono ?_; rintro e w1 ⟨k, rfl, hk, hkw⟩
  have KW := Lib.hid hkw
  have HK := Lib.hid hk
  clear hkw hk
  go_wp2_with fail
  go_ret
  exact ⟨congrArg (fun b => Ending.returned (Value.bool b)) HK.out, KW.out⟩

end Go.Proofs.YtkjmgafnaddhkaaGreat
