/- The reference: QueuePlay. -/
import Derived.Test.YtlghadoejmnllaaRefI
import Derived.Test.YtlghadoejmnllaaPlayD
import Derived.StillTailTactics
namespace Go.Proofs.Ytlghadoejmnllaa
open Go.RowKit

structure PInv (w : World) (ops : List QOp) (n : Nat) (A : List (Int × Int)) (tk : List Int) (t : Int) (v vI vK vT : Value) (T : List Int) (wr : World) : Prop where
  eq : playFrom (ops.drop n) n A tk = playFrom ops 0 [] []
  t0 : 0 ≤ t
  tn : t ≤ n
  An : A.length ≤ n
  tkn : tk.length ≤ n
  keeps : Keeps (fun _ => False) w wr
  fault : wr.heap[w.heap.size]? = some (.cells #[.int .i64 0, .int .i64 0] 25 (0, 0))
  own : OwnI (w.heap.size + 1 + 1) wr v tk
  rq : RQ wr (w.heap.size + 1) vI vK vT T A t (fun b => v.ownBlock ≠ some b)

theorem PInv.keeps0 {w wr w' : World} {ops : List QOp} {n : Nat} {A : List (Int × Int)} {tk : List Int} {t : Int} {v vI vK vT : Value} {T : List Int} (h : PInv w ops n A tk t v vI vK vT T wr) (hk : Keeps (fun _ => False) wr w') : PInv w ops n A tk t v vI vK vT T w' :=
  { h with
    keeps := h.keeps.trans hk
    fault := hk.heap h.fault (fun h => h)
    own := h.own.keeps hk (fun _ _ h => h)
    rq := h.rq.keeps0 hk }

theorem PInv.cells {w wr : World} {ops : List QOp} {n : Nat} {A : List (Int × Int)} {tk : List Int} {t : Int} {v vI vK vT : Value} {T : List Int} (h : PInv w ops n A tk t v vI vK vT T wr) :
    wr.cell? ⟨w.heap.size + 1, 0, none⟩ = some vI ∧ wr.cell? ⟨w.heap.size + 1, 1, none⟩ = some vK ∧ wr.cell? ⟨w.heap.size + 1, 2, none⟩ = some vT ∧ wr.cell? ⟨w.heap.size + 1, 3, none⟩ = some (.int .i64 t) ∧
    wr.frozen? ⟨w.heap.size + 1, 0, none⟩ = false ∧ wr.frozen? ⟨w.heap.size + 1, 1, none⟩ = false ∧ wr.frozen? ⟨w.heap.size + 1, 2, none⟩ = false ∧ wr.frozen? ⟨w.heap.size + 1, 3, none⟩ = false := by
  have hb := h.rq.blk
  refine ⟨?_, ?_, ?_, ?_, frozen_of_blk hb, frozen_of_blk hb, frozen_of_blk hb, frozen_of_blk hb⟩ <;> rw [cell_of_blk hb] <;> rfl

theorem PInv.fcells {w wr : World} {ops : List QOp} {n : Nat} {A : List (Int × Int)} {tk : List Int} {t : Int} {v vI vK vT : Value} {T : List Int} (h : PInv w ops n A tk t v vI vK vT T wr) :
    wr.cell? ⟨w.heap.size, 0, none⟩ = some (.int .i64 0) ∧ wr.cell? ⟨w.heap.size, 1, none⟩ = some (.int .i64 0) ∧ wr.frozen? ⟨w.heap.size, 0, none⟩ = false ∧ wr.frozen? ⟨w.heap.size, 1, none⟩ = false := by
  have hb := h.fault
  refine ⟨?_, ?_, frozen_of_blk hb, frozen_of_blk hb⟩ <;> rw [cell_of_blk hb] <;> rfl

theorem PInv.next {w wr w' : World} {ops : List QOp} {n : Nat} {A : List (Int × Int)} {tk : List Int} {t t' : Int} {v vI vK vT : Value} {T : List Int} (h : PInv w ops n A tk t v vI vK vT T wr) {o : QOp} (ho : ops[n]? = some o) (hc : (stepR A o.k o.i o.y).1 = 0) (h3 : o.k ≠ 3)
    (h1 : t ≤ t') (h2 : t' ≤ t + 1) (hk : Keeps (fun b => b = w.heap.size + 1) wr w') {N : Nat} (hN : wr.heap.size ≤ N) {uI uK uT : Value} {T' : List Int} (hr : RQ w' (w.heap.size + 1) uI uK uT T' (stepR A o.k o.i o.y).2.2 t' (fun b => N ≤ b)) :
    PInv w ops (n + 1) (stepR A o.k o.i o.y).2.2 tk t' v uI uK uT T' w' := by
  have e := h.eq
  rw [drop_get ho, playFrom, if_neg (by omega), if_neg h3] at e
  have := h.t0; have := h.tn; have := h.An; have := h.tkn
  have hl := length_stepR A o.k o.i o.y
  refine ⟨e, by omega, by omega, by omega, by omega, h.keeps.trans' hk (fun b hb => .inr (by omega)), hk.heap h.fault (by omega), h.own.keeps hk (fun b hb e => by have := (h.own.lt b hb).1; omega), hr.mono (fun b _ hb e => ?_)⟩
  have := (h.own.lt b e).2; omega

theorem PInv.taken {w wr w' : World} {ops : List QOp} {n : Nat} {A : List (Int × Int)} {tk : List Int} {t : Int} {v u vI vK vT : Value} {T : List Int} (h : PInv w ops n A tk t v vI vK vT T wr) {o : QOp} (ho : ops[n]? = some o) (hc : (stepR A o.k o.i o.y).1 = 0) (h3 : o.k = 3)
    (hk : Keeps (fun _ => False) w w') (hf : w'.heap[w.heap.size]? = some (.cells #[.int .i64 0, .int .i64 0] 25 (0, 0))) (hown : OwnI (w.heap.size + 1 + 1) w' u (tk ++ [(stepR A o.k o.i o.y).2.1])) {uI uK uT : Value} {T' : List Int}
    (hr : RQ w' (w.heap.size + 1) uI uK uT T' (stepR A o.k o.i o.y).2.2 t (fun b => u.ownBlock ≠ some b)) :
    PInv w ops (n + 1) (stepR A o.k o.i o.y).2.2 (tk ++ [(stepR A o.k o.i o.y).2.1]) t u uI uK uT T' w' := by
  have e := h.eq
  rw [drop_get ho, playFrom, if_neg (by omega), if_pos h3] at e
  have := h.t0; have := h.tn; have := h.An; have := h.tkn
  have hl := length_stepR A o.k o.i o.y
  exact ⟨e, by omega, by omega, by omega, by simp; omega, hk, hf, hown, hr⟩

theorem PInv.app {w w3 Wa w4 : World} {ops : List QOp} {n : Nat} {A : List (Int × Int)} {tk : List Int} {t : Int} {v vI vK vT : Value} {T : List Int} (h : PInv w ops n A tk t v vI vK vT T w3) (hWa : Keeps (fun _ => False) w3 Wa) (hgrow : Wa.grownBy w4 v.ownBlock) :
    Keeps (fun _ => False) w w4 ∧ w4.heap[w.heap.size]? = some (.cells #[.int .i64 0, .int .i64 0] 25 (0, 0)) ∧ RQ w4 (w.heap.size + 1) vI vK vT T A t (fun _ => True) := by
  have ha := h.keeps0 hWa
  have k3 : Keeps (fun k => v.ownBlock = some k) Wa w4 := (Keeps.refl _ Wa).grown hgrow (fun k hk => .inl hk)
  refine ⟨ha.keeps.trans' k3 (fun b hb => .inr ?_), k3.heap ha.fault (fun hb => ?_), (ha.rq.keeps k3 (fun hb => ?_) (fun b hb e => hb e)).mono (fun _ _ _ => trivial)⟩
  · have := (ha.own.lt b hb).1; omega
  · have := (ha.own.lt _ hb).1; omega
  · have := (ha.own.lt _ hb).1; omega

theorem PInv.took {w w3 w4 w5 : World} {ops : List QOp} {n : Nat} {A : List (Int × Int)} {tk : List Int} {t : Int} {v vI vK vT : Value} {T : List Int} (h : PInv w ops n A tk t v vI vK vT T w3) {o : QOp} (ho : ops[n]? = some o) (hc : (stepR A o.k o.i o.y).1 = 0) (h3 : o.k = 3) {px : Int × Int} (hp2 : (stepR A o.k o.i o.y).2 = (px.1, A.filter (fun q => q.1 != px.1))) {bi : Nat} (hb : A[bi]? = some px)
    {g cap : Nat} (hown : OwnI (w.heap.size + 1 + 1) w4 (.slice (some ⟨g, 0, none⟩) (tk.length + 1) cap) (tk ++ [px.1])) (hm : Keeps (fun _ => False) w w4 ∧ w4.heap[w.heap.size]? = some (.cells #[.int .i64 0, .int .i64 0] 25 (0, 0)) ∧ RQ w4 (w.heap.size + 1) vI vK vT T A t (fun _ => True))
    {O : Nat} {vs : Nat → Value} (hO : Out3 w4 O t vs (fun f => eraseI (LsOf (A.map Prod.fst) (A.map Prod.snd) T f) (bi : Int)) w5) :
    PInv w ops (n + 1) (stepR A o.k o.i o.y).2.2 (tk ++ [px.1]) t (.slice (some ⟨g, 0, none⟩) (tk.length + 1) cap) (vs 0) (vs 1) (vs 2) (eraseI T (bi : Int)) ((((w5.setCell ⟨w.heap.size + 1, 0, none⟩ (vs 0)).setCell ⟨w.heap.size + 1, 1, none⟩ (vs 1)).setCell ⟨w.heap.size + 1, 2, none⟩ (vs 2)).setCell ⟨w.heap.size + 1, 3, none⟩ (.int .i64 t)) := by
  obtain ⟨m1, m2, m3⟩ := hm
  have hd := m3.drop (x := px.1) (k := px.2) hb hO
  have hk := keeps_four (w := w5) (w.heap.size + 1) (vs 0) (vs 1) (vs 2) (.int .i64 t)
  have e1 : (stepR A o.k o.i o.y).2.1 = px.1 := by rw [hp2]
  have e2 : (stepR A o.k o.i o.y).2.2 = A.filter (fun q => q.1 != px.1) := by rw [hp2]
  have hg := (hown.lt g rfl).2
  rw [← e2] at hd
  have := h.taken (u := .slice (some ⟨g, 0, none⟩) (tk.length + 1) cap) ho hc h3 ((m1.trans hO.keeps).trans' hk (fun b hb => .inr (by omega))) (hk.heap (hO.keeps.heap m2 (fun h => h)) (by omega)) (by
    rw [e1]
    exact (hown.keeps hO.keeps (fun _ _ h => h)).keeps hk (fun b hb e => by have := (hown.lt b hb).1; omega)) (hd.mono (fun b _ hb => by simp [Value.ownBlock]; omega))
  rw [e1] at this
  exact this

/-- What the step of a known kind does to the queue. -/
theorem stepR_ok {A : List (Int × Int)} {k i y : Int} (h : (stepR A k i y).1 = 0) : formC k i y = 0 ∧ ((k = 1 ∨ k = 2) → (stepR A k i y).2.2 = setA A i y) ∧ (k = 3 → ∃ p, firstMin A = some p ∧ (stepR A k i y).2 = (p.1, A.filter (fun q => q.1 != p.1))) ∧ (k = 4 → ∃ k0, lookA A i = some k0 ∧ (stepR A k i y).2.2 = A.filter (fun q => q.1 != i)) := by
  have hf : formC k i y = 0 := by
    by_cases hf : formC k i y = 0
    · exact hf
    · unfold stepR at h; rw [if_pos hf] at h; exact absurd h hf
  refine ⟨hf, fun hk => ?_, fun hk => ?_, fun hk => ?_⟩
  · rcases hk with rfl | rfl
    · unfold stepR at h ⊢
      rw [if_neg (by omega), if_pos rfl] at h ⊢
      cases hl : lookA A i with
      | none => rfl
      | some _ => rw [hl] at h; simp at h
    · unfold stepR at h ⊢
      rw [if_neg (by omega), if_neg (by decide), if_pos rfl] at h ⊢
      cases hl : lookA A i with
      | none => rw [hl] at h; simp at h
      | some k0 =>
        rw [hl] at h
        simp only at h ⊢
        split at h
        · simp at h
        · rename_i hky; rw [if_neg hky]
  · subst hk
    unfold stepR at h ⊢
    rw [if_neg (by omega), if_neg (by decide), if_neg (by decide), if_pos rfl] at h ⊢
    cases hl : firstMin A with
    | none => rw [hl] at h; simp at h
    | some p => exact ⟨p, rfl, rfl⟩
  · subst hk
    unfold stepR at h ⊢
    rw [if_neg (by omega), if_neg (by decide), if_neg (by decide), if_neg (by decide)] at h ⊢
    cases hl : lookA A i with
    | none => rw [hl] at h; simp at h
    | some k0 => exact ⟨k0, rfl, rfl⟩

def QPost (w : World) (ops : List QOp) (e : Ending) (w' : World) : Prop :=
  Keeps (fun _ => False) w w' ∧ match playQ ops with
  | .error (c, n) => e = .returned (.tuple #[.slice none 0 0, .slice none 0 0, .agg #[.int .i64 c, .int .i64 n]])
  | .ok (tk, A) => ∃ v u, e = .returned (.tuple #[v, u, .agg #[.int .i64 0, .int .i64 0]]) ∧ OwnI w.heap.size w' v tk ∧ OwnI w.heap.size w' u (drainA A.length A)

theorem PInv.dropped {w wr w5 : World} {ops : List QOp} {n : Nat} {A : List (Int × Int)} {tk : List Int} {t : Int} {v vI vK vT : Value} {T : List Int} (h : PInv w ops n A tk t v vI vK vT T wr) {o : QOp} (ho : ops[n]? = some o) (hc : (stepR A o.k o.i o.y).1 = 0) (h3 : o.k ≠ 3) {x k : Int} (e2 : (stepR A o.k o.i o.y).2.2 = A.filter (fun q => q.1 != x)) {p : Nat} (hb : A[p]? = some (x, k))
    {O : Nat} {vs : Nat → Value} (hO : Out3 wr O t vs (fun f => eraseI (LsOf (A.map Prod.fst) (A.map Prod.snd) T f) (p : Int)) w5) :
    PInv w ops (n + 1) (stepR A o.k o.i o.y).2.2 tk t v (vs 0) (vs 1) (vs 2) (eraseI T (p : Int)) ((((w5.setCell ⟨w.heap.size + 1, 0, none⟩ (vs 0)).setCell ⟨w.heap.size + 1, 1, none⟩ (vs 1)).setCell ⟨w.heap.size + 1, 2, none⟩ (vs 2)).setCell ⟨w.heap.size + 1, 3, none⟩ (.int .i64 t)) := by
  have hd := h.rq.drop hb hO
  rw [← e2] at hd
  have hk := keeps_four (w := w5) (w.heap.size + 1) (vs 0) (vs 1) (vs 2) (.int .i64 t)
  exact h.next ho hc h3 (Int.le_refl _) (by omega) ((hO.keeps.mono (fun _ _ h => h.elim)).trans hk) (Nat.le_refl _) hd

theorem PInv.setted {w wr w5 : World} {ops : List QOp} {n : Nat} {A : List (Int × Int)} {tk : List Int} {t : Int} {v vI vK vT : Value} {T : List Int} (h : PInv w ops n A tk t v vI vK vT T wr) {o : QOp} (ho : ops[n]? = some o) (hc : (stepR A o.k o.i o.y).1 = 0) (h3 : o.k ≠ 3) (e2 : (stepR A o.k o.i o.y).2.2 = setA A o.i o.y)
    (hk : Keeps (fun _ => False) wr w5) {v0 v1 v2 : Value} (h0 : OwnI wr.heap.size w5 v0 (eraseI (A.map Prod.fst) (placeI (A.map Prod.fst) o.i) ++ [o.i])) (h1 : OwnI wr.heap.size w5 v1 (eraseI (A.map Prod.snd) (placeI (A.map Prod.fst) o.i) ++ [o.y])) (h2 : OwnI wr.heap.size w5 v2 (eraseI T (placeI (A.map Prod.fst) o.i) ++ [t])) :
    ∃ T', PInv w ops (n + 1) (stepR A o.k o.i o.y).2.2 tk (t + 1) v v0 v1 v2 T' ((((w5.setCell ⟨w.heap.size + 1, 0, none⟩ v0).setCell ⟨w.heap.size + 1, 1, none⟩ v1).setCell ⟨w.heap.size + 1, 2, none⟩ v2).setCell ⟨w.heap.size + 1, 3, none⟩ (.int .i64 (t + 1))) := by
  obtain ⟨T', hd⟩ := h.rq.setq hk h0 h1 h2
  rw [← e2] at hd
  have hkf := keeps_four (w := w5) (w.heap.size + 1) v0 v1 v2 (.int .i64 (t + 1))
  exact ⟨T', h.next ho hc h3 (by omega) (Int.le_refl _) ((hk.mono (fun _ _ h => h.elim)).trans hkf) (Nat.le_refl _) hd⟩

structure DInv (w : World) (A : List (Int × Int)) (tk : List Int) (v : Value) (k : Nat) (rv : Value) (wr : World) : Prop where
  ex : ∃ (A' : List (Int × Int)) (l : List Int) (t : Int) (vI vK vT : Value) (T : List Int), A'.length = k ∧ l.length + A'.length = A.length ∧ l ++ drainA A'.length A' = drainA A.length A ∧ OwnI (w.heap.size + 1 + 1) wr rv l ∧
    RQ wr (w.heap.size + 1) vI vK vT T A' t (fun b => v.ownBlock ≠ some b ∧ rv.ownBlock ≠ some b)
  keeps : Keeps (fun _ => False) w wr
  fault : wr.heap[w.heap.size]? = some (.cells #[.int .i64 0, .int .i64 0] 25 (0, 0))
  own : OwnI (w.heap.size + 1 + 1) wr v tk
  apart : ∀ b, v.ownBlock = some b → rv.ownBlock ≠ some b

theorem drain_took {w w3 Wa w4 w5 : World} {A A' : List (Int × Int)} {tk l : List Int} {t : Int} {v rv vI vK vT : Value} {T : List Int} (hl : l.length + A'.length = A.length) (he : l ++ drainA A'.length A' = drainA A.length A)
    (hrv : OwnI (w.heap.size + 1 + 1) w3 rv l) (hrq : RQ w3 (w.heap.size + 1) vI vK vT T A' t (fun b => v.ownBlock ≠ some b ∧ rv.ownBlock ≠ some b)) (hk : Keeps (fun _ => False) w w3)
    (hf : w3.heap[w.heap.size]? = some (.cells #[.int .i64 0, .int .i64 0] 25 (0, 0))) (hv : OwnI (w.heap.size + 1 + 1) w3 v tk) (hap : ∀ b, v.ownBlock = some b → rv.ownBlock ≠ some b) (hWa : Keeps (fun _ => False) w3 Wa) (hgrow : Wa.grownBy w4 rv.ownBlock) :
    Keeps (fun _ => False) w w4 ∧ w4.heap[w.heap.size]? = some (.cells #[.int .i64 0, .int .i64 0] 25 (0, 0)) ∧ OwnI (w.heap.size + 1 + 1) w4 v tk ∧ RQ w4 (w.heap.size + 1) vI vK vT T A' t (fun b => v.ownBlock ≠ some b) := by
  have k3 : Keeps (fun k => rv.ownBlock = some k) Wa w4 := (Keeps.refl _ Wa).grown hgrow (fun k hk => .inl hk)
  have hrv' := hrv.keeps hWa (fun _ _ h => h)
  refine ⟨(hk.trans hWa).trans' k3 (fun b hb => .inr ?_), k3.heap (hWa.heap hf (fun h => h)) (fun hb => ?_), (hv.keeps hWa (fun _ _ h => h)).keeps k3 (fun b hb e => hap b hb e), ((hrq.keeps0 hWa).keeps k3 (fun hb => ?_) (fun b hb e => hb.2 e)).mono (fun _ _ h => h.1)⟩
  · have := (hrv'.lt b hb).1; omega
  · have := (hrv'.lt _ hb).1; omega
  · have := (hrv'.lt _ hb).1; omega

theorem drain_next {w w4 w5 : World} {A A' : List (Int × Int)} {tk l : List Int} {t : Int} {v vI vK vT : Value} {T : List Int} (hl : l.length + A'.length = A.length) (he : l ++ drainA A'.length A' = drainA A.length A)
    (hm : Keeps (fun _ => False) w w4 ∧ w4.heap[w.heap.size]? = some (.cells #[.int .i64 0, .int .i64 0] 25 (0, 0)) ∧ OwnI (w.heap.size + 1 + 1) w4 v tk ∧ RQ w4 (w.heap.size + 1) vI vK vT T A' t (fun b => v.ownBlock ≠ some b))
    {px : Int × Int} (hp : firstMin A' = some px) {bi : Nat} (hb : A'[bi]? = some px) {g cap : Nat} (hown : OwnI (w.heap.size + 1 + 1) w4 (.slice (some ⟨g, 0, none⟩) (l.length + 1) cap) (l ++ [px.1])) (hg : v.ownBlock ≠ some g)
    {O : Nat} {vs : Nat → Value} (hO : Out3 w4 O t vs (fun f => eraseI (LsOf (A'.map Prod.fst) (A'.map Prod.snd) T f) (bi : Int)) w5) :
    DInv w A tk v (A'.length - 1) (.slice (some ⟨g, 0, none⟩) (l.length + 1) cap) ((((w5.setCell ⟨w.heap.size + 1, 0, none⟩ (vs 0)).setCell ⟨w.heap.size + 1, 1, none⟩ (vs 1)).setCell ⟨w.heap.size + 1, 2, none⟩ (vs 2)).setCell ⟨w.heap.size + 1, 3, none⟩ (.int .i64 t)) := by
  obtain ⟨m1, m2, m3, m4⟩ := hm
  have hd := m4.drop (x := px.1) (k := px.2) hb hO
  have hk := keeps_four (w := w5) (w.heap.size + 1) (vs 0) (vs 1) (vs 2) (.int .i64 t)
  have hfl := filter_len m4.nd (firstMin_mem hp)
  have hpos : 0 < A'.length := by have := (List.getElem?_eq_some_iff.1 hb).1; omega
  have hg2 := (hown.lt g rfl).2
  refine ⟨⟨A'.filter (fun q => q.1 != px.1), l ++ [px.1], t, vs 0, vs 1, vs 2, eraseI T (bi : Int), by omega, by simp; omega, ?_, ?_, hd.mono (fun b _ hb => ⟨fun e => ?_, ?_⟩)⟩, (m1.trans hO.keeps).trans' hk (fun b hb => .inr (by omega)), hk.heap (hO.keeps.heap m2 (fun h => h)) (by omega), ?_, ?_⟩
  · rw [← he]
    obtain ⟨m, hm⟩ : ∃ m, A'.length = m + 1 := ⟨A'.length - 1, by omega⟩
    have : (A'.filter (fun q => q.1 != px.1)).length = m := by omega
    rw [hm, this, drainA, hp]; simp
  · exact (hown.keeps hO.keeps (fun _ _ h => h)).keeps hk (fun b hb e => by have := (hown.lt b hb).1; omega)
  · have := (m3.lt b e).2; omega
  · simp [Value.ownBlock]; omega
  · exact (m3.keeps hO.keeps (fun _ _ h => h)).keeps hk (fun b hb e => by have := (m3.lt b hb).1; omega)
  · intro b hb e
    simp [Value.ownBlock] at e
    subst e
    exact hg hb

set_option maxHeartbeats 2000000 in
theorem QueuePlay_any (w : World) (v : Value) (ops : List QOp) (h : Sl w v ops.length (opCells ops)) :
    Calls Try.prog 10 #[v] w (QPost w ops) := by
  obtain ⟨ao, cap, rfl, hm, hc⟩ := h
  unfold maxLen at hm
  by_cases h60 : 60 < ops.length
  · have hp : playQ ops = .error (2, -1) := by unfold playQ; rw [if_pos h60]
    have HP : Hid (∀ w', Keeps (fun _ => False) w w' → QPost w ops (.returned (.tuple #[.slice none 0 0, .slice none 0 0, .agg #[.int .i64 2, .int .i64 (-1)]])) w') := fun w' hk => ⟨hk, by rw [hp]⟩
    have HB : Hid (∀ w1, Keeps (fun _ => False) (w.alloc (.cells #[.int .i64 0, .int .i64 0] 25)) w1 → w1.heap[w.heap.size]? = some (.cells #[.int .i64 0, .int .i64 0] 25 (0, 0))) := fun w1 hk => hk.heap (heap_alloc_new w _) (fun h => h)
    clear hp hc
    go_enter Try.func10, Try.ntmps10
    go_wp2_with fail
    refine (at_any _ 2 (-1)).mono ?_; rintro e w1 ⟨rfl, hk⟩
    have b1 := HB.out w1 hk
    have f0 : w1.cell? ⟨w.heap.size, 0, none⟩ = some (.int .i64 0) := by rw [cell_of_blk b1]; rfl
    have f1 : w1.cell? ⟨w.heap.size, 1, none⟩ = some (.int .i64 0) := by rw [cell_of_blk b1]; rfl
    have g0 : w1.frozen? ⟨w.heap.size, 0, none⟩ = false := frozen_of_blk b1
    have g1 : w1.frozen? ⟨w.heap.size, 1, none⟩ = false := frozen_of_blk b1
    have l1 := lt_of_heap b1
    have HS := Lib.hid (pair_set b1 (.int .i64 2) (.int .i64 (-1)))
    have HK := Lib.hid (((((Keeps.refl (fun _ => False) w).alloc _).trans hk)).trans' (keeps_pair w.heap.size (.int .i64 2) (.int .i64 (-1))) (fun i hi => .inr (by omega)))
    clear hk b1
    go_wp2_with fail
    refine bodyPost_ret (results_tmp2_cell _ _ w.heap.size 25 _ _ _ rfl rfl HS.out Try.underlying25 rfl (by kernel_rfl)) rfl ?_
    exact HP.out _ HK.out
  · have hp : playQ ops = playFrom ops 0 [] [] := by unfold playQ; rw [if_neg h60]
    have HP := Lib.hid hp
    have HC := Lib.hid hc
    clear hp hc
    have hI : PInv w ops 0 [] [] 0 (.slice none 0 0) (.slice none 0 0) (.slice none 0 0) (.slice none 0 0) [] ((w.alloc (.cells #[.int .i64 0, .int .i64 0] 25)).alloc (.cells #[.slice none 0 0, .slice none 0 0, .slice none 0 0, .int .i64 0] 46)) := by
      have e2 := heap_alloc_new (w.alloc (.cells #[.int .i64 0, .int .i64 0] 25)) (.cells #[.slice none 0 0, .slice none 0 0, .slice none 0 0, .int .i64 0] 46)
      rw [World.size_alloc] at e2
      refine ⟨rfl, Int.le_refl _, Int.le_refl _, by simp, by simp, ((Keeps.refl _ _).alloc _).alloc _, pair_alloc (heap_alloc_new w _), OwnI.nil _ _, ⟨e2, OwnI.nil _ _, OwnI.nil _ _, OwnI.nil _ _, rfl, by simp, by simp, by simp, fun b hb => by simp [Value.ownBlock] at hb⟩⟩
    have HI := Lib.hid hI
    clear hI
    go_enter Try.func10, Try.ntmps10
    go_wp2_with fail
    go_loopw [6, 7] (fun ov iv wr => ∃ (n : Nat) (A : List (Int × Int)) (tk : List Int) (t : Int) (vI vK vT : Value) (T : List Int), iv = .int .i64 (n : Int) ∧ n ≤ ops.length ∧ PInv w ops n A tk t ov vI vK vT T wr) (fun _ iv _ => ops.length - (intOf iv).toNat)
    case atStart => exact ⟨0, [], [], 0, _, _, _, [], rfl, Nat.zero_le _, HI.out⟩
    case round =>
      obtain ⟨n, A, tk, t, vI, vK, vT, T, rfl, hn, hJ⟩ := hrel
      have HJ := Lib.hid hJ
      clear hJ
      by_cases hlt : n < ops.length
      · obtain ⟨b, off, rfl, hcell⟩ := HC.out (by omega)
        obtain ⟨o, ho⟩ : ∃ o, ops[n]? = some o := ⟨_, List.getElem?_eq_getElem hlt⟩
        obtain ⟨o1, o2, o3⟩ := opCells_get ops n o ho
        have p1 := HJ.out.keeps.cell (hcell _ _ o1) (fun h => h)
        have p2 := HJ.out.keeps.cell (hcell _ _ o2) (fun h => h)
        have p3 := HJ.out.keeps.cell (hcell _ _ o3) (fun h => h)
        rw [← Nat.add_assoc] at p2 p3
        have hn60 : n ≤ 60 := by omega
        have HO := Lib.hid ho
        have HCell := Lib.hid hcell
        obtain ⟨q0, q1, q2, q3, z0, z1, z2, z3⟩ := HJ.out.cells
        have i0 : (0 : Int) ≤ (n : Int) := by omega
        have i1 : (n : Int) < (ops.length : Int) := by omega
        have hfz : w.heap.size + 1 < wr.heap.size := lt_of_heap HJ.out.rq.blk
        clear ho hcell o1 o2 o3
        by_cases hc : (stepR A o.k o.i o.y).1 = 0
        · have HCO := Lib.hid hc
          obtain ⟨hf, e12, e3, e4⟩ := stepR_ok hc
          have hkr := (form_zero hf).1
          clear hf
          by_cases h3 : o.k = 3
          · have b3 : (o.k == 3) = true := by simpa using h3
            have H3k := Lib.hid h3
            obtain ⟨px, hpm, hp2⟩ := e3 h3
            have HPM := Lib.hid hpm
            have HP2 := Lib.hid hp2
            clear h3 e12 e3 e4 hpm hp2 hc
            go_wp2_with fail
            go_still_tail 5, (by kernel_rfl)
            change wpList _ _ _ _ _ wr.drew
            have HD := Lib.hid (HJ.out.keeps0 (Keeps.refl _ wr).drew)
            clear q0 q1 q2 q3 z0 z1 z2 z3 p1 p2 p3
            generalize wr.drew = w1 at HD ⊢
            go_wp2_with fail
            refine (code_any _ _ _ _ _ A HD.out.rq.own0.ints HD.out.rq.own1.ints _ _ _).mono ?_; rintro e w2 ⟨rfl, hk2⟩
            rw [HCO.out]
            have H2 := Lib.hid (HD.out.keeps0 hk2)
            obtain ⟨o1, o2, o3⟩ := opCells_get ops n o HO.out
            have p1 := H2.out.keeps.cell (HCell.out _ _ o1) (fun h => h)
            have p2 := H2.out.keeps.cell (HCell.out _ _ o2) (fun h => h)
            have p3 := H2.out.keeps.cell (HCell.out _ _ o3) (fun h => h)
            rw [← Nat.add_assoc] at p2 p3
            obtain ⟨q0, q1, q2, q3, z0, z1, z2, z3⟩ := H2.out.cells
            clear hk2 o1 o2 o3
            have hApos : 0 < A.length := by
              cases hAA : A with
              | nil => have := HPM.out; rw [hAA] at this; cases this
              | cons _ _ => simp
            go_wp2_with fail
            refine (first_any _ _ _ _ t _ _ T H2.out.rq.own0.ints H2.out.rq.own1.ints H2.out.rq.own2.ints (by simp) (by rw [H2.out.rq.len]; simp) (by simpa using hApos) H2.out.rq.inc).mono ?_; rintro e w3 ⟨bi, rfl, hB, hk3⟩
            have hAb : A[bi]? = some px := by
              rw [List.length_map] at hB
              rw [← firstMin_best hB, HPM.out]
            have HAB := Lib.hid hAb
            have H3 := Lib.hid (H2.out.keeps0 hk3)
            clear q0 q1 q2 q3 z0 z1 z2 z3 p1 p2 p3 hk3 hB
            have HQ0 := Lib.hid (H3.out.rq.own0.ints)
            obtain ⟨aI, cI, hvI, _⟩ := HQ0.out.form
            rw [List.length_map] at hvI
            have hbl : bi < A.length := (List.getElem?_eq_some_iff.1 hAb).1
            obtain ⟨bI, oI, rfl, cI'⟩ := HQ0.out.cell hvI (by simpa using hApos)
            have ci := cI' bi px.1 (by rw [List.getElem?_map, hAb]; rfl)
            obtain ⟨q0, q1, q2, q3, z0, z1, z2, z3⟩ := H3.out.cells
            subst hvI
            obtain ⟨ao', cap', rfl⟩ := ownsRow_form1 H3.out.own
            obtain ⟨i0', hi0, hz0, hz1, hz2⟩ := info_parts Try.info3
            have hbb0 : (0 : Int) ≤ (bi : Int) := by omega
            have hbb1 : (bi : Int) < (A.length : Int) := by omega
            have hs3 : w.heap.size + 1 < w3.heap.size := lt_of_heap H3.out.rq.blk
            clear cI' hAb
            go_wp2_with (at_builtin; refine wpList_append_lies _ rfl _ _ _ rfl (w.heap.size + 1 + 1) 3 i0' _ 1 8 Try.underlying23 hi0 hz0 hz1 hz2 rfl (by omega) _ tk.length _ (by rfl) (World.ownsRow.alloc (o := .cells #[.int .i64 px.1] 3) H3.out.own) ⟨w3.heap.size, 0, none⟩ 1 1 [.int .i64 px.1] (by rfl) (by rfl) ?hnews ?hone (by omega) (by have := HJ.out.tkn; unfold maxLen; omega) (by have := HJ.out.tkn; omega) (by simp; omega) (w3.heap.size + 1) (by simp) ?_)
            case hnews => exact World.news_of_block (cs := #[.int .i64 px.1]) (t := 3) (fr := (0, 0)) (heap_alloc_new _ _)
            case hone => simp [Value.oneCell']
            intro g cap2 w4 hown hgrow hat hlt4
            have hown' : OwnI (w.heap.size + 1 + 1) w4 (.slice (some ⟨g, 0, none⟩) (tk.length + 1) cap2) (tk ++ [px.1]) := by
              unfold OwnI; rw [List.length_append, List.map_append]; exact hown
            have HOW := Lib.hid hown'
            have HAP := Lib.hid (H3.out.app ((Keeps.refl _ w3).alloc _) hgrow)
            have hb4 := HAP.out.2.2.blk
            have y0 : w4.cell? ⟨w.heap.size + 1, 0, none⟩ = some (.slice (some ⟨bI, oI, none⟩) A.length cI) := by rw [cell_of_blk hb4]; rfl
            have y1 : w4.cell? ⟨w.heap.size + 1, 1, none⟩ = some vK := by rw [cell_of_blk hb4]; rfl
            have y2 : w4.cell? ⟨w.heap.size + 1, 2, none⟩ = some vT := by rw [cell_of_blk hb4]; rfl
            have y3 : w4.cell? ⟨w.heap.size + 1, 3, none⟩ = some (.int .i64 t) := by rw [cell_of_blk hb4]; rfl
            have hA60 : A.length ≤ 100000 := by have := HJ.out.An; omega
            clear hown hgrow hat hown' hb4 q0 q1 q2 q3 z0 z1 z2 z3 ci
            go_wp2_with fail
            refine (without_any _ _ _ _ t _ _ T HAP.out.2.2.own0.ints HAP.out.2.2.own1.ints HAP.out.2.2.own2.ints (by simp) (by rw [HAP.out.2.2.len]; simp) (by simpa using hA60) (bi : Int)).mono ?_; rintro e w5 ⟨vs, rfl, hO⟩
            have HN := Lib.hid (H3.out.took HO.out HCO.out H3k.out HP2.out HAB.out HOW.out HAP.out hO)
            have hb5 := hO.keeps.heap HAP.out.2.2.blk (fun h => h)
            obtain ⟨a0, d0, v0⟩ := ownsRow_form1 (hO.own 0 (by omega))
            obtain ⟨a1, d1, v1⟩ := ownsRow_form1 (hO.own 1 (by omega))
            obtain ⟨a2, d2, v2⟩ := ownsRow_form1 (hO.own 2 (by omega))
            generalize (eraseI (LsOf (A.map Prod.fst) (A.map Prod.snd) T 0) (bi : Int)).length = n0 at v0
            generalize (eraseI (LsOf (A.map Prod.fst) (A.map Prod.snd) T 1) (bi : Int)).length = n1 at v1
            generalize (eraseI (LsOf (A.map Prod.fst) (A.map Prod.snd) T 2) (bi : Int)).length = n2 at v2
            rw [v0, v1, v2] at HN ⊢
            have x0 : w5.cell? ⟨w.heap.size + 1, 0, none⟩ = some (.slice (some ⟨bI, oI, none⟩) A.length cI) := by rw [cell_of_blk hb5]; rfl
            have x1 : w5.cell? ⟨w.heap.size + 1, 1, none⟩ = some vK := by rw [cell_of_blk hb5]; rfl
            have x2 : w5.cell? ⟨w.heap.size + 1, 2, none⟩ = some vT := by rw [cell_of_blk hb5]; rfl
            have x3 : w5.cell? ⟨w.heap.size + 1, 3, none⟩ = some (.int .i64 t) := by rw [cell_of_blk hb5]; rfl
            have s0 : w5.frozen? ⟨w.heap.size + 1, 0, none⟩ = false := frozen_of_blk hb5
            have s1 : w5.frozen? ⟨w.heap.size + 1, 1, none⟩ = false := frozen_of_blk hb5
            have s2 : w5.frozen? ⟨w.heap.size + 1, 2, none⟩ = false := frozen_of_blk hb5
            have s3 : w5.frozen? ⟨w.heap.size + 1, 3, none⟩ = false := frozen_of_blk hb5
            clear y0 y1 y2 y3 hb5 hO v0 v1 v2
            go_wp2_with fail
            go_roundw
            case rel => exact ⟨n + 1, _, _, _, _, _, _, _, by go_num, by omega, HN.out⟩
            case measure => simp [intOf]; omega
          · by_cases h4 : o.k = 4
            · have b3 : (o.k == 3) = false := by simpa using h3
              have b4 : (o.k == 4) = true := by simpa using h4
              have H3k := Lib.hid h3
              obtain ⟨k0, hlk, hp2⟩ := e4 h4
              have HLK := Lib.hid hlk
              have HP2 := Lib.hid hp2
              clear h3 h4 e12 e3 e4 hlk hp2 hc
              go_wp2_with fail
              go_still_tail 5, (by kernel_rfl)
              change wpList _ _ _ _ _ wr.drew
              have HD := Lib.hid (HJ.out.keeps0 (Keeps.refl _ wr).drew)
              clear q0 q1 q2 q3 z0 z1 z2 z3 p1 p2 p3
              generalize wr.drew = w1 at HD ⊢
              go_wp2_with fail
              refine (code_any _ _ _ _ _ A HD.out.rq.own0.ints HD.out.rq.own1.ints _ _ _).mono ?_; rintro e w2 ⟨rfl, hk2⟩
              rw [HCO.out]
              have H2 := Lib.hid (HD.out.keeps0 hk2)
              obtain ⟨o1, o2, o3⟩ := opCells_get ops n o HO.out
              have p1 := H2.out.keeps.cell (HCell.out _ _ o1) (fun h => h)
              have p2 := H2.out.keeps.cell (HCell.out _ _ o2) (fun h => h)
              have p3 := H2.out.keeps.cell (HCell.out _ _ o3) (fun h => h)
              rw [← Nat.add_assoc] at p2 p3
              obtain ⟨q0, q1, q2, q3, z0, z1, z2, z3⟩ := H2.out.cells
              clear hk2 o1 o2 o3
              have hq2 : w.heap.size + 1 < w2.heap.size := lt_of_heap H2.out.rq.blk
              go_wp2_with fail
              have HDN : Hid (∀ m, PInv w ops n A tk t u6 vI vK vT T (w2.drewN m)) := fun m => H2.out.keeps0 ((Keeps.refl _ w2).drewN m)
              obtain ⟨p, k1, hpl, hAp⟩ : ∃ (p : Nat) (k1 : Int), placeI (A.map Prod.fst) o.i = (p : Int) ∧ A[p]? = some (o.i, k1) := by
                rcases place_look A o.i with ⟨h1, _⟩ | ⟨p, k1, _, h2, h3⟩
                · have := HLK.out; rw [h1] at this; cases this
                · exact ⟨p, k1, h2, h3⟩
              have HPL := Lib.hid hpl
              have HAP := Lib.hid hAp
              have hA60 : A.length ≤ 100000 := by have := HJ.out.An; omega
              clear hpl hAp
              go_region_with (first | (go_at_call 23; refine (place_any _ _ _ _ t _ o.i (HDN.out _).rq.own0.ints).mono ?_; rintro e w4 ⟨rfl, hk4⟩; rw [HPL.out]; have H4 := Lib.hid ((HDN.out _).keeps0 hk4); obtain ⟨y0, y1, y2, y3, _, _, _, _⟩ := H4.out.cells; clear hk4) | (go_at_call 22; refine (without_any _ _ _ _ t _ _ T H4.out.rq.own0.ints H4.out.rq.own1.ints H4.out.rq.own2.ints (by simp) (by rw [H4.out.rq.len]; simp) (by simpa using hA60) (p : Int)).mono ?_; rintro e w5 ⟨vs, rfl, hO⟩; have HN := Lib.hid (H4.out.dropped HO.out HCO.out H3k.out HP2.out HAP.out hO); have hb5 := hO.keeps.heap H4.out.rq.blk (fun h => h); obtain ⟨a0, d0, v0⟩ := ownsRow_form1 (hO.own 0 (by omega)); obtain ⟨a1, d1, v1⟩ := ownsRow_form1 (hO.own 1 (by omega)); obtain ⟨a2, d2, v2⟩ := ownsRow_form1 (hO.own 2 (by omega)); generalize (eraseI (LsOf (A.map Prod.fst) (A.map Prod.snd) T 0) (p : Int)).length = n0 at v0; generalize (eraseI (LsOf (A.map Prod.fst) (A.map Prod.snd) T 1) (p : Int)).length = n1 at v1; generalize (eraseI (LsOf (A.map Prod.fst) (A.map Prod.snd) T 2) (p : Int)).length = n2 at v2; rw [v0, v1, v2] at HN ⊢; have x0 : w5.cell? ⟨w.heap.size + 1, 0, none⟩ = some vI := (by rw [cell_of_blk hb5]; rfl); have x1 : w5.cell? ⟨w.heap.size + 1, 1, none⟩ = some vK := (by rw [cell_of_blk hb5]; rfl); have x2 : w5.cell? ⟨w.heap.size + 1, 2, none⟩ = some vT := (by rw [cell_of_blk hb5]; rfl); have x3 : w5.cell? ⟨w.heap.size + 1, 3, none⟩ = some (.int .i64 t) := (by rw [cell_of_blk hb5]; rfl); have s0 : w5.frozen? ⟨w.heap.size + 1, 0, none⟩ = false := frozen_of_blk hb5; have s1 : w5.frozen? ⟨w.heap.size + 1, 1, none⟩ = false := frozen_of_blk hb5; have s2 : w5.frozen? ⟨w.heap.size + 1, 2, none⟩ = false := frozen_of_blk hb5; have s3 : w5.frozen? ⟨w.heap.size + 1, 3, none⟩ = false := frozen_of_blk hb5; clear hb5 hO v0 v1 v2 y0 y1 y2 y3))
              all_goals go_wp2
              all_goals go_roundw
              all_goals first
                | exact ⟨n + 1, _, _, _, _, _, _, _, by go_num, by omega, HN.out⟩
                | (simp [intOf]; omega)
            · have b3 : (o.k == 3) = false := by simpa using h3
              have b4 : (o.k == 4) = false := by simpa using h4
              have H3k := Lib.hid h3
              have hp2 := e12 (by omega)
              have HP2 := Lib.hid hp2
              clear h3 h4 e12 e3 e4 hp2 hc
              go_wp2_with fail
              go_still_tail 5, (by kernel_rfl)
              change wpList _ _ _ _ _ wr.drew
              have HD := Lib.hid (HJ.out.keeps0 (Keeps.refl _ wr).drew)
              clear q0 q1 q2 q3 z0 z1 z2 z3 p1 p2 p3
              generalize wr.drew = w1 at HD ⊢
              go_wp2_with fail
              refine (code_any _ _ _ _ _ A HD.out.rq.own0.ints HD.out.rq.own1.ints _ _ _).mono ?_; rintro e w2 ⟨rfl, hk2⟩
              rw [HCO.out]
              have H2 := Lib.hid (HD.out.keeps0 hk2)
              obtain ⟨o1, o2, o3⟩ := opCells_get ops n o HO.out
              have p1 := H2.out.keeps.cell (HCell.out _ _ o1) (fun h => h)
              have p2 := H2.out.keeps.cell (HCell.out _ _ o2) (fun h => h)
              have p3 := H2.out.keeps.cell (HCell.out _ _ o3) (fun h => h)
              rw [← Nat.add_assoc] at p2 p3
              obtain ⟨q0, q1, q2, q3, z0, z1, z2, z3⟩ := H2.out.cells
              clear hk2 o1 o2 o3
              have hq2 : w.heap.size + 1 < w2.heap.size := lt_of_heap H2.out.rq.blk
              go_wp2_with fail
              go_still_tail 11, (by kernel_rfl)
              change wpList _ _ _ _ _ w2.drew
              have HD2 := Lib.hid (H2.out.keeps0 (Keeps.refl _ w2).drew)
              clear q0 q1 q2 q3 z0 z1 z2 z3 p1 p2 p3 hq2
              generalize w2.drew = w3 at HD2 ⊢
              have hA60 : A.length ≤ 100000 := by have := HJ.out.An; omega
              have htn : 0 ≤ t ∧ t ≤ 1000000 := ⟨HJ.out.t0, by have := HJ.out.tn; omega⟩
              go_wp2_with fail
              refine (with_any _ _ _ _ t _ _ T HD2.out.rq.own0.ints HD2.out.rq.own1.ints HD2.out.rq.own2.ints (by simp) (by rw [HD2.out.rq.len]; simp) (by simpa using hA60) o.i o.y htn).mono ?_; rintro e w5 ⟨u0, u1, u2, rfl, o0, o1, o2, hk5⟩
              have hN := HD2.out.setted HO.out HCO.out H3k.out HP2.out hk5 o0 o1 o2
              obtain ⟨T', hN⟩ := hN
              have HN := Lib.hid hN
              have hb5 := hk5.heap HD2.out.rq.blk (fun h => h)
              obtain ⟨a0, d0, v0⟩ := ownsRow_form1 o0
              obtain ⟨a1, d1, v1⟩ := ownsRow_form1 o1
              obtain ⟨a2, d2, v2⟩ := ownsRow_form1 o2
              clear hN o0 o1 o2
              generalize (eraseI (A.map Prod.fst) (placeI (A.map Prod.fst) o.i) ++ [o.i]).length = n0 at v0
              generalize (eraseI (A.map Prod.snd) (placeI (A.map Prod.fst) o.i) ++ [o.y]).length = n1 at v1
              generalize (eraseI T (placeI (A.map Prod.fst) o.i) ++ [t]).length = n2 at v2
              subst v0 v1 v2
              have x0 : w5.cell? ⟨w.heap.size + 1, 0, none⟩ = some vI := by rw [cell_of_blk hb5]; rfl
              have x1 : w5.cell? ⟨w.heap.size + 1, 1, none⟩ = some vK := by rw [cell_of_blk hb5]; rfl
              have x2 : w5.cell? ⟨w.heap.size + 1, 2, none⟩ = some vT := by rw [cell_of_blk hb5]; rfl
              have x3 : w5.cell? ⟨w.heap.size + 1, 3, none⟩ = some (.int .i64 t) := by rw [cell_of_blk hb5]; rfl
              have s0 : w5.frozen? ⟨w.heap.size + 1, 0, none⟩ = false := frozen_of_blk hb5
              have s1 : w5.frozen? ⟨w.heap.size + 1, 1, none⟩ = false := frozen_of_blk hb5
              have s2 : w5.frozen? ⟨w.heap.size + 1, 2, none⟩ = false := frozen_of_blk hb5
              have s3 : w5.frozen? ⟨w.heap.size + 1, 3, none⟩ = false := frozen_of_blk hb5
              clear hb5 hk5 htn
              go_wp2_with fail
              go_roundw
              case rel => exact ⟨n + 1, _, _, _, _, _, _, _, by go_num, by omega, HN.out⟩
              case measure => simp [intOf]; omega
        · have hpe : playQ ops = .error ((stepR A o.k o.i o.y).1, (n : Int)) := by
            rw [HP.out, ← HJ.out.eq, drop_get HO.out, playFrom, if_pos hc]
          generalize hcc : (stepR A o.k o.i o.y).1 = c at *
          have bc : (c != 0) = true := by simpa using hc
          have HCO := Lib.hid hcc
          have HPE : Hid (∀ w', Keeps (fun _ => False) w w' → QPost w ops (.returned (.tuple #[.slice none 0 0, .slice none 0 0, .agg #[.int .i64 c, .int .i64 (n : Int)]])) w') := fun w' hk => ⟨hk, by rw [hpe]⟩
          clear hc hpe hcc
          go_wp2_with fail
          go_still_tail 5, (by kernel_rfl)
          change wpList _ _ _ _ _ wr.drew
          have HD := Lib.hid (HJ.out.keeps0 (Keeps.refl _ wr).drew)
          clear q0 q1 q2 q3 z0 z1 z2 z3 p1 p2 p3
          generalize wr.drew = w1 at HD ⊢
          go_wp2_with fail
          refine (code_any _ _ _ _ _ A HD.out.rq.own0.ints HD.out.rq.own1.ints _ _ _).mono ?_; rintro e w2 ⟨rfl, hk2⟩
          rw [HCO.out]
          have H2 := Lib.hid (HD.out.keeps0 hk2)
          clear hk2
          go_wp2_with fail
          refine (at_any _ c (n : Int)).mono ?_; rintro e w3 ⟨rfl, hk3⟩
          have H3 := Lib.hid (H2.out.keeps0 hk3)
          obtain ⟨f0, f1, g0, g1⟩ := H3.out.fcells
          have HS := Lib.hid (pair_set H3.out.fault (.int .i64 c) (.int .i64 (n : Int)))
          have HK := Lib.hid (H3.out.keeps.trans' (keeps_pair w.heap.size (.int .i64 c) (.int .i64 (n : Int))) (fun i hi => .inr (by omega)))
          have l1 := lt_of_heap H3.out.fault
          clear hk3
          go_wp2_with fail
          refine bodyPost_ret (results_tmp2_cell _ _ w.heap.size 25 _ _ _ rfl rfl HS.out Try.underlying25 rfl (by kernel_rfl)) rfl ?_
          exact HPE.out _ HK.out
      · obtain rfl : n = ops.length := by omega
        have hok : playQ ops = .ok (tk, A) := by
          have e := HJ.out.eq
          rw [List.drop_length, playFrom] at e
          rw [HP.out, ← e]
        have HOK := Lib.hid hok
        have hD : DInv w A tk u6 A.length (.slice none 0 0) wr := ⟨⟨A, [], t, vI, vK, vT, T, rfl, by simp, rfl, OwnI.nil _ _, HJ.out.rq.mono (fun b _ hb => ⟨hb, by simp [Value.ownBlock]⟩)⟩, HJ.out.keeps, HJ.out.fault, HJ.out.own, fun b _ => by simp [Value.ownBlock]⟩
        have HD := Lib.hid hD
        have hA60 : A.length ≤ 1000 := by have := HJ.out.An; omega
        obtain ⟨ao6, cap6, e6⟩ := ownsRow_form1 HJ.out.own
        clear hok hD
        go_wp2_with fail
        go_loopg [10] A.length (fun k rv w2 => DInv w A tk u6 k rv w2)
        case atStart => exact HD.out
        case round =>
          obtain ⟨A', l, t', uI, uK, uT, T', hk, hl, he, hrv, hrq⟩ := hrel.ex
          have HREL := Lib.hid hrel
          have HK := Lib.hid hk; have HL := Lib.hid hl; have HE := Lib.hid he; have HRV := Lib.hid hrv; have HRQ := Lib.hid hrq
          obtain ⟨aI, cI, hvI, _⟩ := HRQ.out.own0.ints.form
          rw [List.length_map] at hvI
          have HVI := Lib.hid hvI
          clear hrel hk hl he hrv hrq hvI
          have hb := HRQ.out.blk
          have q1 : wr.cell? ⟨w.heap.size + 1, 1, none⟩ = some uK := by rw [cell_of_blk hb]; rfl
          have q2 : wr.cell? ⟨w.heap.size + 1, 2, none⟩ = some uT := by rw [cell_of_blk hb]; rfl
          have q3 : wr.cell? ⟨w.heap.size + 1, 3, none⟩ = some (.int .i64 t') := by rw [cell_of_blk hb]; rfl
          have q0 : wr.cell? ⟨w.heap.size + 1, 0, none⟩ = some (.slice aI A'.length cI) := by rw [cell_of_blk hb, ← HVI.out]; rfl
          have hs1 : w.heap.size + 1 < wr.heap.size := lt_of_heap hb
          clear hb
          by_cases hz : A'.length = 0
          · rw [hz] at q0
            have HF := Lib.hid HREL.out.fault
            have f0 : wr.cell? ⟨w.heap.size, 0, none⟩ = some (.int .i64 0) := by rw [cell_of_blk HF.out]; rfl
            have f1 : wr.cell? ⟨w.heap.size, 1, none⟩ = some (.int .i64 0) := by rw [cell_of_blk HF.out]; rfl
            have g0 : wr.frozen? ⟨w.heap.size, 0, none⟩ = false := frozen_of_blk HF.out
            have g1 : wr.frozen? ⟨w.heap.size, 1, none⟩ = false := frozen_of_blk HF.out
            go_wp2_with fail
            refine bodyPost_ret (results_tmp2_cell _ _ w.heap.size 25 _ _ _ rfl rfl (pair_set HF.out _ _) Try.underlying25 rfl (by kernel_rfl)) rfl ?_
            have hkp := keeps_pair (w := wr) w.heap.size (.int .i64 0) (.int .i64 0)
            refine ⟨HREL.out.keeps.trans' hkp (fun b hb => .inr (by omega)), ?_⟩
            rw [HOK.out]
            have hfin : l = drainA A.length A := by
              have := HE.out
              rw [List.length_eq_zero_iff.1 hz] at this
              simpa [drainA] using this
            refine ⟨u6, u10, rfl, ?_, ?_⟩
            · exact (HREL.out.own.keeps hkp (fun b hb e => by have := (HREL.out.own.lt b hb).1; omega)).mono (by omega)
            · rw [← hfin]
              exact (HRV.out.keeps hkp (fun b hb e => by have := (HRV.out.lt b hb).1; omega)).mono (by omega)
          · obtain ⟨px, hpm⟩ : ∃ p, firstMin A' = some p := by
              cases hm : firstMin A' with
              | none => rw [firstMin_none.1 hm] at hz; simp at hz
              | some p => exact ⟨p, rfl⟩
            have HPM := Lib.hid hpm
            have hpos : 0 < A'.length := by omega
            clear hpm
            subst e6
            have hvI := HVI.out
            subst hvI
            go_wp2_with fail
            refine (first_any _ _ _ _ t' _ _ T' HRQ.out.own0.ints HRQ.out.own1.ints HRQ.out.own2.ints (by simp) (by rw [HRQ.out.len]; simp) (by simpa using hpos) HRQ.out.inc).mono ?_; rintro e w3 ⟨bi, rfl, hB, hk3⟩
            have hAb : A'[bi]? = some px := by
              rw [List.length_map] at hB
              rw [← firstMin_best hB, HPM.out]
            have HAB := Lib.hid hAb
            have HRQ3 := Lib.hid (HRQ.out.keeps0 hk3)
            have HRV3 := Lib.hid (HRV.out.keeps hk3 (fun _ _ h => h))
            have HK3 := Lib.hid (HREL.out.keeps.trans hk3)
            have HF3 := Lib.hid (hk3.heap HREL.out.fault (fun h => h))
            have HV3 := Lib.hid (HREL.out.own.keeps hk3 (fun _ _ h => h))
            have hbl : bi < A'.length := (List.getElem?_eq_some_iff.1 hAb).1
            obtain ⟨bI, oI, rfl, cI'⟩ := HRQ3.out.own0.ints.cell (n := A'.length) (cap := cI) rfl (by simpa using hpos)
            have ci := cI' bi px.1 (by rw [List.getElem?_map, hAb]; rfl)
            have hb3 := HRQ3.out.blk
            clear q0 q1 q2 q3 hk3 hB hAb cI'
            have q0 : w3.cell? ⟨w.heap.size + 1, 0, none⟩ = some (.slice (some ⟨bI, oI, none⟩) A'.length cI) := by rw [cell_of_blk hb3]; rfl
            have q1 : w3.cell? ⟨w.heap.size + 1, 1, none⟩ = some uK := by rw [cell_of_blk hb3]; rfl
            have q2 : w3.cell? ⟨w.heap.size + 1, 2, none⟩ = some uT := by rw [cell_of_blk hb3]; rfl
            have q3 : w3.cell? ⟨w.heap.size + 1, 3, none⟩ = some (.int .i64 t') := by rw [cell_of_blk hb3]; rfl
            obtain ⟨ao', cap', rfl⟩ := ownsRow_form1 HRV3.out
            obtain ⟨i0', hi0, hz0, hz1, hz2⟩ := info_parts Try.info3
            have hbb0 : (0 : Int) ≤ (bi : Int) := by omega
            have hbb1 : (bi : Int) < (A'.length : Int) := by omega
            have hs3 : w.heap.size + 1 < w3.heap.size := lt_of_heap hb3
            have hll : l.length ≤ 1000 := by have := HL.out; omega
            clear hb3
            go_wp2_with (at_builtin; refine wpList_append_lies _ rfl _ _ _ rfl (w.heap.size + 1 + 1) 3 i0' _ 1 8 Try.underlying23 hi0 hz0 hz1 hz2 rfl (by omega) _ l.length _ (by rfl) (World.ownsRow.alloc (o := .cells #[.int .i64 px.1] 3) HRV3.out) ⟨w3.heap.size, 0, none⟩ 1 1 [.int .i64 px.1] (by rfl) (by rfl) ?hnews ?hone (by omega) (by unfold maxLen; omega) (by omega) (by simp; omega) (w3.heap.size + 1) (by simp) ?_)
            case hnews => exact World.news_of_block (cs := #[.int .i64 px.1]) (t := 3) (fr := (0, 0)) (heap_alloc_new _ _)
            case hone => simp [Value.oneCell']
            intro g cap2 w4 hown hgrow hat hlt4
            have hown' : OwnI (w.heap.size + 1 + 1) w4 (.slice (some ⟨g, 0, none⟩) (l.length + 1) cap2) (l ++ [px.1]) := by
              unfold OwnI; rw [List.length_append, List.map_append]; exact hown
            have HOW := Lib.hid hown'
            have HAP := Lib.hid (drain_took HL.out HE.out HRV3.out HRQ3.out HK3.out HF3.out HV3.out HREL.out.apart ((Keeps.refl _ w3).alloc _) hgrow (w5 := w4))
            have hgv : Value.ownBlock (.slice ao6 tk.length cap6) ≠ some g := by
              intro e
              rcases hat with hat | hat
              · exact HREL.out.apart g e hat
              · have := (HV3.out.lt g e).2; omega
            have HGV := Lib.hid hgv
            have hb4 := HAP.out.2.2.2.blk
            have y0 : w4.cell? ⟨w.heap.size + 1, 0, none⟩ = some (.slice (some ⟨bI, oI, none⟩) A'.length cI) := by rw [cell_of_blk hb4]; rfl
            have y1 : w4.cell? ⟨w.heap.size + 1, 1, none⟩ = some uK := by rw [cell_of_blk hb4]; rfl
            have y2 : w4.cell? ⟨w.heap.size + 1, 2, none⟩ = some uT := by rw [cell_of_blk hb4]; rfl
            have y3 : w4.cell? ⟨w.heap.size + 1, 3, none⟩ = some (.int .i64 t') := by rw [cell_of_blk hb4]; rfl
            have hA61 : A'.length ≤ 100000 := by have := HL.out; omega
            clear hown hgrow hat hown' hb4 q0 q1 q2 q3 ci hgv
            go_wp2_with fail
            refine (without_any _ _ _ _ t' _ _ T' HAP.out.2.2.2.own0.ints HAP.out.2.2.2.own1.ints HAP.out.2.2.2.own2.ints (by simp) (by rw [HAP.out.2.2.2.len]; simp) (by simpa using hA61) (bi : Int)).mono ?_; rintro e w5 ⟨vs, rfl, hO⟩
            have HN := Lib.hid (drain_next HL.out HE.out HAP.out HPM.out HAB.out HOW.out HGV.out hO)
            have hb5 := hO.keeps.heap HAP.out.2.2.2.blk (fun h => h)
            obtain ⟨a0, d0, v0⟩ := ownsRow_form1 (hO.own 0 (by omega))
            obtain ⟨a1, d1, v1⟩ := ownsRow_form1 (hO.own 1 (by omega))
            obtain ⟨a2, d2, v2⟩ := ownsRow_form1 (hO.own 2 (by omega))
            generalize (eraseI (LsOf (A'.map Prod.fst) (A'.map Prod.snd) T' 0) (bi : Int)).length = n0 at v0
            generalize (eraseI (LsOf (A'.map Prod.fst) (A'.map Prod.snd) T' 1) (bi : Int)).length = n1 at v1
            generalize (eraseI (LsOf (A'.map Prod.fst) (A'.map Prod.snd) T' 2) (bi : Int)).length = n2 at v2
            rw [v0, v1, v2] at HN ⊢
            have x0 : w5.cell? ⟨w.heap.size + 1, 0, none⟩ = some (.slice (some ⟨bI, oI, none⟩) A'.length cI) := by rw [cell_of_blk hb5]; rfl
            have x1 : w5.cell? ⟨w.heap.size + 1, 1, none⟩ = some uK := by rw [cell_of_blk hb5]; rfl
            have x2 : w5.cell? ⟨w.heap.size + 1, 2, none⟩ = some uT := by rw [cell_of_blk hb5]; rfl
            have x3 : w5.cell? ⟨w.heap.size + 1, 3, none⟩ = some (.int .i64 t') := by rw [cell_of_blk hb5]; rfl
            have s0 : w5.frozen? ⟨w.heap.size + 1, 0, none⟩ = false := frozen_of_blk hb5
            have s1 : w5.frozen? ⟨w.heap.size + 1, 1, none⟩ = false := frozen_of_blk hb5
            have s2 : w5.frozen? ⟨w.heap.size + 1, 2, none⟩ = false := frozen_of_blk hb5
            have s3 : w5.frozen? ⟨w.heap.size + 1, 3, none⟩ = false := frozen_of_blk hb5
            clear y0 y1 y2 y3 hb5 hO v0 v1 v2
            go_wp2_with fail
            go_roundg (A'.length - 1)
            case rel => exact HN.out
            case measure => have := HK.out; omega

end Go.Proofs.Ytlghadoejmnllaa
