/- The reference's queue as a whole. -/
import Derived.Test.YtlghadoejmnllaaRefH
namespace Go.Proofs.Ytlghadoejmnllaa
open Go.RowKit

structure RQ (w : World) (B : Nat) (vI vK vT : Value) (T : List Int) (A : List (Int × Int)) (t : Int) (G : Nat → Prop) : Prop where
  blk : w.heap[B]? = some (.cells #[vI, vK, vT, .int .i64 t] 46 (0, 0))
  own0 : OwnI (B + 1) w vI (A.map Prod.fst)
  own1 : OwnI (B + 1) w vK (A.map Prod.snd)
  own2 : OwnI (B + 1) w vT T
  len : T.length = A.length
  inc : T.Pairwise (· < ·)
  top : ∀ x ∈ T, x < t
  nd : (A.map Prod.fst).Nodup
  far : ∀ b, (vI.ownBlock = some b ∨ vK.ownBlock = some b ∨ vT.ownBlock = some b) → G b

theorem RQ.keeps {S : Nat → Prop} {w w' : World} {B : Nat} {vI vK vT : Value} {T : List Int} {A : List (Int × Int)} {t : Int} {G : Nat → Prop} (h : RQ w B vI vK vT T A t G) (hk : Keeps S w w') (hB : ¬ S B) (hS : ∀ b, G b → ¬ S b) : RQ w' B vI vK vT T A t G :=
  { h with
    blk := hk.heap h.blk hB
    own0 := h.own0.keeps hk (fun b hb => hS b (h.far b (.inl hb)))
    own1 := h.own1.keeps hk (fun b hb => hS b (h.far b (.inr (.inl hb))))
    own2 := h.own2.keeps hk (fun b hb => hS b (h.far b (.inr (.inr hb)))) }

theorem RQ.keeps0 {w w' : World} {B : Nat} {vI vK vT : Value} {T : List Int} {A : List (Int × Int)} {t : Int} {G : Nat → Prop} (h : RQ w B vI vK vT T A t G) (hk : Keeps (fun _ => False) w w') : RQ w' B vI vK vT T A t G := h.keeps hk (fun h => h) (fun _ _ h => h)

theorem RQ.mono {w : World} {B : Nat} {vI vK vT : Value} {T : List Int} {A : List (Int × Int)} {t : Int} {G G' : Nat → Prop} (h : RQ w B vI vK vT T A t G) (hG : ∀ b, b < w.heap.size → G b → G' b) : RQ w B vI vK vT T A t G' :=
  { h with far := fun b hb => hG b (by
      rcases hb with hb | hb | hb
      · exact (h.own0.lt b hb).2
      · exact (h.own1.lt b hb).2
      · exact (h.own2.lt b hb).2) (h.far b hb) }

/-- New rows stored into the queue's block. -/
theorem RQ.store {w' : World} {B N : Nat} {u0 u1 u2 u3 : Value} (hb : w'.heap[B]? = some (.cells #[u0, u1, u2, u3] 46 (0, 0))) (hN : B < N) {vI vK vT : Value} {T : List Int} {A : List (Int × Int)} {t : Int}
    (h0 : OwnI N w' vI (A.map Prod.fst)) (h1 : OwnI N w' vK (A.map Prod.snd)) (h2 : OwnI N w' vT T) (hl : T.length = A.length) (hi : T.Pairwise (· < ·)) (ht : ∀ x ∈ T, x < t) (hn : (A.map Prod.fst).Nodup) :
    RQ ((((w'.setCell ⟨B, 0, none⟩ vI).setCell ⟨B, 1, none⟩ vK).setCell ⟨B, 2, none⟩ vT).setCell ⟨B, 3, none⟩ (.int .i64 t)) B vI vK vT T A t (fun b => N ≤ b) := by
  have hk := keeps_four (w := w') B vI vK vT (.int .i64 t)
  refine ⟨four_set hb _ _ _ _, (h0.mono hN).keeps hk (fun b hb e => ?_), (h1.mono hN).keeps hk (fun b hb e => ?_), (h2.mono hN).keeps hk (fun b hb e => ?_), hl, hi, ht, hn, fun b hb => ?_⟩
  · have := (h0.lt b hb).1; omega
  · have := (h1.lt b hb).1; omega
  · have := (h2.lt b hb).1; omega
  · rcases hb with hb | hb | hb
    · exact (h0.lt b hb).1
    · exact (h1.lt b hb).1
    · exact (h2.lt b hb).1

theorem erase_filter {A : List (Int × Int)} (hn : (A.map Prod.fst).Nodup) {p : Nat} {x k : Int} (h : A[p]? = some (x, k)) (f : Int × Int → Int) : eraseI (A.map f) (p : Int) = (A.filter (fun q => q.1 != x)).map f := by
  obtain ⟨hl, he⟩ := List.getElem?_eq_some_iff.1 h
  have hs : A = A.take p ++ (x, k) :: A.drop (p + 1) := by rw [← he, List.getElem_cons_drop, List.take_append_drop]
  have hn' := hn
  rw [hs] at hn'
  unfold eraseI
  rw [if_neg (by omega), Int.toNat_natCast, List.eraseIdx_eq_take_drop_succ, ← List.map_take, ← List.map_drop, ← List.map_append]
  congr 1
  conv => rhs; rw [hs]
  rw [List.filter_append, List.filter_cons]
  simp only [bne_self_eq_false, Bool.false_eq_true, if_false]
  have n1 : ∀ b ∈ A.take p, b.1 ≠ x := fun b hb e => by
    rw [List.map_append, List.nodup_append] at hn'
    exact hn'.2.2 b.1 (List.mem_map_of_mem hb) x (by simp) e
  have n2 : ∀ c ∈ A.drop (p + 1), c.1 ≠ x := fun c hc e => by
    rw [List.map_append, List.nodup_append, List.map_cons, List.nodup_cons] at hn'
    exact hn'.2.1.1 (by show x ∈ _; rw [← e]; exact List.mem_map_of_mem hc)
  rw [List.filter_eq_self.2 (fun b hb => by simpa using n1 b hb), List.filter_eq_self.2 (fun b hb => by simpa using n2 b hb)]

theorem eraseI_sub (l : List Int) (k : Int) : (eraseI l k).Sublist l := by
  unfold eraseI; split
  · exact List.Sublist.refl _
  · exact List.eraseIdx_sublist _ _

theorem length_eraseI_at {l : List Int} {p : Nat} (h : p < l.length) : (eraseI l (p : Int)).length + 1 = l.length := by
  unfold eraseI
  rw [if_neg (by omega), Int.toNat_natCast, List.length_eraseIdx_of_lt h]; omega

/-- The queue behind 'without' of a place. -/
theorem RQ.drop {w w' : World} {B O : Nat} {vI vK vT : Value} {T : List Int} {A : List (Int × Int)} {t : Int} {G : Nat → Prop} (h : RQ w B vI vK vT T A t G) {p : Nat} {x k : Int} (hp : A[p]? = some (x, k)) {vs : Nat → Value}
    (hO : Out3 w O t vs (fun f => eraseI (LsOf (A.map Prod.fst) (A.map Prod.snd) T f) (p : Int)) w') :
    RQ ((((w'.setCell ⟨B, 0, none⟩ (vs 0)).setCell ⟨B, 1, none⟩ (vs 1)).setCell ⟨B, 2, none⟩ (vs 2)).setCell ⟨B, 3, none⟩ (.int .i64 t)) B (vs 0) (vs 1) (vs 2) (eraseI T (p : Int)) (A.filter (fun q => q.1 != x)) t (fun b => w.heap.size ≤ b) := by
  have hl : p < A.length := (List.getElem?_eq_some_iff.1 hp).1
  have hb := hO.keeps.heap h.blk (fun h => h)
  have e0 : eraseI (LsOf (A.map Prod.fst) (A.map Prod.snd) T 0) (p : Int) = (A.filter (fun q => q.1 != x)).map Prod.fst := erase_filter h.nd hp _
  have e1 : eraseI (LsOf (A.map Prod.fst) (A.map Prod.snd) T 1) (p : Int) = (A.filter (fun q => q.1 != x)).map Prod.snd := erase_filter h.nd hp _
  have h0 := hO.own 0 (by omega)
  have h1 := hO.own 1 (by omega)
  have h2 := hO.own 2 (by omega)
  rw [e0] at h0; rw [e1] at h1
  refine RQ.store hb (lt_of_heap h.blk) h0 h1 h2 ?_ (h.inc.sublist (eraseI_sub _ _)) (fun y hy => h.top y ((eraseI_sub _ _).mem hy)) (h.nd.sublist ((List.filter_sublist).map _))
  have a := length_eraseI_at (l := T) (p := p) (by rw [h.len]; exact hl)
  have b := congrArg List.length e0
  rw [List.length_map] at b
  have c := length_eraseI_at (l := A.map Prod.fst) (p := p) (by simpa using hl)
  rw [List.length_map] at c
  have d : (eraseI (A.map Prod.fst) (p : Int)).length = (A.filter (fun q => q.1 != x)).length := b
  have := h.len
  omega

/-- The queue behind 'with'. -/
theorem RQ.setq {w w' : World} {B : Nat} {vI vK vT : Value} {T : List Int} {A : List (Int × Int)} {t : Int} {G : Nat → Prop} (h : RQ w B vI vK vT T A t G) {x y : Int} (hk : Keeps (fun _ => False) w w') {v0 v1 v2 : Value}
    (h0 : OwnI w.heap.size w' v0 (eraseI (A.map Prod.fst) (placeI (A.map Prod.fst) x) ++ [x])) (h1 : OwnI w.heap.size w' v1 (eraseI (A.map Prod.snd) (placeI (A.map Prod.fst) x) ++ [y])) (h2 : OwnI w.heap.size w' v2 (eraseI T (placeI (A.map Prod.fst) x) ++ [t])) :
    ∃ T', RQ ((((w'.setCell ⟨B, 0, none⟩ v0).setCell ⟨B, 1, none⟩ v1).setCell ⟨B, 2, none⟩ v2).setCell ⟨B, 3, none⟩ (.int .i64 (t + 1))) B v0 v1 v2 T' (setA A x y) (t + 1) (fun b => w.heap.size ≤ b) := by
  have hb := hk.heap h.blk (fun h => h)
  have key : (eraseI (A.map Prod.fst) (placeI (A.map Prod.fst) x)) = (A.filter (fun q => q.1 != x)).map Prod.fst ∧ (eraseI (A.map Prod.snd) (placeI (A.map Prod.fst) x)) = (A.filter (fun q => q.1 != x)).map Prod.snd ∧ (eraseI T (placeI (A.map Prod.fst) x)).length = (A.filter (fun q => q.1 != x)).length := by
    rcases place_look A x with ⟨hl, hp⟩ | ⟨p, k0, hl, hp, hA⟩
    · have hf : A.filter (fun q => q.1 != x) = A := List.filter_eq_self.2 (fun q hq => by simpa using lookA_none hl q hq)
      rw [hp, hf]
      unfold eraseI
      rw [if_pos (by decide), if_pos (by decide), if_pos (by decide)]
      exact ⟨rfl, rfl, h.len⟩
    · rw [hp]
      have e0 := erase_filter h.nd hA Prod.fst
      refine ⟨e0, erase_filter h.nd hA Prod.snd, ?_⟩
      have hlt : p < A.length := (List.getElem?_eq_some_iff.1 hA).1
      have a := length_eraseI_at (l := T) (p := p) (by rw [h.len]; exact hlt)
      have b := congrArg List.length e0
      have c := length_eraseI_at (l := A.map Prod.fst) (p := p) (by simpa using hlt)
      rw [List.length_map] at b c
      have := h.len
      omega
  obtain ⟨e0, e1, e2⟩ := key
  rw [e0] at h0; rw [e1] at h1
  have m0 : (setA A x y).map Prod.fst = (A.filter (fun q => q.1 != x)).map Prod.fst ++ [x] := by unfold setA; simp
  have m1 : (setA A x y).map Prod.snd = (A.filter (fun q => q.1 != x)).map Prod.snd ++ [y] := by unfold setA; simp
  rw [← m0] at h0; rw [← m1] at h1
  refine ⟨_, RQ.store hb (lt_of_heap h.blk) h0 h1 h2 ?_ ?_ ?_ ?_⟩
  · unfold setA; simp [e2]
  · rw [List.pairwise_append]
    refine ⟨h.inc.sublist (eraseI_sub _ _), by simp, fun a ha b hb => ?_⟩
    simp at hb; subst hb
    exact h.top a ((eraseI_sub _ _).mem ha)
  · intro a ha
    rcases List.mem_append.1 ha with ha | ha
    · have := h.top a ((eraseI_sub _ _).mem ha); omega
    · simp at ha; omega
  · rw [m0, List.nodup_append]
    refine ⟨h.nd.sublist ((List.filter_sublist).map _), by simp, fun a ha b hb e => ?_⟩
    simp at hb; subst hb; subst e
    obtain ⟨q, hq, e⟩ := List.mem_map.1 ha
    have := (List.mem_filter.1 hq).2
    simp [e] at this

end Go.Proofs.Ytlghadoejmnllaa
