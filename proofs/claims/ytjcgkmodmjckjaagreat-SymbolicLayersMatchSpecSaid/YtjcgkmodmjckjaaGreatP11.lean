/- The queue: Set of an item that is there, Take, Drop. The queue: Take and Drop. The queue: Set, whether the item lies in it or not; its length. strips.Solves, Cost, Play. breadth: BreadthAgreesWithSteps walked. The reference's BestPlans and BestFault. The reference's BestFault. bothends: what meet's two sides say of the task's plans (plain), and what a search for best plans hands back. symbolic.Plan: its memory between the steps, and what that says. symbolic.Plan: its steps, in plain Lean. No condition beyond what each theorem says. -/
import Derived.Test.YtjcgkmodmjckjaaGreatP10
import Derived.Deep.RegionLaw
import Derived.Test.YtjcgkmodmjckjaaGreatP9
import Derived.Test.YtjcgkmodmjckjaaGreatP8
import Derived.Test.YtjcgkmodmjckjaaGreatP7
import Derived.Test.YtjcgkmodmjckjaaGreatP5
import Derived.Test.YtjcgkmodmjckjaaGreatP4

namespace Go.Proofs.YtjcgkmodmjckjaaGreat.V
open Go.RowKit

theorem QR.nM {w : World} {Q : Nat} {v : Value} {Mb : Nat} {l : List (Int × Value)} {L E : List Ent} {A : List (Int × Int)} {t : Int} {F : Nat → Prop} (h : QR w Q v Mb l L E A t F) : Mb ≠ Q := by
  rintro rfl
  obtain ⟨es, c, hb, _⟩ := h.mp
  have := h.q; unfold QBlk at this; rw [hb] at this; simp at this

theorem QR.nMf {w : World} {Q : Nat} {v : Value} {Mb : Nat} {l : List (Int × Value)} {L E : List Ent} {A : List (Int × Int)} {t : Int} {F : Nat → Prop} (h : QR w Q v Mb l L E A t F) : ¬ hfoot v L Mb := by
  intro hb
  obtain ⟨es, c, hbm, _⟩ := h.mp
  rcases hb with hb | ⟨e, he, rfl⟩
  · rcases h.rep.row.2 with ⟨hv, _⟩ | ⟨g, cap, cur, hv, _, hg, _⟩
    · rw [hv] at hb; simp [Value.ownBlock] at hb
    · rw [hv] at hb; simp [Value.ownBlock] at hb
      subst hb; rw [hbm] at hg; simp at hg
  · obtain ⟨j, hj⟩ := List.mem_iff_getElem?.1 he
    rw [h.rep.ent j e hj] at hbm; simp at hbm

theorem QR.itemInj {w : World} {Q : Nat} {v : Value} {Mb : Nat} {l : List (Int × Value)} {L E : List Ent} {A : List (Int × Int)} {t : Int} {F : Nat → Prop} (h : QR w Q v Mb l L E A t F) {i j : Nat} {a b : Ent} (hi : L[i]? = some a) (hj : L[j]? = some b) (e : a.item = b.item) : i = j := by
  have hp : (L.map (fun e => (e.item, e.key))).Perm A := by rw [← h.view]; exact h.perm.map _
  have hn : ((L.map (fun e => (e.item, e.key))).map Prod.fst).Nodup := (hp.map Prod.fst).nodup_iff.2 h.ndA
  rw [List.map_map] at hn
  have h1 : (L.map (Prod.fst ∘ fun e => (e.item, e.key)))[i]? = some a.item := by rw [List.getElem?_map, hi]; rfl
  have h2 : (L.map (Prod.fst ∘ fun e => (e.item, e.key)))[j]? = some a.item := by rw [List.getElem?_map, hj]; simp [e]
  have li : i < (L.map (Prod.fst ∘ fun e => (e.item, e.key))).length := (List.getElem?_eq_some_iff.1 h1).1
  exact (List.getElem?_inj li hn).1 (h1.trans h2.symm)

/-- The entry turned in place. -/
theorem HRep.turn {w : World} {H cap n : Nat} {L : List Ent} (h : HRep w (.slice (some ⟨H, 0, none⟩) n cap) L) {i : Nat} {e : Ent} (hi : L[i]? = some e) (k t : Int) :
    HRep ((w.setCell ⟨e.blk, 1, none⟩ (.int .i64 k)).setCell ⟨e.blk, 2, none⟩ (.int .i64 t)) (.slice (some ⟨H, 0, none⟩) n cap) (L.set i { e with key := k, time := t }) := by
  have hne := h.ne_row hi (g := H) rfl
  have li : i < L.length := (List.getElem?_eq_some_iff.1 hi).1
  refine ⟨?_, ?_, by simpa using h.small⟩
  · have hr := Keeps.ownsRow (S := fun b => b = e.blk) (((Keeps.refl (fun b => b = e.blk) w).setCell (p := ⟨e.blk, 1, none⟩) (.inl rfl) (.int .i64 k)).setCell (p := ⟨e.blk, 2, none⟩) (.inl rfl) (.int .i64 t)) h.row
      (fun b hb => by simp [Value.ownBlock] at hb; subst hb; exact fun e => hne e.symm)
    have e1 : (L.set i { e with key := k, time := t }).map Ent.ptr = L.map Ent.ptr := by
      rw [List.map_set]
      apply List.ext_getElem?
      intro j
      rw [List.getElem?_set]
      split
      · rename_i hj; subst hj
        have := (List.getElem?_eq_some_iff.1 hi).2
        simp [li, Ent.ptr, this]
      · rfl
    rw [e1, List.length_set]; exact hr
  · intro j a hj
    rw [List.getElem?_set] at hj
    by_cases hij : i = j
    · subst hij
      rw [if_pos rfl, if_pos li] at hj
      obtain rfl := Option.some.inj hj
      rw [blk_set_same (blk_set_same (h.ent i e hi) _)]; rfl
    · rw [if_neg hij] at hj
      have : a.blk ≠ e.blk := fun x => hij (h.inj hj hi x).symm
      rw [blk_set_ne this, blk_set_ne this]
      exact h.ent j a hj

theorem set_old_post {w w1 w2 : World} {Q : Nat} {v : Value} {Mb : Nat} {l : List (Int × Value)} {L E : List Ent} {A : List (Int × Int)} {t : Int} {F : Nat → Prop} (h : QR w Q v Mb l L E A t F) {i : Nat} {e : Ent} (hi : L[i]? = some e) (k : Int)
    (k1 : Keeps (fun b => b = Q ∨ b = e.blk) w w1) (q1 : QBlk w1 Q v (.map (some Mb)) (t + 1)) (hp : HPost w1 v (L.set i { e with key := k, time := t + 1 }) (fixL (L.set i { e with key := k, time := t + 1 }) i) w2) :
    QRep w2 Q (setA A e.item k) (t + 1) (fun b => F b ∧ ((∃ cs T fr, w2.heap[b]? = some (.cells cs T fr)) ∨ ∃ es c, w.heap[b]? = some (.map es c))) ∧ Keeps F w w2 := by
  have li : i < L.length := (List.getElem?_eq_some_iff.1 hi).1
  have he : e ∈ L := List.mem_of_getElem? hi
  have hlaw := fixL_law (e := { e with key := k, time := t + 1 }) li h.heap
  have hfe : hfoot v L e.blk := .inr ⟨e, he, rfl⟩
  have hfs : ∀ b, hfoot v (L.set i { e with key := k, time := t + 1 }) b → hfoot v L b := by
    rintro b (hb | ⟨a, ha, rfl⟩)
    · exact .inl hb
    · rcases List.mem_or_eq_of_mem_set ha with ha | rfl
      · exact .inr ⟨a, ha, rfl⟩
      · exact hfe
  have hmset : ∀ a, a ∈ L.set i { e with key := k, time := t + 1 } ↔ (a ∈ L ∧ a.item ≠ e.item) ∨ a = { e with key := k, time := t + 1 } := by
    intro a
    constructor
    · intro ha
      obtain ⟨j, hj⟩ := List.mem_iff_getElem?.1 ha
      rw [List.getElem?_set] at hj
      by_cases hij : i = j
      · subst hij; rw [if_pos rfl, if_pos li] at hj; exact .inr (Option.some.inj hj).symm
      · rw [if_neg hij] at hj
        exact .inl ⟨List.mem_of_getElem? hj, fun x => hij (h.itemInj hj hi x).symm⟩
    · rintro (⟨ha, hne⟩ | rfl)
      · obtain ⟨j, hj⟩ := List.mem_iff_getElem?.1 ha
        refine List.mem_of_getElem? (i := j) ?_
        rw [List.getElem?_set, if_neg]
        · exact hj
        · rintro rfl; rw [hi] at hj; exact hne (by rw [Option.some.inj hj])
      · refine List.mem_of_getElem? (i := i) ?_
        rw [List.getElem?_set, if_pos rfl, if_pos li]
  have hk2 : Keeps F w w2 := (k1.mono (S' := F) (fun b _ hb => by rcases hb with rfl | rfl; exact h.fQ; exact h.fH _ hfe)).trans (hp.keeps.mono (fun b _ hb => h.fH b (hfs b hb)))
  have hperm : (L.set i { e with key := k, time := t + 1 }).Perm (L.filter (fun a => a.item != e.item) ++ [{ e with key := k, time := t + 1 }]) := by
    have hl : L = L.take i ++ e :: L.drop (i + 1) := by
      have := @List.getElem_cons_drop _ L i li
      rw [(List.getElem?_eq_some_iff.1 hi).2] at this
      rw [this, List.take_append_drop]
    have f1 : (L.take i).filter (fun a => a.item != e.item) = L.take i := by
      rw [List.filter_eq_self]; intro a ha
      obtain ⟨j, hj⟩ := List.mem_iff_getElem?.1 ha
      rw [List.getElem?_take] at hj
      split at hj
      · simp; intro x; have := h.itemInj hj hi x; omega
      · cases hj
    have f2 : (L.drop (i + 1)).filter (fun a => a.item != e.item) = L.drop (i + 1) := by
      rw [List.filter_eq_self]; intro a ha
      obtain ⟨j, hj⟩ := List.mem_iff_getElem?.1 ha
      rw [List.getElem?_drop] at hj
      simp; intro x; have := h.itemInj hj hi x; omega
    have e1 : L.filter (fun a => a.item != e.item) = L.take i ++ L.drop (i + 1) := by
      conv => lhs; rw [hl]
      rw [List.filter_append, List.filter_cons, f1, f2]; simp
    rw [e1, List.set_eq_take_append_cons_drop, if_pos li, List.append_assoc]
    exact List.Perm.append_left _ (List.perm_append_singleton _ _).symm
  have hE : (L.filter (fun a => a.item != e.item)).Perm (E.filter (fun a => a.item != e.item)) := h.perm.filter _
  obtain ⟨ao, cap, hv⟩ := h.rep.isSlice
  refine ⟨⟨v, Mb, l, fixL (L.set i { e with key := k, time := t + 1 }) i, E.filter (fun a => a.item != e.item) ++ [{ e with key := k, time := t + 1 }], ?_⟩, hk2⟩
  have nQ := h.q.nfoot h.rep
  refine { rep := hp.rep, q := hp.keeps.heap q1 (fun hb => nQ (hfs _ hb)), mp := ?_, nd := h.nd, mem := ?_, heap := ?_, perm := hlaw.2.trans (hperm.trans (hE.append_right _)), view := ?_, ord := ?_, bound := ?_, ndA := nodup_setA h.ndA, fQ := ⟨h.fQ, .inl ⟨_, _, _, hp.keeps.heap q1 (fun hb => nQ (hfs _ hb))⟩⟩, fM := ⟨h.fM, .inr (by obtain ⟨es, c, hb, _⟩ := h.mp; exact ⟨es, c, hb⟩)⟩, fH := fun b hb => ⟨h.fH b (hfs b (hp.sub b hb)), .inl (hp.rep.cells hb)⟩ }
  · refine (h.mp.keeps k1 ?_).keeps hp.keeps (fun hb => h.nMf (hfs _ hb))
    rintro (hb | hb)
    · exact h.nM hb
    · exact h.nMf (hb ▸ hfe)
  · intro p
    rw [h.mem]
    constructor
    · rintro ⟨a, ha, rfl⟩
      by_cases hae : a.item = e.item
      · refine ⟨{ e with key := k, time := t + 1 }, hlaw.2.mem_iff.2 ((hmset _).2 (.inr rfl)), ?_⟩
        obtain ⟨j, hj⟩ := List.mem_iff_getElem?.1 ha
        have := h.itemInj hj hi hae
        subst this
        rw [hi] at hj
        obtain rfl := Option.some.inj hj
        rfl
      · exact ⟨a, hlaw.2.mem_iff.2 ((hmset _).2 (.inl ⟨ha, hae⟩)), rfl⟩
    · rintro ⟨a, ha, rfl⟩
      rcases (hmset a).1 (hlaw.2.mem_iff.1 ha) with ⟨ha', _⟩ | rfl
      · exact ⟨a, ha', rfl⟩
      · exact ⟨e, he, rfl⟩
  · rw [hp.len, List.length_set]; exact hlaw.1
  · rw [List.map_append, filter_view, h.view]; rfl
  · rw [List.pairwise_append]
    refine ⟨h.ord.filter _, by simp, ?_⟩
    intro a ha b hb
    simp at hb; subst hb
    have := h.bound a (List.mem_filter.1 ha).1
    show a.time < t + 1; omega
  · intro a ha
    rcases List.mem_append.1 ha with ha | ha
    · have := h.bound a (List.mem_filter.1 ha).1; omega
    · simp at ha; subst ha; exact Int.le_refl _

set_option maxRecDepth 100000 in
set_option maxHeartbeats 1000000 in
theorem set_old2 (w : World) (Q : Nat) (A : List (Int × Int)) (t : Int) (F : Nat → Prop) (h : QRep w Q A t F) (x k k0 : Int) (hx : (x, k0) ∈ A) (ht : 0 ≤ t ∧ t ≤ 1000000000000000) :
    Calls Tryz.prog 37 #[.pointer (some ⟨Q, 0, none⟩), .int .i64 x, .int .i64 k] w fun e w' => e = .returned (.tuple #[]) ∧ QRep w' Q (setA A x k) (t + 1) (fun b => F b ∧ ((∃ cs T fr, w'.heap[b]? = some (.cells cs T fr)) ∨ ∃ es c, w.heap[b]? = some (.map es c))) ∧ Keeps F w w' := by
  obtain ⟨v, Mb, l, L, E, h⟩ := h
  obtain ⟨e, he, rfl, _, h3⟩ := h.find hx
  obtain ⟨i, hi⟩ := List.mem_iff_getElem?.1 he
  have li : i < L.length := (List.getElem?_eq_some_iff.1 hi).1
  obtain ⟨H, cap, cur, hv, -⟩ := h.rep.form (by omega)
  subst hv
  have c1 := h.q.c1
  have c2 := h.q.c2
  have f2 : w.frozen? ⟨Q, 2, none⟩ = false := frozen_of_blk h.q
  have hfe : hfoot (.slice (some ⟨H, 0, none⟩) L.length cap) L e.blk := .inr ⟨e, he, rfl⟩
  have nQE : ¬ Q = e.blk := fun x => h.q.nfoot h.rep (x ▸ hfe)
  have nQE' : ¬ e.blk = Q := fun x => nQE x.symm
  have ce1 := h.rep.e1 hi
  have ce2 := h.rep.e2 hi
  have ce3 := h.rep.e3 hi
  have fe1 : w.frozen? ⟨e.blk, 1, none⟩ = false := frozen_of_blk (h.rep.ent i e hi)
  have fe2 : w.frozen? ⟨e.blk, 2, none⟩ = false := frozen_of_blk (h.rep.ent i e hi)
  have q1 : QBlk (w.setCell ⟨Q, 2, none⟩ (.int .i64 (t + 1))) Q (.slice (some ⟨H, 0, none⟩) L.length cap) (.map (some Mb)) (t + 1) := by unfold QBlk; rw [blk_set_same h.q]; rfl
  have k1 : Keeps (fun b => b = Q) w (w.setCell ⟨Q, 2, none⟩ (.int .i64 (t + 1))) := (Keeps.refl (fun b => b = Q) w).setCell (p := ⟨Q, 2, none⟩) (.inl rfl) _
  have m1 := h.mp.keeps k1 h.nM
  have r1 := h.rep.keeps k1 (fun b hb e => h.q.nfoot h.rep (e ▸ hb))
  have r2 := r1.turn hi k (t + 1)
  have k2 : Keeps (fun b => b = Q ∨ b = e.blk) w (((w.setCell ⟨Q, 2, none⟩ (.int .i64 (t + 1))).setCell ⟨e.blk, 1, none⟩ (.int .i64 k)).setCell ⟨e.blk, 2, none⟩ (.int .i64 (t + 1))) :=
    ((k1.mono (fun b _ hb => .inl hb)).setCell (p := ⟨e.blk, 1, none⟩) (.inl (.inr rfl)) _).setCell (p := ⟨e.blk, 2, none⟩) (.inl (.inr rfl)) _
  have q2 : QBlk (((w.setCell ⟨Q, 2, none⟩ (.int .i64 (t + 1))).setCell ⟨e.blk, 1, none⟩ (.int .i64 k)).setCell ⟨e.blk, 2, none⟩ (.int .i64 (t + 1))) Q (.slice (some ⟨H, 0, none⟩) L.length cap) (.map (some Mb)) (t + 1) := by
    unfold QBlk; rw [blk_set_ne nQE, blk_set_ne nQE]; exact q1
  have HM := Lib.hid m1
  have HN := Lib.hid h.nd
  have H3 := Lib.hid h3
  have H0 := Lib.hid h
  have HI := Lib.hid hi
  have R2 := Lib.hid r2
  have K2 := Lib.hid k2
  have Q2 := Lib.hid q2
  have t0 := ht.1
  have t1 := ht.2
  clear h hx m1 q1 k1 r1 r2 k2 q2 ht h3 hi he hfe
  go_enter Tryz.func37, Tryz.ntmps37
  go_wp2_with (at_lookup; refine wpList_ilookup_ok_hit rfl _ _ _ rfl Tryz.underlying113 Tryz.underlying3 HM.out HN.out e.item _ rfl rfl H3.out ?_; simp only [Ent.ptr])
  go_region_with (go_at_call 73; refine (fix_any _ Q _ _ (t + 1) _ (R2.out.drewN 1) Q2.out _ i (by rw [List.length_set]; exact li) rfl).mono ?_; rintro e' w2 ⟨rfl, hP⟩)
  have hpost := set_old_post H0.out HI.out k (K2.out.drewN 1) Q2.out hP
  have HPO := Lib.hid hpost
  clear hpost hP
  go_wp2
  refine bodyPost_ret (results_none rfl _ _ _) rfl ?_
  exact ⟨rfl, HPO.out⟩
theorem set_old (w : World) (Q : Nat) (A : List (Int × Int)) (t : Int) (F : Nat → Prop) (h : QRep w Q A t F) (x k k0 : Int) (hx : (x, k0) ∈ A) (ht : 0 ≤ t ∧ t ≤ 1000000000000000) :
    Calls Tryz.prog 37 #[.pointer (some ⟨Q, 0, none⟩), .int .i64 x, .int .i64 k] w fun e w' => e = .returned (.tuple #[]) ∧ QRep w' Q (setA A x k) (t + 1) F ∧ Keeps F w w' :=
  (set_old2 w Q A t F h x k k0 hx ht).mono fun _ _ h => ⟨h.1, h.2.1.mono (fun _ _ hb => hb.1), h.2.2⟩

end Go.Proofs.YtjcgkmodmjckjaaGreat.V

namespace Go.Proofs.YtjcgkmodmjckjaaGreat.V
open Go.RowKit

theorem step_idelete {P : Program} {ops : Array Oper} {o : Oper} {a : Act} {w : World} {K : Act → World → Prop} {Q : Exit → Act → World → Prop} {E : Prop} {k e : TypeId} {kd : IntKind} {b : Nat} {l : List (Int × Value)}
    (hg : o.guard = none) (m x : Operand) (t t2 : TypeId) (hop : o.op = Op.call { callee := Callee.builtin Builtin.delete, args := #[m, x], argTypes := #[t, t2] }) (ht : P.underlying t = some (.map k e)) (hk : P.underlying k = some (.int kd))
    (h : IMap w b kd l) (hn : (l.map Prod.fst).Nodup) (n : Int) (hm : a.eval m = .map (some b)) (hx : a.eval x = .int kd n)
    (hK : ∀ w', IMap w' b kd (l.filter fun p => p.1 != n) → Keeps (fun k => k = b) w w' → K (a.put o.dst (.tuple #[])) w') :
    if Region.wanted o (yielded ops a.tmps) = true then Oper.wp P o a w K Q else E := by
  have hw : Region.wanted o (yielded ops a.tmps) = true := by simp [Region.wanted, hg]
  rw [if_pos hw]
  obtain ⟨w', hrun, r1, r2⟩ := h.run_delete ht hk hn o.type t2 n
  unfold Oper.wp
  simp [execOp, hop, resolve, invoke, builtin, hm, hx, hrun, Result.andThen]
  exact hK w' r1 r2

def firstMin : List (Int × Int) → Option (Int × Int)
  | [] => none
  | p :: r => match firstMin r with
    | none => some p
    | some q => if q.2 < p.2 then some q else some p

theorem firstMin_none {A : List (Int × Int)} : firstMin A = none ↔ A = [] := by
  cases A with
  | nil => simp [firstMin]
  | cons p r => simp [firstMin]; split <;> (try split) <;> simp

theorem firstMin_mem {A : List (Int × Int)} {q : Int × Int} (h : firstMin A = some q) : q ∈ A := by
  induction A generalizing q with
  | nil => simp [firstMin] at h
  | cons p r ih =>
    simp only [firstMin] at h
    split at h
    · simp at h; subst h; simp
    · rename_i q' hq'
      split at h
      · simp at h; subst h; exact List.mem_cons_of_mem _ (ih hq')
      · simp at h; subst h; simp

theorem firstMin_of {E : List Ent} (ho : E.Pairwise (fun a b => a.time < b.time)) {e0 : Ent} (he : e0 ∈ E) (hm : ∀ e ∈ E, leE e0 e) : firstMin (E.map fun e => (e.item, e.key)) = some (e0.item, e0.key) := by
  induction E with
  | nil => simp at he
  | cons a r ih =>
    obtain ⟨h1, h2⟩ := List.pairwise_cons.1 ho
    simp only [List.map_cons, firstMin]
    rcases List.mem_cons.1 he with rfl | he'
    · cases hf : firstMin (r.map fun e => (e.item, e.key)) with
      | none => rfl
      | some q =>
        obtain ⟨e, he2, hq⟩ := List.mem_map.1 (firstMin_mem hf)
        have := (leE_iff _ _).1 (hm e (by simp [he2]))
        subst hq
        simp only
        rw [if_neg (by simp; omega)]
    · rw [ih h2 he' (fun e h => hm e (by simp [h]))]
      have := (leE_iff _ _).1 (hm a (by simp))
      have := h1 e0 he'
      show (if e0.key < a.key then some (e0.item, e0.key) else some (a.item, a.key)) = _
      rw [if_pos (by omega)]

/-- What a call that takes one entry out leaves. -/
theorem took_queue {w w1 w2 : World} {Q : Nat} {v v' : Value} {Mb : Nat} {l : List (Int × Value)} {L E R : List Ent} {A : List (Int × Int)} {t : Int} {F : Nat → Prop} (h : QR w Q v Mb l L E A t F) {e0 : Ent}
    (hT : TookPost w Q v (.map (some Mb)) t L R e0 w1 v') (hp : (R ++ [e0]).Perm L) (hH : Heap R R.length) (hm : IMap w2 Mb .i64 (l.filter fun p => p.1 != e0.item)) (k2 : Keeps (fun b => b = Mb) w1 w2) :
    QRep w2 Q (A.filter fun p => p.1 != e0.item) t F ∧ Keeps F w w2 := by
  have he0 : e0 ∈ L := hp.mem_iff.1 (by simp)
  have nMf := h.nMf
  have hne : ∀ a ∈ R, a.item ≠ e0.item := by
    intro a ha e
    have hn : ((R ++ [e0]).map Ent.item).Nodup := by
      have hpv : (L.map (fun e => (e.item, e.key))).Perm A := by rw [← h.view]; exact h.perm.map _
      have : ((L.map (fun e => (e.item, e.key))).map Prod.fst).Nodup := (hpv.map Prod.fst).nodup_iff.2 h.ndA
      rw [List.map_map] at this
      exact (hp.map Ent.item).nodup_iff.2 this
    rw [List.map_append, List.nodup_append] at hn
    exact hn.2.2 _ (List.mem_map.2 ⟨a, ha, rfl⟩) _ (by simp : e0.item ∈ [e0].map Ent.item) e
  have hRL : ∀ a, a ∈ R ↔ a ∈ L ∧ a.item ≠ e0.item := by
    intro a
    constructor
    · intro ha; exact ⟨hp.mem_iff.1 (by simp [ha]), hne a ha⟩
    · rintro ⟨ha, hn⟩
      have := hp.mem_iff.2 ha
      simp at this
      rcases this with h' | rfl
      · exact h'
      · exact absurd rfl hn
  have hk : Keeps F w w2 := (hT.keeps.mono (S' := F) (fun b _ hb => by rcases hb with rfl | hb; exact h.fQ; exact h.fH b hb)).trans (k2.mono (fun b _ hb => hb ▸ h.fM))
  have hperm : R.Perm (E.filter fun a => a.item != e0.item) := by
    have := ((hp.trans h.perm).filter (fun a => a.item != e0.item))
    rw [List.filter_append] at this
    have f1 : R.filter (fun a => a.item != e0.item) = R := by rw [List.filter_eq_self]; intro a ha; simpa using hne a ha
    rw [f1] at this
    simpa using this
  refine ⟨⟨v', Mb, l.filter (fun p => p.1 != e0.item), R, E.filter (fun a => a.item != e0.item), ?_⟩, hk⟩
  refine { rep := hT.rep.keeps k2 (fun b hb e => nMf (hT.sub _ (e ▸ hb))), q := k2.heap hT.q (fun e => h.nM e.symm), mp := hm, nd := (List.Sublist.map Prod.fst List.filter_sublist).nodup h.nd, mem := ?_, heap := hH, perm := hperm, view := by rw [filter_view, h.view], ord := h.ord.filter _, bound := fun a ha => h.bound a (List.mem_filter.1 ha).1, ndA := (List.Sublist.map Prod.fst List.filter_sublist).nodup h.ndA, fQ := h.fQ, fM := h.fM, fH := fun b hb => h.fH b (hT.sub b hb) }
  intro p
  rw [List.mem_filter, h.mem]
  constructor
  · rintro ⟨⟨a, ha, rfl⟩, hn⟩
    exact ⟨a, (hRL a).2 ⟨ha, by simpa using hn⟩, rfl⟩
  · rintro ⟨a, ha, rfl⟩
    obtain ⟨h1, h2⟩ := (hRL a).1 ha
    exact ⟨⟨a, h1, rfl⟩, by simpa using h2⟩

set_option maxRecDepth 100000 in
set_option maxHeartbeats 1000000 in
theorem take_some (w : World) (Q : Nat) (A : List (Int × Int)) (t : Int) (F : Nat → Prop) (h : QRep w Q A t F) (x k : Int) (hx : firstMin A = some (x, k)) :
    Calls Tryz.prog 39 #[.pointer (some ⟨Q, 0, none⟩)] w fun e w' => e = .returned (.tuple #[.int .i64 x, .int .i64 k, .bool true]) ∧ QRep w' Q (A.filter fun p => p.1 != x) t F ∧ Keeps F w w' := by
  obtain ⟨v, Mb, l, L, E, h⟩ := h
  have hA : A ≠ [] := fun e => by rw [e] at hx; simp [firstMin] at hx
  have hl := h.len
  have hpos : 0 < A.length := List.length_pos_iff.2 hA
  obtain ⟨n, hn⟩ : ∃ n, L.length = n + 1 := ⟨L.length - 1, by omega⟩
  have hH := h.heap
  rw [hn] at hH
  obtain ⟨R, hpop, hRl, hRH, hRp⟩ := popL_law hn hH
  have hmin := heap_min hH
  have h0 : at' L 0 ∈ L := at_mem (by omega)
  have hfm := firstMin_of h.ord (h.perm.mem_iff.1 h0) (fun e he => by
    obtain ⟨j, hj⟩ := List.mem_iff_getElem?.1 (h.perm.mem_iff.2 he)
    have lj : j < L.length := (List.getElem?_eq_some_iff.1 hj).1
    rw [← at_eq hj]
    exact hmin j (by omega))
  rw [h.view, hx] at hfm
  generalize at' L 0 = e0 at *
  simp only [Option.some.injEq, Prod.mk.injEq] at hfm
  obtain ⟨rfl, rfl⟩ := hfm
  obtain ⟨ao, cap, hv⟩ := h.rep.isSlice
  subst hv
  rw [hn] at h
  have c0 := h.q.c0
  have hz : (((n + 1 : Nat) : Int) == 0) = false := by simp; omega
  rw [← hRl] at hRH
  have HH := Lib.hid hRH
  have HP := Lib.hid hRp
  have HPOP := Lib.hid hpop
  have H0 := Lib.hid h
  have hta := fun w => ta_entry ⟨e0.blk, 0, none⟩ w
  clear h hx hH hmin h0 hpop hRl hRH hRp hl hn hA hpos
  go_enter Tryz.func39, Tryz.ntmps39
  go_wp2_with fail
  refine (hpop_any _ Q _ _ t L H0.out.rep H0.out.q R e0 HPOP.out).mono ?_; rintro e w1 ⟨rfl, v', hT⟩
  obtain ⟨xx, hent⟩ := hT.ent0
  have d0 : w1.cell? ⟨e0.blk, 0, none⟩ = some (.int .i64 e0.item) := by rw [cell_of_blk hent]; rfl
  have d1 : w1.cell? ⟨e0.blk, 1, none⟩ = some (.int .i64 e0.key) := by rw [cell_of_blk hent]; rfl
  have g1 := hT.q.c1
  have m1 := H0.out.mp.keeps hT.keeps (by rintro (hb | hb); exact H0.out.nM hb; exact H0.out.nMf hb)
  have nEM : e0.blk ≠ Mb := fun e => by obtain ⟨es, c, hbm, _⟩ := m1; rw [← e, hent] at hbm; simp at hbm
  have M1 := Lib.hid m1
  have HT := Lib.hid hT
  have HE := Lib.hid hent
  clear m1 hT hent
  go_wp2_with fail
  go_region_law ((refine step_idelete (by rfl) _ _ _ _ (by rfl) Tryz.underlying113 Tryz.underlying3 (M1.out.drewN 1) H0.out.nd e0.item (by rfl) (by rfl) ?_; intro w2 m2 k2))
  all_goals
    have hE2 := k2.heap (w := w1.drew) HE.out nEM
    have d0' : w2.cell? ⟨e0.blk, 0, none⟩ = some (.int .i64 e0.item) := by rw [cell_of_blk hE2]; rfl
    have d1' : w2.cell? ⟨e0.blk, 1, none⟩ = some (.int .i64 e0.key) := by rw [cell_of_blk hE2]; rfl
    have hpost := took_queue H0.out HT.out HP.out HH.out m2 (show Keeps (fun b => b = Mb) w1 w2 from ⟨k2.os, k2.tape, k2.output, k2.size, k2.block⟩)
    have HPO := Lib.hid hpost
    clear hpost m2 k2 hE2
    go_wp2
    go_quiet (fail)
    go_wp2
    go_ret3
    exact ⟨rfl, HPO.out.1.keeps ((Keeps.refl (fun _ => False) _).drewN nq) (fun _ _ h => h), HPO.out.2.drewN nq⟩

end Go.Proofs.YtjcgkmodmjckjaaGreat.V

namespace Go.Proofs.YtjcgkmodmjckjaaGreat.V
open Go.RowKit

theorem firstMin_least {A : List (Int × Int)} : ∀ {p : Int × Int}, firstMin A = some p → ∀ a ∈ A, p.2 ≤ a.2 := by
  induction A with
  | nil => intro p h; cases h
  | cons q r ih =>
    intro p h a ha
    simp only [firstMin] at h
    split at h
    · rename_i hr
      simp at h; subst h
      rw [firstMin_none.1 hr] at ha
      simp at ha; subst ha; exact Int.le_refl _
    · rename_i q' hq'
      have hi := ih hq'
      split at h
      · simp at h; subst h
        rcases List.mem_cons.1 ha with rfl | h2
        · omega
        · exact hi a h2
      · simp at h; subst h
        rcases List.mem_cons.1 ha with rfl | h2
        · exact Int.le_refl _
        · have := hi a h2; omega
theorem set_both (w : World) (Q : Nat) (A : List (Int × Int)) (t : Int) (F : Nat → Prop) (h : QRep w Q A t F) (x k : Int) (ht : 0 ≤ t ∧ t ≤ 1000000000000000) (hA : A.length ≤ 999999) :
    Calls Tryz.prog 37 #[.pointer (some ⟨Q, 0, none⟩), .int .i64 x, .int .i64 k] w fun e w' => e = .returned (.tuple #[]) ∧ ∃ F2, QRep w' Q (setA A x k) (t + 1) F2 ∧ (∀ b, F2 b → F b ∨ w.heap.size ≤ b) ∧ Keeps F w w' := by
  by_cases hm : ∃ p ∈ A, p.1 = x
  · obtain ⟨⟨x', k0⟩, hp, rfl⟩ := hm
    exact (set_old w Q A t F h x' k k0 hp ht).mono fun e w' ⟨h1, h2, h3⟩ => ⟨h1, F, h2, fun b hb => .inl hb, h3⟩
  · exact (set_new w Q A t F h x k (fun p hp e => hm ⟨p, hp, e⟩) ht hA).mono fun e w' ⟨h1, h2, h3⟩ => ⟨h1, _, h2, fun b hb => hb, h3⟩
/-- The queue's length, as its memory says. -/
def qlen (w : World) (Q : Nat) : Nat := match w.cell? ⟨Q, 0, none⟩ with
  | some (.slice _ n _) => n
  | _ => 0
theorem QRep.qlen_is {w : World} {Q : Nat} {A : List (Int × Int)} {t : Int} {F : Nat → Prop} (h : QRep w Q A t F) : qlen w Q = A.length := by
  obtain ⟨v, Mb, l, L, E, h⟩ := h
  obtain ⟨ao, cap, hv⟩ := h.rep.isSlice
  subst hv
  have c0 := h.q.c0
  unfold qlen
  rw [c0]
  exact h.len
theorem QRep.nd {w : World} {Q : Nat} {A : List (Int × Int)} {t : Int} {F : Nat → Prop} (h : QRep w Q A t F) : (A.map Prod.fst).Nodup := by
  obtain ⟨v, Mb, l, L, E, h⟩ := h
  exact h.ndA
theorem setA_len (A : List (Int × Int)) (x k : Int) : (setA A x k).length ≤ A.length + 1 := by
  unfold setA
  rw [List.length_append]
  have := List.length_filter_le (fun p : Int × Int => p.1 != x) A
  simp only [List.length_singleton]; omega
theorem mem_setA {A : List (Int × Int)} {x k : Int} {a : Int × Int} : a ∈ setA A x k ↔ (a ∈ A ∧ a.1 ≠ x) ∨ a = (x, k) := by
  unfold setA
  rw [List.mem_append, List.mem_filter]; simp
theorem filter_len {A : List (Int × Int)} (hn : (A.map Prod.fst).Nodup) {x : Int} (hx : ∃ a ∈ A, a.1 = x) : (A.filter fun a => a.1 != x).length + 1 = A.length := by
  induction A with
  | nil => obtain ⟨a, ha, _⟩ := hx; cases ha
  | cons p r ih =>
    simp only [List.map_cons, List.nodup_cons] at hn
    by_cases hp : p.1 = x
    · subst hp
      have e : r.filter (fun a => a.1 != p.1) = r := List.filter_eq_self.2 (fun a ha => by
        simp only [bne_iff_ne, ne_eq]
        exact fun e => hn.1 (by rw [← e]; exact List.mem_map.2 ⟨a, ha, rfl⟩))
      rw [List.filter_cons_of_neg (by simp), e]; rfl
    · obtain ⟨a, ha, hax⟩ := hx
      rcases List.mem_cons.1 ha with rfl | h2
      · exact absurd hax hp
      · rw [List.filter_cons_of_pos (by simpa using hp), List.length_cons, List.length_cons, ih hn.2 ⟨a, h2, hax⟩]

end Go.Proofs.YtjcgkmodmjckjaaGreat.V

namespace Go.Proofs.YtjcgkmodmjckjaaGreat
open Go.RowKit

theorem ops_cost0 {t : Tsk} (ok : t.Ok) : ∀ o ∈ wordsOf t.ops, 0 ≤ o.cost ∧ o.cost ≤ 100 := fun o ho => by
  unfold wordsOf at ho
  obtain ⟨o', ho', rfl⟩ := List.mem_map.1 ho
  exact ⟨(ok.ops o' ho').cost0, (ok.ops o' ho').cost1⟩

end Go.Proofs.YtjcgkmodmjckjaaGreat

namespace Go.Proofs.YtjcgkmodmjckjaaGreat
open Go.RowKit

theorem reach_path {ops : List Wop} {s x : Nat} (h : Reach ops s x) : ∃ q, runOps ops s q = some x := by
  induction h with
  | refl => exact ⟨[], rfl⟩
  | step _ hy ih =>
    obtain ⟨q, hq⟩ := ih
    obtain ⟨o, ho, rfl⟩ := List.mem_map.1 hy
    obtain ⟨ho, hc⟩ := List.mem_filter.1 ho
    obtain ⟨k, hk⟩ := List.mem_iff_getElem?.1 ho
    exact ⟨q ++ [k], runOps_snoc' hq hk hc⟩
section
variable {w : World} {vi vg vo vs : Value} {t : Tsk}
end

end Go.Proofs.YtjcgkmodmjckjaaGreat

namespace Go.Proofs.YtjcgkmodmjckjaaGreat
open Go.RowKit

/-- What BestPlans hands back for the least price b, or -1. -/
def bestV (b : Int) : Value := if b < 0 then .tuple #[.int .i64 0, .int .i64 0, .bool false] else .tuple #[.int .i64 (b / 4096), .int .i64 (b % 4096), .bool true]
/-- The least price of a plan of the task. -/
def BestT (t : Tsk) (b : Int) : Prop := LeastOf 4096 1 (wordsOf t.ops) (wd t.init) (goalB (wd t.goal)) b
theorem best_small {t : Tsk} (ok : t.Ok) {l : List Nat} (hx : explored t = some l) {b : Int} (h : BestT t b) : -1 ≤ b ∧ b ≤ 1000000000 := by
  rcases h with ⟨h1, _⟩ | ⟨h1, ⟨p, y, hp, hy, _⟩, h3⟩
  · omega
  · obtain ⟨_, _, _, hsh, hfew, _, _, n8⟩ := costs_need ok hx (List.Perm.refl l)
    have hr := (reached_some (ops := wordsOf t.ops) (s := wd t.init) (l := l) hx).2.2.2
    obtain ⟨q, h4, h5, h6⟩ := short_run (L := l) (ops_cost0 ok) (fun p z hz => (hr z).2 (reach_run p .refl hz)) p.length (Nat.le_refl _) hp
    have := h3 q y h4 hy
    have h7 := (costN_bound (ops_cost0 ok) q).2
    rw [wayN_split] at this
    omega

set_option maxRecDepth 100000 in
set_option maxHeartbeats 4000000 in
theorem bestPlans_any (w : World) (vi vg vo : Value) (t : Tsk) {l : List Nat} (h : TaskAt w vi vg vo t) (ok : t.Ok) (hx : explored t = some l) :
    Calls Tryz.prog 44 #[.agg #[.int .i64 t.n, vi, vg, vo]] w fun e w' => ∃ b, e = .returned (bestV b) ∧ BestT t b ∧ Keeps (fun _ => False) w w' := by
  obtain ⟨ai, ci, h1, _⟩ := h.init.form
  obtain ⟨ag, cg, h2, _⟩ := h.goal.form
  obtain ⟨ao, co, h3, hmo⟩ := h.ops.form
  subst h1 h2 h3
  have HB := Lib.hid (Four.new w (.int .i64 t.n) (.slice ai t.init.length ci) (.slice ag t.goal.length cg) (.slice ao t.ops.length co) 25)
  have K1 := (Keeps.refl (fun _ => False) w).alloc (.cells #[.int .i64 t.n, .slice ai t.init.length ci, .slice ag t.goal.length cg, .slice ao t.ops.length co] 25)
  have HT := Lib.hid (h.keeps0 K1); have HK := Lib.hid K1
  have OK := Lib.hid ok; have HX := Lib.hid hx
  obtain ⟨_, _, _, hsh, hfew, _, _, n8⟩ := costs_need ok hx (List.Perm.refl l)
  have hrs := reached_some (ops := wordsOf t.ops) (s := wd t.init) (l := l) hx
  have HSH := Lib.hid hsh; have HR := Lib.hid hrs.2.2.2; have H0 := Lib.hid hrs.2.2.1
  have HG := Lib.hid (show ∀ x ∈ l, Good t.n x from fun x h => good_reach ok (good_wd (by have := ok.n1; omega) ok.init) ((hrs.2.2.2 x).1 h))
  have HAR := Lib.hid (show ∀ a ∈ arcs (wordsOf t.ops) l, a.frm < l.length ∧ a.to < l.length ∧ 0 ≤ a.cost ∧ a.cost ≤ 100 from fun a ha => by
    obtain ⟨x, o, g1, g2, g3, g4, g5⟩ := mem_arcs.1 ha
    have := ops_cost0 ok o (List.mem_of_getElem? g2)
    rw [g4]
    exact ⟨(List.getElem?_eq_some_iff.1 g1).1, (List.getElem?_eq_some_iff.1 g5).1, this⟩)
  have hl0 : 0 < l.length := List.length_pos_of_mem n8
  clear h K1 ok hx hsh n8 hrs
  go_enter Tryz.func44, Tryz.ntmps44
  go_upto_region 1 with fail
  generalize (w.alloc (.cells #[.int .i64 t.n, .slice ai t.init.length ci, .slice ag t.goal.length cg, .slice ao t.ops.length co] 25)) = w1 at HB HT HK ⊢
  generalize w.heap.size = bt at HB ⊢
  have hbx := HB.out.lt
  obtain ⟨d0, d1, d2, d3⟩ := HB.out
  go_wp2_with fail
  refine (reached_any _ _ _ _ t HT.out OK.out).mono ?_; rintro e w2 ⟨hk, hr⟩
  rcases hr with ⟨hn, _⟩ | ⟨l', hl', v, vw, vs, rfl, hrows⟩
  · exact absurd (hn.symm.trans HX.out) (by simp)
  obtain rfl : l = l' := by have := hl'.symm.trans HX.out; cases this; rfl
  have hli := hrows.lists
  obtain ⟨a5, c5, hv5, _⟩ := hli.form
  rw [List.length_map] at hv5
  subst hv5
  have HL2 := Lib.hid hli; have HB2 := Lib.hid (HB.out.keeps0 hk); have HT2 := Lib.hid (HT.out.keeps0 hk); have K2 := Lib.hid (HK.out.trans hk)
  clear hk hl' hrows hli d0 d1 d2 d3 hbx HB HT HK
  have hbx := HB2.out.lt
  obtain ⟨d0, d1, d2, d3⟩ := HB2.out
  go_wp2_with fail
  refine (arcs_any _ _ _ _ _ t l HT2.out OK.out HL2.out HG.out hfew).mono ?_; rintro e w3 ⟨va, rfl, hoa, hk⟩
  obtain ⟨aa, ca, haa⟩ := ownsRow_formS hoa
  subst haa
  have HA3 := Lib.hid hoa.at
  have HL3 := Lib.hid (HL2.out.keeps0 hk); have HB3 := Lib.hid (HB2.out.keeps0 hk); have HT3 := Lib.hid (HT2.out.keeps0 hk); have K3 := Lib.hid (K2.out.trans hk)
  clear hk hoa d0 d1 d2 d3 hbx HB2 HT2 K2 HL2
  go_wp2_with fail
  refine (prices_any _ _ _ (l.map facts) (arcs (wordsOf t.ops) l) 0 4096 1 HL3.out HA3.out (by rw [List.length_map]; omega) (by rw [List.length_map]; exact hl0) (by rw [List.length_map]; exact HAR.out) (by decide) (by decide) (by decide) (by decide)).mono ?_; rintro e w4 ⟨vp, d, rfl, hpo, hown, hk⟩
  rw [List.length_map] at hpo hown
  have HPO := Lib.hid hpo
  have hpl : d.length = l.length := hpo.len
  rw [← hpl] at hown
  obtain ⟨ap, cp, hv⟩ := ownsRow_form1 hown
  have HP4 := Lib.hid (Ints.of_own hown)
  rw [hpl] at hv
  subst hv
  have HL4 := Lib.hid (HL3.out.keeps0 hk); have HB4 := Lib.hid (HB3.out.keeps0 hk); have HT4 := Lib.hid (HT3.out.keeps0 hk); have K4 := Lib.hid (K3.out.trans hk)
  clear hk hown hpo HB3 HT3 K3 HL3 HA3
  have hbx := HB4.out.lt
  obtain ⟨d0, d1, d2, d3⟩ := HB4.out
  go_wp2_with fail
  refine (goals_any _ _ _ _ _ t l HT4.out HL4.out hfew).mono ?_; rintro e w5 ⟨vb, rfl, hob, hk⟩
  obtain ⟨ab, cb, hab⟩ := ownsRow_form1 hob
  subst hab
  have HO5 := Lib.hid (show Bools w5 (.slice ab l.length cb) (l.map (goalB (wd t.goal))) by rw [← goals_eq OK.out HG.out]; unfold Bools; rw [List.length_map]; exact Sl.of_own hob)
  have HP5 := Lib.hid (HP4.out.keeps0 hk); have K5 := Lib.hid (K4.out.trans hk)
  clear hk hob d0 d1 d2 d3 hbx HB4 HT4 K4 HL4 HP4
  have HCP := Lib.hid (HP5.out.cell (show Value.slice ap l.length cp = .slice ap l.length cp from rfl))
  have HCB := Lib.hid (Sl.cellN HO5.out rfl)
  have HLEN := Lib.hid hpl
  have HGL := Lib.hid (show (l.map (goalB (wd t.goal))).length = l.length from List.length_map _)
  go_wp2_with fail
  go_loopw [9, 10] (fun v9 v10 wr => ∃ i : Nat, i ≤ l.length ∧ v10 = .int .i64 (i : Int) ∧ v9 = .int .i64 (bestTo d (l.map (goalB (wd t.goal))) i) ∧ Keeps (fun _ => False) w5 wr) (fun _ v10 _ => l.length - (intOf v10).toNat)
  case atStart => exact ⟨0, Nat.zero_le _, rfl, rfl, Keeps.refl _ _⟩
  case round =>
    obtain ⟨i, hi, rfl, rfl, hkr⟩ := hrel
    have HKR := Lib.hid hkr
    clear hkr
    by_cases hlt : i < l.length
    · obtain ⟨x, hx⟩ : ∃ x, l[i]? = some x := ⟨_, List.getElem?_eq_getElem hlt⟩
      obtain ⟨z, hz⟩ : ∃ z, d[i]? = some z := ⟨_, List.getElem?_eq_getElem (by omega)⟩
      obtain ⟨bp, op, rfl, hpc⟩ := HCP.out (by omega)
      obtain ⟨bb, ob, rfl, hbc⟩ := HCB.out (by rw [HGL.out]; omega)
      have q1 := HKR.out.cell (hpc i z hz) (fun h => h)
      have hgi : (l.map (goalB (wd t.goal)))[i]? = some (goalB (wd t.goal) x) := by rw [List.getElem?_map, hx]; rfl
      have q2 := HKR.out.cell (hbc i (.bool (goalB (wd t.goal) x)) (by rw [List.getElem?_map, hgi]; rfl)) (fun h => h)
      have HN := Lib.hid (show bestTo d (l.map (goalB (wd t.goal))) (i + 1) = if goalB (wd t.goal) x = true ∧ (bestTo d (l.map (goalB (wd t.goal))) i < 0 ∨ z < bestTo d (l.map (goalB (wd t.goal))) i) then z else bestTo d (l.map (goalB (wd t.goal))) i by
        rw [bestTo, hgi, hz]; simp)
      clear hpc hbc hgi hz hx
      generalize hbt : bestTo d (l.map (goalB (wd t.goal))) i = b at HN ⊢
      have hilt : (i : Int) < (l.length : Int) := by omega
      cases hg : goalB (wd t.goal) x with
      | false =>
        rw [hg] at q2
        have HE := Lib.hid (show bestTo d (l.map (goalB (wd t.goal))) (i + 1) = b by rw [HN.out, hg]; simp)
        clear hg HN hbt
        go_wp2_with fail
        go_roundw
        case rel => exact ⟨i + 1, by omega, by go_num, by rw [HE.out], HKR.out⟩
        case measure => simp [intOf]; omega
      | true =>
        rw [hg] at q2
        by_cases hb0 : b < 0
        · have hb1 : decide (b < 0) = true := by simpa using hb0
          have HE := Lib.hid (show bestTo d (l.map (goalB (wd t.goal))) (i + 1) = z by rw [HN.out, hg, if_pos ⟨rfl, .inl hb0⟩])
          clear hg HN hbt hb0
          go_wp2_with fail
          go_roundw
          case rel => exact ⟨i + 1, by omega, by go_num, by rw [HE.out], HKR.out⟩
          case measure => simp [intOf]; omega
        · have hb1 : decide (b < 0) = false := by simpa using hb0
          by_cases hzb : z < b
          · have hb2 : decide (z < b) = true := by simpa using hzb
            have HE := Lib.hid (show bestTo d (l.map (goalB (wd t.goal))) (i + 1) = z by rw [HN.out, hg, if_pos ⟨rfl, .inr hzb⟩])
            clear hg HN hbt hb0 hzb
            go_wp2_with fail
            go_roundw
            case rel => exact ⟨i + 1, by omega, by go_num, by rw [HE.out], HKR.out⟩
            case measure => simp [intOf]; omega
          · have hb2 : decide (z < b) = false := by simpa using hzb
            have HE := Lib.hid (show bestTo d (l.map (goalB (wd t.goal))) (i + 1) = b by rw [HN.out, hg, if_neg (fun e => by rcases e.2 with e | e <;> omega)])
            clear hg HN hbt hb0 hzb
            go_wp2_with fail
            go_roundw
            case rel => exact ⟨i + 1, by omega, by go_num, by rw [HE.out], HKR.out⟩
            case measure => simp [intOf]; omega
    · obtain rfl : i = l.length := by omega
      have HBT := Lib.hid (show BestT t (bestTo d (l.map (goalB (wd t.goal))) l.length) from best_of_prices HSH.out (fun x hx => reach_path ((HR.out x).1 hx)) H0.out (fun a ha => by have := (HAR.out a ha).2.2.1; omega) HPO.out (goalB (wd t.goal)))
      obtain ⟨hb1, hb2⟩ := best_small OK.out HX.out HBT.out
      generalize bestTo d (l.map (goalB (wd t.goal))) l.length = b at HBT hb1 hb2 ⊢
      by_cases hb0 : b < 0
      · have hb3 : decide (b < 0) = true := by simpa using hb0
        go_wp2_with fail
        go_ret3
        have ev : bestV b = .tuple #[.int .i64 0, .int .i64 0, .bool false] := by unfold bestV; rw [if_pos (by omega)]
        exact ⟨b, by rw [ev]; rfl, HBT.out, K5.out.trans HKR.out⟩
      · have hb3 : decide (b < 0) = false := by simpa using hb0
        have e1 : Int.tdiv b 4096 = b / 4096 := Int.tdiv_eq_ediv_of_nonneg (by omega)
        have e2 : Int.tmod b 4096 = b % 4096 := Int.tmod_eq_emod_of_nonneg (by omega)
        go_wp2_with fail
        go_ret3
        have ev : bestV b = .tuple #[.int .i64 (b / 4096), .int .i64 (b % 4096), .bool true] := by unfold bestV; rw [if_neg (by omega)]
        exact ⟨b, by rw [ev]; rfl, HBT.out, K5.out.trans HKR.out⟩

end Go.Proofs.YtjcgkmodmjckjaaGreat

namespace Go.Proofs.YtjcgkmodmjckjaaGreat
open Go.RowKit

/-- The steps of a best plan with the least price b. -/
def stepsB (b : Int) : Int := if b < 0 then 0 else b % 4096
/-- What BestFault hands back. -/
def BestFl (t : Tsk) (c i : Int) : Prop := (c ≠ 0 ∧ expF t = (c, i)) ∨ (t.Ok ∧ expF t = (0, 0) ∧ ∃ l b, explored t = some l ∧ BestT t b ∧ ((60 < stepsB b ∧ c = 10 ∧ i = -9) ∨ (stepsB b ≤ 60 ∧ c = 0 ∧ i = 0)))

set_option maxRecDepth 100000 in
set_option maxHeartbeats 2000000 in
theorem bestFault_any (w : World) (vi vg vo : Value) (t : Tsk) (h : TaskAt w vi vg vo t) :
    Calls Tryz.prog 15 #[.agg #[.int .i64 t.n, vi, vg, vo]] w fun e w' => ∃ c i, e = .returned (.agg #[.int .i64 c, .int .i64 i]) ∧ BestFl t c i ∧ Keeps (fun _ => False) w w' := by
  obtain ⟨ai, ci, h1, _⟩ := h.init.form
  obtain ⟨ag, cg, h2, _⟩ := h.goal.form
  obtain ⟨ao, co, h3, hmo⟩ := h.ops.form
  subst h1 h2 h3
  have K1 := (Keeps.refl (fun _ => False) w).alloc (.cells #[.int .i64 t.n, .slice ai t.init.length ci, .slice ag t.goal.length cg, .slice ao t.ops.length co] 25)
  have HT := h.keeps0 (K1.alloc (.cells #[.int .i64 0, .int .i64 0] 29))
  have HB := (Four.new w (.int .i64 t.n) (.slice ai t.init.length ci) (.slice ag t.goal.length cg) (.slice ao t.ops.length co) 25).keeps0 ((Keeps.refl _ _).alloc (.cells #[.int .i64 0, .int .i64 0] 29))
  have HF : Flt w ((w.alloc (.cells #[.int .i64 t.n, .slice ai t.init.length ci, .slice ag t.goal.length cg, .slice ao t.ops.length co] 25)).alloc (.cells #[.int .i64 0, .int .i64 0] 29)) (w.heap.size + 1) 29 :=
    ⟨by have := heap_alloc_new (w.alloc (.cells #[.int .i64 t.n, .slice ai t.init.length ci, .slice ag t.goal.length cg, .slice ao t.ops.length co] 25)) (.cells #[.int .i64 0, .int .i64 0] 29); rwa [World.size_alloc] at this, by omega, K1.alloc _⟩
  replace HT := Lib.hid HT; replace HB := Lib.hid HB; replace HF := Lib.hid HF
  clear h K1
  go_enter Tryz.func15, Tryz.ntmps15
  go_upto_region 1 with fail
  generalize ((w.alloc (.cells #[.int .i64 t.n, .slice ai t.init.length ci, .slice ag t.goal.length cg, .slice ao t.ops.length co] 25)).alloc (.cells #[.int .i64 0, .int .i64 0] 29)) = w1 at HT HB HF ⊢
  have hbx := HB.out.lt
  obtain ⟨d0, d1, d2, d3⟩ := HB.out
  go_wp2_with fail
  refine (explored_any _ _ _ _ t HT.out).mono ?_; rintro e w2 ⟨rfl, hk⟩
  generalize hfe : expF t = f
  have HFE := Lib.hid hfe
  have KA := (Keeps.refl (fun _ => False) w2).alloc (.cells #[.int .i64 f.1, .int .i64 f.2] 29)
  have HB3 := Lib.hid (HB.out.keeps0 (hk.trans KA)); have HT3 := Lib.hid (HT.out.keeps0 (hk.trans KA)); have HF3 := Lib.hid (HF.out.keeps0 (hk.trans KA))
  have F0 := Lib.hid (heap_alloc_new w2 (.cells #[.int .i64 f.1, .int .i64 f.2] 29))
  have hlt2 : w.heap.size + 1 < w2.heap.size := Nat.lt_of_lt_of_le HF.out.cells.2.2.2.2 hk.size
  clear d0 d1 d2 d3 hbx hk KA hfe HB HT HF
  go_upto_region 2 with fail
  generalize w2.alloc (.cells #[.int .i64 f.1, .int .i64 f.2] 29) = w3 at HB3 HT3 HF3 F0 ⊢
  generalize w2.heap.size = b3 at F0 hlt2 ⊢
  obtain ⟨p0, p1, _, _, pl⟩ := pair_cells F0.out
  by_cases hc : f.1 = 0
  · have hq : (f.1 != 0) = false := by simpa using hc
    rcases exp_cases t with ⟨c, i, hcc, he⟩ | ⟨hok, l, hx, he⟩
    · rw [HFE.out] at he; rw [he] at hc; exact absurd hc hcc
    have OK := Lib.hid hok; have HX := Lib.hid hx; have HE := Lib.hid he
    clear hok hx he hc
    have hbx := HB3.out.lt
    obtain ⟨d0, d1, d2, d3⟩ := HB3.out
    go_wp2_with fail
    refine (bestPlans_any _ _ _ _ t HT3.out OK.out HX.out).mono ?_; rintro e w4 ⟨b, rfl, hb, hk⟩
    obtain ⟨hb1, hb2⟩ := best_small OK.out HX.out hb
    have HBT := Lib.hid hb
    have HF4 := Lib.hid (HF3.out.keeps0 hk)
    obtain ⟨ok, bv⟩ : ∃ ok cc, bestV b = .tuple #[.int .i64 cc, .int .i64 (stepsB b), .bool ok] := by
      unfold bestV stepsB
      by_cases h0 : b < 0
      · rw [if_pos h0, if_pos h0]; exact ⟨_, _, rfl⟩
      · rw [if_neg h0, if_neg h0]; exact ⟨_, _, rfl⟩
    obtain ⟨cc, bv⟩ := bv
    rw [bv]
    have F4 := hk.heap F0.out (fun h => h)
    clear p0 p1 pl d0 d1 d2 d3 hbx hb bv hk
    obtain ⟨p0, p1, _, _, pl⟩ := pair_cells F4
    obtain ⟨e0, e1, z0, z1, hF⟩ := HF4.out.cells
    have hsb : stepsB b < 5000 ∧ 0 ≤ stepsB b := by unfold stepsB; split <;> omega
    by_cases h60 : 60 < stepsB b
    · have q : decide (60 < stepsB b) = true := by simpa using h60
      have H6 := Lib.hid h60
      generalize hsv : stepsB b = sv at q hsb ⊢
      clear h60
      go_wp2_with fail
      refine (at_any _ _ _).mono ?_; rintro e w5 ⟨rfl, hk5⟩
      have HF5 := Lib.hid (HF4.out.keeps0 hk5)
      clear e0 e1 z0 z1 hF hk5
      obtain ⟨e0, e1, z0, z1, hF⟩ := HF5.out.cells
      go_wp2_with fail
      refine bodyPost_ret (results_cell_row rfl _ _ (w.heap.size + 1) 29 _ (0, 0) _ rfl (HF5.out.set (.int .i64 10) (.int .i64 (-9))).1 Tryz.underlying29 rfl (by kernel_rfl)) rfl ?_
      exact ⟨10, -9, rfl, .inr ⟨OK.out, HE.out, l, b, HX.out, HBT.out, .inl ⟨H6.out, rfl, rfl⟩⟩, (HF5.out.set _ _).2⟩
    · have q : decide (60 < stepsB b) = false := by simpa using h60
      have H6 := Lib.hid (show stepsB b ≤ 60 by omega)
      have hf12 : f.1 = 0 ∧ f.2 = 0 := by have := HFE.out.symm.trans HE.out; rw [this]; exact ⟨rfl, rfl⟩
      rw [hf12.1] at p0; rw [hf12.2] at p1
      generalize hsv : stepsB b = sv at q hsb ⊢
      clear h60
      go_wp2_with fail
      refine bodyPost_ret (results_cell_row rfl _ _ (w.heap.size + 1) 29 _ (0, 0) _ rfl (HF4.out.set (.int .i64 0) (.int .i64 0)).1 Tryz.underlying29 rfl (by kernel_rfl)) rfl ?_
      exact ⟨0, 0, rfl, .inr ⟨OK.out, HE.out, l, b, HX.out, HBT.out, .inr ⟨H6.out, rfl, rfl⟩⟩, (HF4.out.set _ _).2⟩
  · have hq : (f.1 != 0) = true := by simpa using hc
    have HC := Lib.hid hc
    clear hc
    obtain ⟨e0, e1, z0, z1, hF⟩ := HF3.out.cells
    go_wp2_with fail
    refine bodyPost_ret (results_cell_row rfl _ _ (w.heap.size + 1) 29 _ (0, 0) _ rfl (HF3.out.set (.int .i64 f.1) (.int .i64 f.2)).1 Tryz.underlying29 rfl (by kernel_rfl)) rfl ?_
    exact ⟨f.1, f.2, rfl, .inl ⟨HC.out, HFE.out⟩, (HF3.out.set _ _).2⟩

end Go.Proofs.YtjcgkmodmjckjaaGreat

namespace Go.Proofs.YtjcgkmodmjckjaaGreat
open Go.RowKit

/-- What a search hands back whose plans are best, where b is the least price. -/
structure BPlanG (t : Tsk) (l : List Nat) (b : Int) (fnd : Bool) (lp : List Int) (c n : Int) : Prop where
  n : 0 ≤ n ∧ n ≤ (l.length : Int)
  none_ : b < 0 → fnd = false ∧ lp = [] ∧ c = 0
  some_ : 0 ≤ b → fnd = true ∧ ∃ q y, lp = intsP q ∧ runOps (wordsOf t.ops) (wd t.init) q = some y ∧ goalB (wd t.goal) y = true ∧ (q.length : Int) = b % 4096 ∧ costN (wordsOf t.ops) q = b / 4096 ∧ c = costL t lp

def BPlanIs (t : Tsk) (fnd : Bool) (lp : List Int) (c n fc fi : Int) : Prop :=
  (fc ≠ 0 ∧ expF t = (fc, fi) ∧ fnd = false ∧ lp = [] ∧ c = 0 ∧ n = 0) ∨
  (expF t = (0, 0) ∧ t.Ok ∧ ∃ l b, explored t = some l ∧ BestT t b ∧ ((60 < stepsB b ∧ fc = 10 ∧ fi = -9 ∧ fnd = false ∧ lp = [] ∧ c = 0 ∧ n = 0) ∨ (stepsB b ≤ 60 ∧ fc = 0 ∧ fi = 0 ∧ BPlanG t l b fnd lp c n)))
theorem expF_bad {t : Tsk} (h : (taskFault t).1 ≠ 0) : expF t = taskFault t := by unfold expF; rw [if_neg h]
theorem expF_many {t : Tsk} (ok : t.Ok) (h : explored t = none) : expF t = (10, -7) := by unfold expF; rw [if_pos (taskFault_zero.2 ok), h]
theorem expF_ok {t : Tsk} (ok : t.Ok) {l : List Nat} (h : explored t = some l) : expF t = (0, 0) := by unfold expF; rw [if_pos (taskFault_zero.2 ok), h]

/-- No plan is found. -/
theorem bplan_none {t : Tsk} (ok : t.Ok) {l : List Nat} (hx : explored t = some l) (hb : BestT t (-1)) {n : Int} (hn : 0 ≤ n ∧ n ≤ (l.length : Int)) : BPlanIs t false [] 0 n 0 0 :=
  .inr ⟨expF_ok ok hx, ok, l, -1, hx, hb, .inr ⟨by decide, rfl, rfl, hn, fun _ => ⟨rfl, rfl, rfl⟩, fun h => absurd h (by decide)⟩⟩
/-- A plan q is found. -/
theorem bplan_short {t : Tsk} (ok : t.Ok) {l : List Nat} (hx : explored t = some l) {b : Int} (hb : BestT t b) (h0 : 0 ≤ b) {q : List Nat} {y : Nat} (hr : runOps (wordsOf t.ops) (wd t.init) q = some y) (ha : goalB (wd t.goal) y = true) (hl : (q.length : Int) = b % 4096) (hc : costN (wordsOf t.ops) q = b / 4096) (h60 : q.length ≤ 60) {n : Int} (hn : 0 ≤ n ∧ n ≤ (l.length : Int)) :
    BPlanIs t true (intsP q) (costL t (intsP q)) n 0 0 :=
  .inr ⟨expF_ok ok hx, ok, l, b, hx, hb, .inr ⟨by unfold stepsB; rw [if_neg (by omega)]; omega, rfl, rfl, hn, fun h => absurd h (by omega), fun _ => ⟨rfl, q, y, rfl, hr, ha, hl, hc, rfl⟩⟩⟩
theorem bplan_long {t : Tsk} (ok : t.Ok) {l : List Nat} (hx : explored t = some l) {b : Int} (hb : BestT t b) (h0 : 0 ≤ b) {q : List Nat} (hl : (q.length : Int) = b % 4096) (h60 : 60 < q.length) : BPlanIs t false [] 0 0 10 (-9) :=
  .inr ⟨expF_ok ok hx, ok, l, b, hx, hb, .inl ⟨by unfold stepsB; rw [if_neg (by omega)]; omega, rfl, rfl, rfl, rfl, rfl, rfl⟩⟩

end Go.Proofs.YtjcgkmodmjckjaaGreat

namespace Go.Proofs.YtjcgkmodmjckjaaGreat
open Go.RowKit

/-- The sets, the two maps and the queue. -/
structure PlM (w0 w : World) (ss sb L : Nat) (n : Int) (vi vg vo : Value) (gk : Nat) (N : List Dn) (G : Nat → Prop) (wb db Q : Nat) (W D : Nat → Option Nat) (A : List (Int × Int)) (t : Int) (F : Nat → Prop) : Prop where
  st : StS w0 w ss sb L N G n vi vg vo gk
  wm : DmS w wb W G
  dm : DmS w db D G
  ne : wb ≠ db
  q : V.QRep w Q A t F
  qf : ∀ k, F k → w0.heap.size ≤ k ∧ k < w.heap.size ∧ ¬ G k ∧ k ≠ wb ∧ k ≠ db ∧ k ≠ ss
  lo : w0.heap.size ≤ wb ∧ w0.heap.size ≤ db
section
variable {w0 w w' : World} {ss sb L : Nat} {n : Int} {vi vg vo : Value} {gk : Nat} {N N' : List Dn} {G G' : Nat → Prop} {wb db Q : Nat} {W D W' D' : Nat → Option Nat} {A A' : List (Int × Int)} {t t' : Int} {F F' : Nat → Prop}
theorem PlM.opS (h : PlM w0 w ss sb L n vi vg vo gk N G wb db Q W D A t F) (hs : StS w0 w' ss sb L N' G' n vi vg vo gk) (hk : Keeps G w w') (hn : ∀ q, G' q → G q ∨ w.heap.size ≤ q) : PlM w0 w' ss sb L n vi vg vo gk N' G' wb db Q W D A t F :=
  ⟨hs, h.wm.op hk hn, h.dm.op hk hn, h.ne, h.q.keeps hk (fun b hb => (h.qf b hb).2.2.1), fun k hF => by
    obtain ⟨h1, h2, h3, h4⟩ := h.qf k hF
    exact ⟨h1, Nat.lt_of_lt_of_le h2 hk.size, fun hg => (hn k hg).elim h3 (fun hs => by omega), h4⟩, h.lo⟩
theorem PlM.op (h : PlM w0 w ss sb L n vi vg vo gk N G wb db Q W D A t F) (hd : Dg w' sb L N' G') (hk : Keeps G w w') (hn : ∀ q, G' q → G q ∨ w.heap.size ≤ q) : PlM w0 w' ss sb L n vi vg vo gk N' G' wb db Q W D A t F := h.opS (h.st.op hd hk hn) hk hn
theorem PlM.keeps0 (h : PlM w0 w ss sb L n vi vg vo gk N G wb db Q W D A t F) (hk : Keeps (fun _ => False) w w') : PlM w0 w' ss sb L n vi vg vo gk N G wb db Q W D A t F :=
  ⟨h.st.keeps0 hk, h.wm.keeps0 hk, h.dm.keeps0 hk, h.ne, h.q.keeps hk (fun _ _ h => h), fun k hF => by
    obtain ⟨h1, h2, h3⟩ := h.qf k hF
    exact ⟨h1, Nat.lt_of_lt_of_le h2 hk.size, h3⟩, h.lo⟩
/-- The sets stay where a block that is none of theirs, and newer than w0, has changed. -/
theorem StS.other {S : Nat → Prop} (h : StS w0 w ss sb L N G n vi vg vo gk) (hk : Keeps S w w') (h1 : ∀ k, S k → w0.heap.size ≤ k ∧ ¬ G k ∧ k ≠ ss) : StS w0 w' ss sb L N G n vi vg vo gk :=
  ⟨hk.heap h.blk (fun e => (h1 _ e).2.2 rfl), h.dg.keeps hk (fun k e => (h1 k e).2.1), h.sep, h.k0.trans' hk (fun i hi => .inr (h1 i hi).1), h.gb⟩
theorem PlM.nss (h : PlM w0 w ss sb L n vi vg vo gk N G wb db Q W D A t F) : wb ≠ ss ∧ db ≠ ss := ⟨h.wm.1.ne_cells h.st.blk, h.dm.1.ne_cells h.st.blk⟩
theorem PlM.putW (h : PlM w0 w ss sb L n vi vg vo gk N G wb db Q W D A t F) (hm : NMap w' wb natV W') (hk : Keeps (fun j => j = wb) w w') : PlM w0 w' ss sb L n vi vg vo gk N G wb db Q W' D A t F :=
  ⟨h.st.other hk (fun k e => by subst e; exact ⟨h.lo.1, h.wm.2, h.nss.1⟩), ⟨hm, h.wm.2⟩, h.dm.keeps hk (fun e => h.ne e.symm), h.ne, h.q.keeps hk (fun b hb e => (h.qf b hb).2.2.2.1 e), fun k hF => by
    obtain ⟨h1, h2, h3⟩ := h.qf k hF
    exact ⟨h1, Nat.lt_of_lt_of_le h2 hk.size, h3⟩, h.lo⟩
theorem PlM.putD (h : PlM w0 w ss sb L n vi vg vo gk N G wb db Q W D A t F) (hm : NMap w' db natV D') (hk : Keeps (fun j => j = db) w w') : PlM w0 w' ss sb L n vi vg vo gk N G wb db Q W D' A t F :=
  ⟨h.st.other hk (fun k e => by subst e; exact ⟨h.lo.2, h.dm.2, h.nss.2⟩), h.wm.keeps hk (fun e => h.ne e), ⟨hm, h.dm.2⟩, h.ne, h.q.keeps hk (fun b hb e => (h.qf b hb).2.2.2.2.1 e), fun k hF => by
    obtain ⟨h1, h2, h3⟩ := h.qf k hF
    exact ⟨h1, Nat.lt_of_lt_of_le h2 hk.size, h3⟩, h.lo⟩
theorem PlM.queue (h : PlM w0 w ss sb L n vi vg vo gk N G wb db Q W D A t F) (hq : V.QRep w' Q A' t' F') (hF : ∀ b, F' b → F b ∨ w.heap.size ≤ b) (hk : Keeps F w w') : PlM w0 w' ss sb L n vi vg vo gk N G wb db Q W D A' t' (fun k => F' k ∧ k < w'.heap.size) :=
  ⟨h.st.other hk (fun k e => ⟨(h.qf k e).1, (h.qf k e).2.2.1, (h.qf k e).2.2.2.2.2⟩), h.wm.keeps hk (fun e => (h.qf _ e).2.2.2.1 rfl), h.dm.keeps hk (fun e => (h.qf _ e).2.2.2.2.1 rfl), h.ne, hq.mono (fun b h1 h2 => ⟨h2, h1⟩), fun k hk' => by
    rcases hF k hk'.1 with h1 | h1
    · obtain ⟨g1, g2, g3⟩ := h.qf k h1
      exact ⟨g1, hk'.2, g3⟩
    · have h2 := h.st.k0.size
      have h3 := h.wm.1.lt
      have h4 := h.dm.1.lt
      have h5 := lt_of_heap h.st.blk
      exact ⟨by omega, hk'.2, fun hg => by have := h.st.dg.bnd k hg; omega, by omega, by omega, by omega⟩, h.lo⟩
end

/-- What a map of nodes says at a price. -/
def mapS (N : List Dn) (W : Nat → Option Nat) (p m : Nat) : Bool := dv N ((W p).getD 0) m
theorem mapS_le {L : Nat} {N N' : List Dn} {W : Nat → Option Nat} (hw : ∀ p k, W p = some k → k < N.length + 2) (ok : DgOk L N) (hl : DgLe N N') : mapS N' W = mapS N W := by
  funext p m
  unfold mapS
  refine hl.dv ok ?_ m
  cases h : W p with
  | none => simp
  | some k => simp only [Option.getD_some]; exact hw p k h
theorem mapS_put {N : List Dn} {W : Nat → Option Nat} {x k : Nat} : mapS N (putP W x k) x = dv N k := by
  funext m; unfold mapS; rw [putP_same]; rfl
theorem mapS_put_ne {N : List Dn} {W : Nat → Option Nat} {x k p : Nat} (h : p ≠ x) : mapS N (putP W x k) p = mapS N W p := by
  funext m; unfold mapS; rw [putP_other _ _ h]
theorem mapS_look {N : List Dn} {W : Nat → Option Nat} {p k : Nat} (h : LookIs W (p : Int) k) : dv N k = mapS N W p := by
  funext m
  unfold mapS
  rcases h with ⟨p', h1, h2⟩ | ⟨rfl, h2⟩
  · have : p' = p := by omega
    subst this
    rw [h2]; rfl
  · rw [h2 p rfl]; rfl
/-- What the maps, the closed states and the queue say. -/
structure PlG (L : Nat) (N : List Dn) (ops : List Wop) (s : Nat) (ob : Nat → Nat → Prop) (W D : Nat → Option Nat) (c : Nat) (A : List (Int × Int)) : Prop where
  wl : ∀ p k, W p = some k → k < N.length + 2
  dl : ∀ p k, D p = some k → k < N.length + 2
  cl : c < N.length + 2
  i : PlI L ops s (fun p => ∃ k, D p = some k) ob (mapS N D) (mapS N W) (dv N c) A
section
variable {L : Nat} {N N' : List Dn} {ops : List Wop} {s : Nat} {ob : Nat → Nat → Prop} {W D : Nat → Option Nat} {c : Nat} {A : List (Int × Int)}
theorem PlG.le (h : PlG L N ops s ob W D c A) (ok : DgOk L N) (hl : DgLe N N') : PlG L N' ops s ob W D c A := by
  have := hl.len
  have h1 := h.cl
  refine ⟨fun p k e => by have := h.wl p k e; omega, fun p k e => by have := h.dl p k e; omega, by omega, ?_⟩
  rw [mapS_le h.wl ok hl, mapS_le h.dl ok hl, show dv N' c = dv N c from funext fun m => hl.dv ok h.cl m]
  exact h.i
theorem PlG.look (h : PlG L N ops s ob W D c A) {x : Int} {k : Nat} (hk : LookIs W x k) : k < N.length + 2 := by
  rcases hk with ⟨p, _, hp⟩ | ⟨rfl, _⟩
  · exact h.wl p k hp
  · omega
end
/-- The number of the states whose price has been worked on. -/
def CntIs (ops : List Wop) (s : Nat) (P : Nat → Prop) (n : Nat) : Prop := ∃ S : List Nat, S.Nodup ∧ (∀ x, x ∈ S ↔ ∃ p, P p ∧ Pd ops s x p) ∧ S.length = n
section
variable {ops : List Wop} {s : Nat} {P : Nat → Prop} {n : Nat}
theorem CntIs.le (h : CntIs ops s P n) {l : List Nat} (hl : ∀ q y, runOps ops s q = some y → y ∈ l) : n ≤ l.length := by
  obtain ⟨S, h1, h2, h3⟩ := h
  rw [← h3]
  exact nodup_sub h1 (fun x hx => by
    obtain ⟨p, _, ⟨q, hq, _⟩, _⟩ := (h2 x).1 hx
    exact hl q x hq)
theorem CntIs.start (h : ∀ p, ¬ P p) : CntIs ops s P 0 := ⟨[], List.nodup_nil, fun x => ⟨fun hx => by simp at hx, fun ⟨p, hp, _⟩ => absurd hp (h p)⟩, rfl⟩
/-- The states S of a price more. -/
theorem CntIs.more (h : CntIs ops s P n) {p : Nat} {P' : Nat → Prop} (hP : ∀ k, P' k ↔ P k ∨ k = p) (hp : ¬ P p) {S : List Nat} (hS : S.Nodup) (hs : ∀ x, x ∈ S ↔ Pd ops s x p) : CntIs ops s P' (n + S.length) := by
  obtain ⟨U, h1, h2, h3⟩ := h
  refine ⟨U ++ S, List.nodup_append.2 ⟨h1, hS, fun a ha b hb e => ?_⟩, fun x => ?_, by rw [List.length_append, h3]⟩
  · subst e
    obtain ⟨k, hk, hd⟩ := (h2 a).1 ha
    have := hd.unique ((hs a).1 hb)
    subst this; exact hp hk
  · rw [List.mem_append, h2, hs]
    constructor
    · rintro (⟨k, hk, hd⟩ | hd)
      · exact ⟨k, (hP k).2 (.inl hk), hd⟩
      · exact ⟨p, (hP p).2 (.inr rfl), hd⟩
    · rintro ⟨k, hk, hd⟩
      rcases (hP k).1 hk with h | rfl
      · exact .inl ⟨k, h, hd⟩
      · exact .inr hd
theorem CntIs.congr {P' : Nat → Prop} (h : CntIs ops s P n) (he : ∀ k x, Pd ops s x k → (P k ↔ P' k)) : CntIs ops s P' n := by
  obtain ⟨U, h1, h2, h3⟩ := h
  refine ⟨U, h1, fun x => ?_, h3⟩
  rw [h2]
  constructor
  · rintro ⟨k, hk, hd⟩; exact ⟨k, (he k x hd).1 hk, hd⟩
  · rintro ⟨k, hk, hd⟩; exact ⟨k, (he k x hd).2 hk, hd⟩
end

/-- What symbolic.Plan hands back. -/
def SPlanIs (t : Tsk) (fnd : Bool) (lp : List Int) (c n fc fi : Int) : Prop :=
  BPlanIs t fnd lp c n fc fi ∧ (fc = 0 → ∀ b, BestT t b → ∃ k : Nat, n = (k : Int) ∧ CntIs (wordsOf t.ops) (wd t.init) (fun p => b < 0 ∨ (p : Int) < b) k)
def SPlanPost (t : Tsk) (w : World) (e : Ending) (w' : World) : Prop := Keeps (fun _ => False) w w' ∧ ∃ fnd vp lp c n fc fi, e = .returned (.tuple #[resV fnd vp c n, fltV fc fi]) ∧ Ints w' vp lp ∧ SPlanIs t fnd lp c n fc fi

end Go.Proofs.YtjcgkmodmjckjaaGreat

namespace Go.Proofs.YtjcgkmodmjckjaaGreat
open Go.RowKit

theorem goal_lit {g : List Int} {n : Int} (hg : isSetB g n = true) (x : Nat) : litS true g (fun _ => true) x = goalB (wd g) x := by
  have hp := (isSet_iff.1 hg).1
  rw [Bool.eq_iff_iff, litS_iff]
  unfold goalB
  simp only [beq_iff_eq, true_and]
  constructor
  · intro h
    apply Nat.eq_of_testBit_eq
    intro i
    rw [Nat.testBit_and, testBit_wd (fun x hx => (hp x hx).1)]
    by_cases hi : (i : Int) ∈ g
    · have := h _ hi
      simp at this
      simp [hi, this]
    · simp [hi]
  · intro h p hpp
    have h1 := congrArg (fun w => w.testBit p.toNat) h
    have e : ((p.toNat : Nat) : Int) = p := by have := (hp p hpp).1; omega
    simp only [Nat.testBit_and] at h1
    rw [testBit_wd (fun x hx => (hp x hx).1), e] at h1
    simpa [hpp] using h1
/-- What an operator's image costs, where the set is empty and where it is not. -/
def icost (ly : Nat) : Nat := if ly = 0 then 48 else 38273023
def jz (ly j : Nat) : Nat := if ly = 0 then 0 else j
theorem img_pay {p q ly : Nat} (hp : p ≤ 24) (hq : q ≤ 24) : p * (1 + opC ly) + (q * opC ly + q * (1 + opC ly)) ≤ if ly = 0 then 48 else 37748736 := by
  by_cases h : ly = 0
  · subst h
    have e : opC 0 = 0 := by unfold opC; rw [if_pos rfl]
    rw [e, if_pos rfl]; omega
  · rw [if_neg h]; exact img_cost hp hq (opC_le ly)
/-- What the images cost, up to an operator. -/
def ipay (ly j : Nat) : Nat := if ly = 0 then 48 * j else 38273023 * j
theorem ipay_succ (ly j : Nat) : ipay ly (j + 1) = ipay ly j + icost ly := by unfold ipay icost; split <;> omega
theorem ipay_zero (ly : Nat) : ipay ly 0 = 0 := by unfold ipay; split <;> omega
theorem ipay_le {ly j : Nat} (hj : j ≤ 40) : ipay ly j ≤ 1530920920 := by unfold ipay; split <;> omega
theorem jz_zero (ly : Nat) : jz ly 0 = 0 := by unfold jz; split <;> rfl
theorem jz_succ (ly j : Nat) : jz ly j ≤ jz ly (j + 1) := by unfold jz; split <;> omega
theorem jz_step {ly j : Nat} (h : ly ≠ 0) : jz ly (j + 1) = jz ly j + 1 := by unfold jz; rw [if_neg h, if_neg h]
theorem jz_le {ly j : Nat} (hj : j ≤ 40) : jz ly j ≤ 40 := by unfold jz; split <;> omega
/-- The account of a round: b nodes, a waiting prices, n states; sl states more. -/
theorem round_pays {b b2 b3 b4 b5 a a1 a5 n sl j ly wk : Nat} {t t5 : Int} (h : b + 1600000 * a ≤ 14600000 + n * 1597100000) (h2 : b2 ≤ b + (524287 + opC wk)) (h3 : b3 ≤ b2 + opC ly) (h4 : b4 ≤ b3 + 524287) (h5 : b5 ≤ b4 + ipay ly j) (hj : j ≤ 40) (ha : a1 + 1 = a) (ha5 : a5 ≤ a1 + jz ly j) (hsl : ly ≠ 0 → 1 ≤ sl) (han : a ≤ 1 + 40 * n) (ht : t ≤ 1 + 40 * (n : Int)) (ht5 : t5 ≤ t + (jz ly j : Int)) :
    b5 + 1600000 * a5 ≤ 14600000 + (n + sl) * 1597100000 ∧ a5 ≤ 1 + 40 * (n + sl) ∧ t5 ≤ 1 + 40 * ((n + sl : Nat) : Int) ∧ (n + sl ≤ 2000 → 41 * (2000 - (n + sl)) + a5 < 41 * (2000 - n) + a) := by
  have h6 := opC_le wk
  by_cases h0 : ly = 0
  · subst h0
    have e1 : opC 0 = 0 := by unfold opC; rw [if_pos rfl]
    have e2 : ipay 0 j = 48 * j := by unfold ipay; rw [if_pos rfl]
    have e3 : jz 0 j = 0 := by unfold jz; rw [if_pos rfl]
    rw [e1] at h3; rw [e2] at h5; rw [e3] at ha5 ht5
    refine ⟨?_, ?_, ?_, fun _ => ?_⟩ <;> omega
  · have h7 := opC_le ly
    have h8 := hsl h0
    have h9 := ipay_le (ly := ly) hj
    have h10 := jz_le (ly := ly) hj
    refine ⟨?_, ?_, ?_, fun _ => ?_⟩ <;> omega
theorem put_has {D : Nat → Option Nat} {p ly : Nat} (k : Nat) : (∃ v, putP D p ly k = some v) ↔ (∃ v, D k = some v) ∨ k = p := by
  by_cases h : k = p
  · subst h; rw [putP_same]; exact ⟨fun _ => .inr rfl, fun _ => ⟨ly, rfl⟩⟩
  · rw [putP_other _ _ h]; exact ⟨.inl, fun h' => h'.resolve_right h⟩
section
variable {L : Nat} {N N' : List Dn} {os : List Opr} {s : Nat} {W D : Nat → Option Nat} {c : Nat} {A : List (Int × Int)} {p : Nat}
theorem PlG.start {ops : List Wop} {k1 : Nat} (hk : k1 < N.length + 2) (hv : ∀ m, dv N k1 m = cubeS L s 0 m) (hs : s < 2 ^ L) : PlG L N ops s (fun _ _ => True) (putP (fun _ => none) 0 k1) (fun _ => none) 0 [(0, 0)] := by
  refine ⟨fun p k h => ?_, fun p k h => ?_, by omega, PlI.start (fun m hm => ?_) hs (fun p hp m => ?_) (fun m => dv_zero m) (fun p ⟨k, h⟩ => ?_)⟩
  · by_cases e : p = 0
    · subst e; rw [putP_same] at h; cases h; exact hk
    · rw [putP_other _ _ e] at h; cases h
  · cases h
  · rw [mapS_put, hv]; exact cube_iff hs hm
  · rw [mapS_put_ne hp]; exact dv_zero m
  · cases h
theorem PlG.taken (h : PlG L N (wordsOf os) s (fun _ _ => True) W D c A) (ok : DgOk L N) (hle : DgLe N N') {ly c' : Nat} (hly : ly < N'.length + 2) (hc' : c' < N'.length + 2) (hlv : ∀ m, m < 2 ^ L → (dv N' ly m = true ↔ Pd (wordsOf os) s m p)) (hcv : ∀ m, dv N' c' m = (dv N' c m || dv N' ly m)) (hm : ∀ a ∈ A, (p : Int) ≤ a.1) :
    PlG L N' (wordsOf os) s (fun k i => k = p → i < 0) W (putP D p ly) c' (A.filter fun a => a.1 != (p : Int)) := by
  have g := h.le ok hle
  refine ⟨g.wl, fun k v hv => ?_, hc', g.i.take hm (fun k => put_has k) (fun k hk => mapS_put_ne hk) (fun m hml => by rw [mapS_put]; exact hlv m hml) (fun m _ => by rw [hcv m, mapS_put, Bool.or_eq_true])⟩
  by_cases e : k = p
  · subst e; rw [putP_same] at hv; cases hv; exact hly
  · rw [putP_other _ _ e] at hv; exact g.dl k v hv
theorem PlG.dead (hL : L ≤ 24) (hst : ∀ q y, runOps (wordsOf os) s q = some y → y < 2 ^ L) {j : Nat} {o : Opr} {ly : Nat} (h : PlG L N (wordsOf os) s (fun k i => k = p → i < j) W D c A) (hj : os[j]? = some o) (ho : o.Ok (L : Int)) (hD : D p = some ly) (hv : ∀ m, imgB o (dv N ly) m = false) : PlG L N (wordsOf os) s (fun k i => k = p → i < j + 1) W D c A :=
  ⟨h.wl, h.dl, h.cl, h.i.dead (words_of hj) (fun x hx hc => by
    obtain ⟨⟨q, g1, _⟩, _⟩ := id hx
    have hxl := hst q x g1
    have h1 := (h.i.dn p x ⟨ly, hD⟩ hxl).2 hx
    unfold mapS at h1
    rw [hD] at h1
    have h2 : imgB o (dv N ly) (o.word.next x) = true := (img_iff hL ho (symNextLt ho hxl)).2 ⟨x, hxl, h1, hc, rfl⟩
    rw [hv] at h2; cases h2)⟩
theorem PlG.grow (hL : L ≤ 24) (h0 : CostsOk (wordsOf os)) (hst : ∀ q y, runOps (wordsOf os) s q = some y → y < 2 ^ L) {j : Nat} {o : Opr} {ly k nx r to : Nat} (h : PlG L N (wordsOf os) s (fun k i => k = p → i < j) W D c A) (hj : os[j]? = some o) (ho : o.Ok (L : Int)) (hD : D p = some ly) (hmx : ∀ k, (∃ v, D k = some v) → k ≤ p) (hto : to = p + prcN o.word) (hk : LookIs W (to : Int) k) (hr : r < N.length + 2)
    (hx : ∀ m, dv N nx m = imgB o (dv N ly) m) (hv : ∀ m, dv N r m = (dv N k m || dv N nx m)) : PlG L N (wordsOf os) s (fun k i => k = p → i < j + 1) (putP W to r) D c (V.setA A (to : Int) (to : Int)) := by
  subst hto
  refine ⟨fun k' v hv' => ?_, h.dl, h.cl, h.i.grow h0 hst (words_of hj) ⟨ly, hD⟩ hmx (fun k' hk' => mapS_put_ne hk') (fun m hm => ?_) (V.mem_setA.2 (.inr rfl)) (fun a ha => ?_) (fun a ha => ?_)⟩
  · by_cases e : k' = p + prcN o.word
    · subst e; rw [putP_same] at hv'; cases hv'; exact hr
    · rw [putP_other _ _ e] at hv'; exact h.wl k' v hv'
  · rw [mapS_put, hv, hx, Bool.or_eq_true, img_iff hL ho hm, mapS_look hk]
    constructor
    · rintro (h1 | ⟨x, h1, h2, h3, h4⟩)
      · exact .inl h1
      · refine .inr ⟨x, h1, ?_, h3, h4⟩
        unfold mapS; rw [hD]; exact h2
    · rintro (h1 | ⟨x, h1, h2, h3, h4⟩)
      · exact .inl h1
      · refine .inr ⟨x, h1, ?_, h3, h4⟩
        unfold mapS at h2; rw [hD] at h2; exact h2
  · by_cases e : a.1 = ((p + prcN o.word : Nat) : Int)
    · have h1 := (h.i.it a ha).1
      refine V.mem_setA.2 (.inr ?_)
      obtain ⟨x, y⟩ := a
      simp only at e h1
      rw [← h1, e]
    · exact V.mem_setA.2 (.inl ⟨ha, e⟩)
  · rcases V.mem_setA.1 ha with h1 | h1
    · exact .inl h1.1
    · exact .inr h1
theorem PlG.final {j : Nat} (h : PlG L N (wordsOf os) s (fun k i => k = p → i < j) W D c A) (hj : j = os.length) : PlG L N (wordsOf os) s (fun _ _ => True) W D c A :=
  ⟨h.wl, h.dl, h.cl, PlI.done (p := p) (by rw [show (wordsOf os).length = j from by unfold wordsOf; rw [List.length_map, hj]]; exact h.i)⟩
theorem PlG.doneI (h : PlG L N (wordsOf os) s (fun _ _ => True) W D c A) (ok : DgOk L N) (hle : DgLe N N') {ly : Nat} (hly : ly < N'.length + 2) (hlv : ∀ m, m < 2 ^ L → (dv N' ly m = true ↔ Pd (wordsOf os) s m p)) (hlow : ∀ k x, Pd (wordsOf os) s x k → k < p → ∃ v, D k = some v) : DoneI L N' (wordsOf os) s (putP D p ly) p := by
  have g := h.le ok hle
  refine ⟨fun k v hv => ?_, fun k v hv m hm => ?_, fun x k hx hk => ?_⟩
  · by_cases e : k = p
    · subst e; rw [putP_same] at hv; cases hv; exact hly
    · rw [putP_other _ _ e] at hv; exact g.dl k v hv
  · by_cases e : k = p
    · subst e; rw [putP_same] at hv; cases hv; exact hlv m hm
    · rw [putP_other _ _ e] at hv
      have h1 := g.i.dn k m ⟨v, hv⟩ hm
      unfold mapS at h1
      rw [hv] at h1; exact h1
  · rw [putP_other _ _ (by omega)]
    exact hlow k x hx hk
end
/-- No state of a price that has been worked on is a goal. -/
def NoGoal (ops : List Wop) (s g : Nat) (P : Nat → Prop) : Prop := ∀ p x, P p → Pd ops s x p → goalB g x = false
section
variable {t : Tsk} {P : Nat → Prop}
theorem NoGoal.start {ops : List Wop} {s g : Nat} (h : ∀ p, ¬ P p) : NoGoal ops s g P := fun p _ hp => absurd hp (h p)
theorem best_none (h0 : CostsOk (wordsOf t.ops)) (h : NoGoal (wordsOf t.ops) (wd t.init) (wd t.goal) P) (hall : ∀ p x, Pd (wordsOf t.ops) (wd t.init) x p → P p) : BestT t (-1) :=
  .inl ⟨rfl, fun q y hq => by
    obtain ⟨k, _, hk⟩ := Pd.of_run h0 hq
    exact h k y (hall k y hk) hk⟩
theorem best_some (h0 : CostsOk (wordsOf t.ops)) (h : NoGoal (wordsOf t.ops) (wd t.init) (wd t.goal) P) {p : Nat} (hlow : ∀ k x, Pd (wordsOf t.ops) (wd t.init) x k → k < p → P k) {y : Nat} (hy : Pd (wordsOf t.ops) (wd t.init) y p) (hg : goalB (wd t.goal) y = true) : BestT t (p : Int) := by
  obtain ⟨q, hq, hw⟩ := hy.1
  refine .inr ⟨by omega, ⟨q, y, hq, hg, hw⟩, fun q' y' hq' hg' => ?_⟩
  obtain ⟨k, hk1, hk⟩ := Pd.of_run h0 hq'
  by_cases hkp : k < p
  · rw [h k y' (hlow k y' hk hkp) hk] at hg'; cases hg'
  · omega
theorem cnt_best {n : Nat} (h : CntIs (wordsOf t.ops) (wd t.init) P n) {b : Int} (hb : BestT t b) (he : ∀ k x, Pd (wordsOf t.ops) (wd t.init) x k → (P k ↔ b < 0 ∨ (k : Int) < b)) : ∀ b', BestT t b' → ∃ k : Nat, (n : Int) = (k : Int) ∧ CntIs (wordsOf t.ops) (wd t.init) (fun p => b' < 0 ∨ (p : Int) < b') k := fun b' hb' => by
  have := LeastOf.unique hb hb'
  subst this
  exact ⟨n, rfl, h.congr he⟩
end
theorem plan_len {ops : List Wop} {s : Nat} (h0 : CostsOk ops) {l : List Nat} (hl : ∀ q y, runOps ops s q = some y → y ∈ l) (hfew : l.length ≤ 2000) {y p : Nat} (h : Pd ops s y p) {q : List Nat} (hr : runOps ops s q = some y) (hw : wayN 4096 1 ops q = (p : Int)) : q.length = p % 4096 ∧ (q.length : Int) = (p : Int) % 4096 ∧ costN ops q = (p : Int) / 4096 := by
  have h1 := h.short h0 hl hfew hr hw
  have h2 := wayN_split ops q
  have h3 := (costN_bound h0 q).1
  omega
theorem sresult_long (w : World) (vi vg vo vp : Value) (t : Tsk) (p : List Int) (found : Bool) (n : Int) (h : TaskAt w vi vg vo t) (ok : t.Ok) (hp : Ints w vp p) (hin : PlanIn t p) (hl : 60 < p.length) :
    Calls Tryz.prog 41 #[.agg #[.int .i64 t.n, vi, vg, vo], vp, .bool found, .int .i64 n] w fun e w' => e = .returned (.tuple #[.agg #[.bool false, .slice none 0 0, .int .i64 0, .int .i64 0], .agg #[.int .i64 10, .int .i64 (-9)]]) ∧ Keeps (fun _ => False) w w' :=
  (result_any w vi vg vo vp t p found n h ok hp hin).mono fun e w' hr => by
    rcases hr.2 with ⟨_, he⟩ | ⟨h2, _⟩
    · exact ⟨he, hr.1⟩
    · omega
theorem sresult_fit (w : World) (vi vg vo vp : Value) (t : Tsk) (p : List Int) (found : Bool) (n : Int) (h : TaskAt w vi vg vo t) (ok : t.Ok) (hp : Ints w vp p) (hin : PlanIn t p) (hl : p.length ≤ 60) :
    Calls Tryz.prog 41 #[.agg #[.int .i64 t.n, vi, vg, vo], vp, .bool found, .int .i64 n] w fun e w' => e = .returned (.tuple #[.agg #[.bool found, vp, .int .i64 (costL t p), .int .i64 n], .agg #[.int .i64 0, .int .i64 0]]) ∧ Keeps (fun _ => False) w w' :=
  (result_any w vi vg vo vp t p found n h ok hp hin).mono fun e w' hr => by
    rcases hr.2 with ⟨h2, _⟩ | ⟨_, he⟩
    · omega
    · exact ⟨he, hr.1⟩

end Go.Proofs.YtjcgkmodmjckjaaGreat
