/- The queue: Take and Drop. -/
import Derived.Test.YtcfcmmajlkkabaaUQueueC
import Derived.Deep.RegionLaw
namespace Go.Proofs.Ytcfcmmajlkkabaa.U
open Go.RowKit

theorem step_idelete {P : Program} {ops : Array Oper} {o : Oper} {a : Act} {w : World} {K : Act → World → Prop} {Q : Exit → Act → World → Prop} {E : Prop} {k e : TypeId} {kd : IntKind} {b : Nat} {l : List (Int × Value)}
    (hg : o.guard = none) (m x : Operand) (t t2 : TypeId) (hop : o.op = Op.call { callee := Callee.builtin Builtin.delete, args := #[m, x], argTypes := #[t, t2] }) (ht : P.underlying t = some (.map k e)) (hk : P.underlying k = some (.int kd))
    (h : IMap w b kd l) (hn : (l.map Prod.fst).Nodup) (n : Int) (hm : a.eval m = .map (some b)) (hx : a.eval x = .int kd n)
    (hK : ∀ w', IMap w' b kd (l.filter fun p => p.1 != n) → Keeps (fun k => k = b) w w' → K (a.put o.dst (.tuple #[])) w') :
    if Region.wanted o (yielded ops a.tmps) = true then Oper.wp P o a w K Q else E := by
  have hw : Region.wanted o (yielded ops a.tmps) = true := by simp [Region.wanted, hg]
  rw [if_pos hw]
  obtain ⟨w', hrun, r1, r2⟩ := h.run_delete ht hk hn o.type t2 n
  unfold Oper.wp
  simp [execOp, hop, resolve, invoke, builtin, hm, hx, hrun, Result.andThen]
  exact hK w' r1 r2

def firstMin : List (Int × Int) → Option (Int × Int)
  | [] => none
  | p :: r => match firstMin r with
    | none => some p
    | some q => if q.2 < p.2 then some q else some p

theorem firstMin_none {A : List (Int × Int)} : firstMin A = none ↔ A = [] := by
  cases A with
  | nil => simp [firstMin]
  | cons p r => simp [firstMin]; split <;> (try split) <;> simp

theorem firstMin_mem {A : List (Int × Int)} {q : Int × Int} (h : firstMin A = some q) : q ∈ A := by
  induction A generalizing q with
  | nil => simp [firstMin] at h
  | cons p r ih =>
    simp only [firstMin] at h
    split at h
    · simp at h; subst h; simp
    · rename_i q' hq'
      split at h
      · simp at h; subst h; exact List.mem_cons_of_mem _ (ih hq')
      · simp at h; subst h; simp

theorem firstMin_of {E : List Ent} (ho : E.Pairwise (fun a b => a.time < b.time)) {e0 : Ent} (he : e0 ∈ E) (hm : ∀ e ∈ E, leE e0 e) : firstMin (E.map fun e => (e.item, e.key)) = some (e0.item, e0.key) := by
  induction E with
  | nil => simp at he
  | cons a r ih =>
    obtain ⟨h1, h2⟩ := List.pairwise_cons.1 ho
    simp only [List.map_cons, firstMin]
    rcases List.mem_cons.1 he with rfl | he'
    · cases hf : firstMin (r.map fun e => (e.item, e.key)) with
      | none => rfl
      | some q =>
        obtain ⟨e, he2, hq⟩ := List.mem_map.1 (firstMin_mem hf)
        have := (leE_iff _ _).1 (hm e (by simp [he2]))
        subst hq
        simp only
        rw [if_neg (by simp; omega)]
    · rw [ih h2 he' (fun e h => hm e (by simp [h]))]
      have := (leE_iff _ _).1 (hm a (by simp))
      have := h1 e0 he'
      show (if e0.key < a.key then some (e0.item, e0.key) else some (a.item, a.key)) = _
      rw [if_pos (by omega)]

/-- What a call that takes one entry out leaves. -/
theorem took_queue {w w1 w2 : World} {Q : Nat} {v v' : Value} {Mb : Nat} {l : List (Int × Value)} {L E R : List Ent} {A : List (Int × Int)} {t : Int} {F : Nat → Prop} (h : QR w Q v Mb l L E A t F) {e0 : Ent}
    (hT : TookPost w Q v (.map (some Mb)) t L R e0 w1 v') (hp : (R ++ [e0]).Perm L) (hH : Heap R R.length) (hm : IMap w2 Mb .u32 (l.filter fun p => p.1 != e0.item)) (k2 : Keeps (fun b => b = Mb) w1 w2) :
    QRep w2 Q (A.filter fun p => p.1 != e0.item) t F ∧ Keeps F w w2 := by
  have he0 : e0 ∈ L := hp.mem_iff.1 (by simp)
  have nMf := h.nMf
  have hne : ∀ a ∈ R, a.item ≠ e0.item := by
    intro a ha e
    have hn : ((R ++ [e0]).map Ent.item).Nodup := by
      have hpv : (L.map (fun e => (e.item, e.key))).Perm A := by rw [← h.view]; exact h.perm.map _
      have : ((L.map (fun e => (e.item, e.key))).map Prod.fst).Nodup := (hpv.map Prod.fst).nodup_iff.2 h.ndA
      rw [List.map_map] at this
      exact (hp.map Ent.item).nodup_iff.2 this
    rw [List.map_append, List.nodup_append] at hn
    exact hn.2.2 _ (List.mem_map.2 ⟨a, ha, rfl⟩) _ (by simp : e0.item ∈ [e0].map Ent.item) e
  have hRL : ∀ a, a ∈ R ↔ a ∈ L ∧ a.item ≠ e0.item := by
    intro a
    constructor
    · intro ha; exact ⟨hp.mem_iff.1 (by simp [ha]), hne a ha⟩
    · rintro ⟨ha, hn⟩
      have := hp.mem_iff.2 ha
      simp at this
      rcases this with h' | rfl
      · exact h'
      · exact absurd rfl hn
  have hk : Keeps F w w2 := (hT.keeps.mono (S' := F) (fun b _ hb => by rcases hb with rfl | hb; exact h.fQ; exact h.fH b hb)).trans (k2.mono (fun b _ hb => hb ▸ h.fM))
  have hperm : R.Perm (E.filter fun a => a.item != e0.item) := by
    have := ((hp.trans h.perm).filter (fun a => a.item != e0.item))
    rw [List.filter_append] at this
    have f1 : R.filter (fun a => a.item != e0.item) = R := by rw [List.filter_eq_self]; intro a ha; simpa using hne a ha
    rw [f1] at this
    simpa using this
  refine ⟨⟨v', Mb, l.filter (fun p => p.1 != e0.item), R, E.filter (fun a => a.item != e0.item), ?_⟩, hk⟩
  refine { rep := hT.rep.keeps k2 (fun b hb e => nMf (hT.sub _ (e ▸ hb))), q := k2.heap hT.q (fun e => h.nM e.symm), mp := hm, nd := (List.Sublist.map Prod.fst List.filter_sublist).nodup h.nd, mem := ?_, heap := hH, perm := hperm, view := by rw [filter_view, h.view], ord := h.ord.filter _, bound := fun a ha => h.bound a (List.mem_filter.1 ha).1, ndA := (List.Sublist.map Prod.fst List.filter_sublist).nodup h.ndA, fQ := h.fQ, fM := h.fM, fH := fun b hb => h.fH b (hT.sub b hb) }
  intro p
  rw [List.mem_filter, h.mem]
  constructor
  · rintro ⟨⟨a, ha, rfl⟩, hn⟩
    exact ⟨a, (hRL a).2 ⟨ha, by simpa using hn⟩, rfl⟩
  · rintro ⟨a, ha, rfl⟩
    obtain ⟨h1, h2⟩ := (hRL a).1 ha
    exact ⟨⟨a, h1, rfl⟩, by simpa using h2⟩

set_option maxRecDepth 100000 in
set_option maxHeartbeats 1000000 in
theorem take_none (w : World) (Q : Nat) (t : Int) (F : Nat → Prop) (h : QRep w Q [] t F) :
    Calls Try.prog 97 #[.pointer (some ⟨Q, 0, none⟩)] w fun e w' => e = .returned (.tuple #[.int .u32 0, .int .i64 0, .bool false]) ∧ w = w' := by
  obtain ⟨v, Mb, l, L, E, h⟩ := h
  have hl := h.len
  simp at hl
  subst hl
  obtain ⟨ao, cap, rfl⟩ := h.rep.isSlice
  have c0 := h.q.c0
  simp only [List.length_nil] at c0
  clear h
  go_enter Try.func97, Try.ntmps97
  go_wp2
  go_ret3
  exact ⟨rfl, rfl⟩

set_option maxRecDepth 100000 in
set_option maxHeartbeats 1000000 in
theorem take_some (w : World) (Q : Nat) (A : List (Int × Int)) (t : Int) (F : Nat → Prop) (h : QRep w Q A t F) (x k : Int) (hx : firstMin A = some (x, k)) :
    Calls Try.prog 97 #[.pointer (some ⟨Q, 0, none⟩)] w fun e w' => e = .returned (.tuple #[.int .u32 x, .int .i64 k, .bool true]) ∧ QRep w' Q (A.filter fun p => p.1 != x) t F ∧ Keeps F w w' := by
  obtain ⟨v, Mb, l, L, E, h⟩ := h
  have hA : A ≠ [] := fun e => by rw [e] at hx; simp [firstMin] at hx
  have hl := h.len
  have hpos : 0 < A.length := List.length_pos_iff.2 hA
  obtain ⟨n, hn⟩ : ∃ n, L.length = n + 1 := ⟨L.length - 1, by omega⟩
  have hH := h.heap
  rw [hn] at hH
  obtain ⟨R, hpop, hRl, hRH, hRp⟩ := popL_law hn hH
  have hmin := heap_min hH
  have h0 : at' L 0 ∈ L := at_mem (by omega)
  have hfm := firstMin_of h.ord (h.perm.mem_iff.1 h0) (fun e he => by
    obtain ⟨j, hj⟩ := List.mem_iff_getElem?.1 (h.perm.mem_iff.2 he)
    have lj : j < L.length := (List.getElem?_eq_some_iff.1 hj).1
    rw [← at_eq hj]
    exact hmin j (by omega))
  rw [h.view, hx] at hfm
  generalize at' L 0 = e0 at *
  simp only [Option.some.injEq, Prod.mk.injEq] at hfm
  obtain ⟨rfl, rfl⟩ := hfm
  obtain ⟨ao, cap, hv⟩ := h.rep.isSlice
  subst hv
  rw [hn] at h
  have c0 := h.q.c0
  have hz : (((n + 1 : Nat) : Int) == 0) = false := by simp; omega
  rw [← hRl] at hRH
  have HH := Lib.hid hRH
  have HP := Lib.hid hRp
  have HPOP := Lib.hid hpop
  have H0 := Lib.hid h
  have hta := fun w => ta_entry ⟨e0.blk, 0, none⟩ w
  clear h hx hH hmin h0 hpop hRl hRH hRp hl hn hA hpos
  go_enter Try.func97, Try.ntmps97
  go_wp2_with fail
  refine (hpop_any _ Q _ _ t L H0.out.rep H0.out.q R e0 HPOP.out).mono ?_; rintro e w1 ⟨rfl, v', hT⟩
  obtain ⟨xx, hent⟩ := hT.ent0
  have d0 : w1.cell? ⟨e0.blk, 0, none⟩ = some (.int .u32 e0.item) := by rw [cell_of_blk hent]; rfl
  have d1 : w1.cell? ⟨e0.blk, 1, none⟩ = some (.int .i64 e0.key) := by rw [cell_of_blk hent]; rfl
  have g1 := hT.q.c1
  have m1 := H0.out.mp.keeps hT.keeps (by rintro (hb | hb); exact H0.out.nM hb; exact H0.out.nMf hb)
  have nEM : e0.blk ≠ Mb := fun e => by obtain ⟨es, c, hbm, _⟩ := m1; rw [← e, hent] at hbm; simp at hbm
  have M1 := Lib.hid m1
  have HT := Lib.hid hT
  have HE := Lib.hid hent
  clear m1 hT hent
  go_wp2_with fail
  go_region_law ((refine step_idelete (by rfl) _ _ _ _ (by rfl) Try.underlying172 Try.underlying90 (M1.out.drewN 1) H0.out.nd e0.item (by rfl) (by rfl) ?_; intro w2 m2 k2))
  all_goals
    have hE2 := k2.heap (w := w1.drew) HE.out nEM
    have d0' : w2.cell? ⟨e0.blk, 0, none⟩ = some (.int .u32 e0.item) := by rw [cell_of_blk hE2]; rfl
    have d1' : w2.cell? ⟨e0.blk, 1, none⟩ = some (.int .i64 e0.key) := by rw [cell_of_blk hE2]; rfl
    have hpost := took_queue H0.out HT.out HP.out HH.out m2 (show Keeps (fun b => b = Mb) w1 w2 from ⟨k2.os, k2.tape, k2.output, k2.size, k2.block⟩)
    have HPO := Lib.hid hpost
    clear hpost m2 k2 hE2
    go_wp2
    go_quiet (fail)
    go_wp2
    go_ret3
    exact ⟨rfl, HPO.out.1.keeps ((Keeps.refl (fun _ => False) _).drewN nq) (fun _ _ h => h), HPO.out.2.drewN nq⟩

theorem mem_unique {A : List (Int × Int)} (hn : (A.map Prod.fst).Nodup) {x k k' : Int} (h : (x, k) ∈ A) (h' : (x, k') ∈ A) : k = k' := by
  induction A with
  | nil => simp at h
  | cons p r ih =>
    simp only [List.map_cons, List.nodup_cons] at hn
    rcases List.mem_cons.1 h with rfl | h1 <;> rcases List.mem_cons.1 h' with h2 | h2
    · simpa using h2.symm
    · exact absurd (List.mem_map.2 ⟨_, h2, rfl⟩) hn.1
    · subst h2; exact absurd (List.mem_map.2 ⟨_, h1, rfl⟩) hn.1
    · exact ih hn.2 h1 h2

end Go.Proofs.Ytcfcmmajlkkabaa.U
