/- The queue: Set of an item that is there, Take, Drop. -/
import Derived.Test.YtcfcmmajlkkabaaUQueueB
namespace Go.Proofs.Ytcfcmmajlkkabaa.U
open Go.RowKit

theorem QR.nM {w : World} {Q : Nat} {v : Value} {Mb : Nat} {l : List (Int × Value)} {L E : List Ent} {A : List (Int × Int)} {t : Int} {F : Nat → Prop} (h : QR w Q v Mb l L E A t F) : Mb ≠ Q := by
  rintro rfl
  obtain ⟨es, c, hb, _⟩ := h.mp
  have := h.q; unfold QBlk at this; rw [hb] at this; simp at this

theorem QR.nMf {w : World} {Q : Nat} {v : Value} {Mb : Nat} {l : List (Int × Value)} {L E : List Ent} {A : List (Int × Int)} {t : Int} {F : Nat → Prop} (h : QR w Q v Mb l L E A t F) : ¬ hfoot v L Mb := by
  intro hb
  obtain ⟨es, c, hbm, _⟩ := h.mp
  rcases hb with hb | ⟨e, he, rfl⟩
  · rcases h.rep.row.2 with ⟨hv, _⟩ | ⟨g, cap, cur, hv, _, hg, _⟩
    · rw [hv] at hb; simp [Value.ownBlock] at hb
    · rw [hv] at hb; simp [Value.ownBlock] at hb
      subst hb; rw [hbm] at hg; simp at hg
  · obtain ⟨j, hj⟩ := List.mem_iff_getElem?.1 he
    rw [h.rep.ent j e hj] at hbm; simp at hbm

theorem QR.itemInj {w : World} {Q : Nat} {v : Value} {Mb : Nat} {l : List (Int × Value)} {L E : List Ent} {A : List (Int × Int)} {t : Int} {F : Nat → Prop} (h : QR w Q v Mb l L E A t F) {i j : Nat} {a b : Ent} (hi : L[i]? = some a) (hj : L[j]? = some b) (e : a.item = b.item) : i = j := by
  have hp : (L.map (fun e => (e.item, e.key))).Perm A := by rw [← h.view]; exact h.perm.map _
  have hn : ((L.map (fun e => (e.item, e.key))).map Prod.fst).Nodup := (hp.map Prod.fst).nodup_iff.2 h.ndA
  rw [List.map_map] at hn
  have h1 : (L.map (Prod.fst ∘ fun e => (e.item, e.key)))[i]? = some a.item := by rw [List.getElem?_map, hi]; rfl
  have h2 : (L.map (Prod.fst ∘ fun e => (e.item, e.key)))[j]? = some a.item := by rw [List.getElem?_map, hj]; simp [e]
  have li : i < (L.map (Prod.fst ∘ fun e => (e.item, e.key))).length := (List.getElem?_eq_some_iff.1 h1).1
  exact (List.getElem?_inj li hn).1 (h1.trans h2.symm)

/-- The entry turned in place. -/
theorem HRep.turn {w : World} {H cap n : Nat} {L : List Ent} (h : HRep w (.slice (some ⟨H, 0, none⟩) n cap) L) {i : Nat} {e : Ent} (hi : L[i]? = some e) (k t : Int) :
    HRep ((w.setCell ⟨e.blk, 1, none⟩ (.int .i64 k)).setCell ⟨e.blk, 2, none⟩ (.int .i64 t)) (.slice (some ⟨H, 0, none⟩) n cap) (L.set i { e with key := k, time := t }) := by
  have hne := h.ne_row hi (g := H) rfl
  have li : i < L.length := (List.getElem?_eq_some_iff.1 hi).1
  refine ⟨?_, ?_, by simpa using h.small⟩
  · have hr := Keeps.ownsRow (S := fun b => b = e.blk) (((Keeps.refl (fun b => b = e.blk) w).setCell (p := ⟨e.blk, 1, none⟩) (.inl rfl) (.int .i64 k)).setCell (p := ⟨e.blk, 2, none⟩) (.inl rfl) (.int .i64 t)) h.row
      (fun b hb => by simp [Value.ownBlock] at hb; subst hb; exact fun e => hne e.symm)
    have e1 : (L.set i { e with key := k, time := t }).map Ent.ptr = L.map Ent.ptr := by
      rw [List.map_set]
      apply List.ext_getElem?
      intro j
      rw [List.getElem?_set]
      split
      · rename_i hj; subst hj
        have := (List.getElem?_eq_some_iff.1 hi).2
        simp [li, Ent.ptr, this]
      · rfl
    rw [e1, List.length_set]; exact hr
  · intro j a hj
    rw [List.getElem?_set] at hj
    by_cases hij : i = j
    · subst hij
      rw [if_pos rfl, if_pos li] at hj
      obtain rfl := Option.some.inj hj
      rw [blk_set_same (blk_set_same (h.ent i e hi) _)]; rfl
    · rw [if_neg hij] at hj
      have : a.blk ≠ e.blk := fun x => hij (h.inj hj hi x).symm
      rw [blk_set_ne this, blk_set_ne this]
      exact h.ent j a hj

theorem set_old_post {w w1 w2 : World} {Q : Nat} {v : Value} {Mb : Nat} {l : List (Int × Value)} {L E : List Ent} {A : List (Int × Int)} {t : Int} {F : Nat → Prop} (h : QR w Q v Mb l L E A t F) {i : Nat} {e : Ent} (hi : L[i]? = some e) (k : Int)
    (k1 : Keeps (fun b => b = Q ∨ b = e.blk) w w1) (q1 : QBlk w1 Q v (.map (some Mb)) (t + 1)) (hp : HPost w1 v (L.set i { e with key := k, time := t + 1 }) (fixL (L.set i { e with key := k, time := t + 1 }) i) w2) :
    QRep w2 Q (setA A e.item k) (t + 1) F ∧ Keeps F w w2 := by
  have li : i < L.length := (List.getElem?_eq_some_iff.1 hi).1
  have he : e ∈ L := List.mem_of_getElem? hi
  have hlaw := fixL_law (e := { e with key := k, time := t + 1 }) li h.heap
  have hfe : hfoot v L e.blk := .inr ⟨e, he, rfl⟩
  have hfs : ∀ b, hfoot v (L.set i { e with key := k, time := t + 1 }) b → hfoot v L b := by
    rintro b (hb | ⟨a, ha, rfl⟩)
    · exact .inl hb
    · rcases List.mem_or_eq_of_mem_set ha with ha | rfl
      · exact .inr ⟨a, ha, rfl⟩
      · exact hfe
  have hmset : ∀ a, a ∈ L.set i { e with key := k, time := t + 1 } ↔ (a ∈ L ∧ a.item ≠ e.item) ∨ a = { e with key := k, time := t + 1 } := by
    intro a
    constructor
    · intro ha
      obtain ⟨j, hj⟩ := List.mem_iff_getElem?.1 ha
      rw [List.getElem?_set] at hj
      by_cases hij : i = j
      · subst hij; rw [if_pos rfl, if_pos li] at hj; exact .inr (Option.some.inj hj).symm
      · rw [if_neg hij] at hj
        exact .inl ⟨List.mem_of_getElem? hj, fun x => hij (h.itemInj hj hi x).symm⟩
    · rintro (⟨ha, hne⟩ | rfl)
      · obtain ⟨j, hj⟩ := List.mem_iff_getElem?.1 ha
        refine List.mem_of_getElem? (i := j) ?_
        rw [List.getElem?_set, if_neg]
        · exact hj
        · rintro rfl; rw [hi] at hj; exact hne (by rw [Option.some.inj hj])
      · refine List.mem_of_getElem? (i := i) ?_
        rw [List.getElem?_set, if_pos rfl, if_pos li]
  have hk2 : Keeps F w w2 := (k1.mono (S' := F) (fun b _ hb => by rcases hb with rfl | rfl; exact h.fQ; exact h.fH _ hfe)).trans (hp.keeps.mono (fun b _ hb => h.fH b (hfs b hb)))
  have hperm : (L.set i { e with key := k, time := t + 1 }).Perm (L.filter (fun a => a.item != e.item) ++ [{ e with key := k, time := t + 1 }]) := by
    have hl : L = L.take i ++ e :: L.drop (i + 1) := by
      have := @List.getElem_cons_drop _ L i li
      rw [(List.getElem?_eq_some_iff.1 hi).2] at this
      rw [this, List.take_append_drop]
    have f1 : (L.take i).filter (fun a => a.item != e.item) = L.take i := by
      rw [List.filter_eq_self]; intro a ha
      obtain ⟨j, hj⟩ := List.mem_iff_getElem?.1 ha
      rw [List.getElem?_take] at hj
      split at hj
      · simp; intro x; have := h.itemInj hj hi x; omega
      · cases hj
    have f2 : (L.drop (i + 1)).filter (fun a => a.item != e.item) = L.drop (i + 1) := by
      rw [List.filter_eq_self]; intro a ha
      obtain ⟨j, hj⟩ := List.mem_iff_getElem?.1 ha
      rw [List.getElem?_drop] at hj
      simp; intro x; have := h.itemInj hj hi x; omega
    have e1 : L.filter (fun a => a.item != e.item) = L.take i ++ L.drop (i + 1) := by
      conv => lhs; rw [hl]
      rw [List.filter_append, List.filter_cons, f1, f2]; simp
    rw [e1, List.set_eq_take_append_cons_drop, if_pos li, List.append_assoc]
    exact List.Perm.append_left _ (List.perm_append_singleton _ _).symm
  have hE : (L.filter (fun a => a.item != e.item)).Perm (E.filter (fun a => a.item != e.item)) := h.perm.filter _
  obtain ⟨ao, cap, hv⟩ := h.rep.isSlice
  refine ⟨⟨v, Mb, l, fixL (L.set i { e with key := k, time := t + 1 }) i, E.filter (fun a => a.item != e.item) ++ [{ e with key := k, time := t + 1 }], ?_⟩, hk2⟩
  have nQ := h.q.nfoot h.rep
  refine { rep := hp.rep, q := hp.keeps.heap q1 (fun hb => nQ (hfs _ hb)), mp := ?_, nd := h.nd, mem := ?_, heap := ?_, perm := hlaw.2.trans (hperm.trans (hE.append_right _)), view := ?_, ord := ?_, bound := ?_, ndA := nodup_setA h.ndA, fQ := h.fQ, fM := h.fM, fH := fun b hb => h.fH b (hfs b (hp.sub b hb)) }
  · refine (h.mp.keeps k1 ?_).keeps hp.keeps (fun hb => h.nMf (hfs _ hb))
    rintro (hb | hb)
    · exact h.nM hb
    · exact h.nMf (hb ▸ hfe)
  · intro p
    rw [h.mem]
    constructor
    · rintro ⟨a, ha, rfl⟩
      by_cases hae : a.item = e.item
      · refine ⟨{ e with key := k, time := t + 1 }, hlaw.2.mem_iff.2 ((hmset _).2 (.inr rfl)), ?_⟩
        obtain ⟨j, hj⟩ := List.mem_iff_getElem?.1 ha
        have := h.itemInj hj hi hae
        subst this
        rw [hi] at hj
        obtain rfl := Option.some.inj hj
        rfl
      · exact ⟨a, hlaw.2.mem_iff.2 ((hmset _).2 (.inl ⟨ha, hae⟩)), rfl⟩
    · rintro ⟨a, ha, rfl⟩
      rcases (hmset a).1 (hlaw.2.mem_iff.1 ha) with ⟨ha', _⟩ | rfl
      · exact ⟨a, ha', rfl⟩
      · exact ⟨e, he, rfl⟩
  · rw [hp.len, List.length_set]; exact hlaw.1
  · rw [List.map_append, filter_view, h.view]; rfl
  · rw [List.pairwise_append]
    refine ⟨h.ord.filter _, by simp, ?_⟩
    intro a ha b hb
    simp at hb; subst hb
    have := h.bound a (List.mem_filter.1 ha).1
    show a.time < t + 1; omega
  · intro a ha
    rcases List.mem_append.1 ha with ha | ha
    · have := h.bound a (List.mem_filter.1 ha).1; omega
    · simp at ha; subst ha; exact Int.le_refl _

set_option maxRecDepth 100000 in
set_option maxHeartbeats 1000000 in
theorem set_old (w : World) (Q : Nat) (A : List (Int × Int)) (t : Int) (F : Nat → Prop) (h : QRep w Q A t F) (x k k0 : Int) (hx : (x, k0) ∈ A) (ht : 0 ≤ t ∧ t ≤ 1000000000000000) :
    Calls Try.prog 95 #[.pointer (some ⟨Q, 0, none⟩), .int .u32 x, .int .i64 k] w fun e w' => e = .returned (.tuple #[]) ∧ QRep w' Q (setA A x k) (t + 1) F ∧ Keeps F w w' := by
  obtain ⟨v, Mb, l, L, E, h⟩ := h
  obtain ⟨e, he, rfl, _, h3⟩ := h.find hx
  obtain ⟨i, hi⟩ := List.mem_iff_getElem?.1 he
  have li : i < L.length := (List.getElem?_eq_some_iff.1 hi).1
  obtain ⟨H, cap, cur, hv, -⟩ := h.rep.form (by omega)
  subst hv
  have c1 := h.q.c1
  have c2 := h.q.c2
  have f2 : w.frozen? ⟨Q, 2, none⟩ = false := frozen_of_blk h.q
  have hfe : hfoot (.slice (some ⟨H, 0, none⟩) L.length cap) L e.blk := .inr ⟨e, he, rfl⟩
  have nQE : ¬ Q = e.blk := fun x => h.q.nfoot h.rep (x ▸ hfe)
  have nQE' : ¬ e.blk = Q := fun x => nQE x.symm
  have ce1 := h.rep.e1 hi
  have ce2 := h.rep.e2 hi
  have ce3 := h.rep.e3 hi
  have fe1 : w.frozen? ⟨e.blk, 1, none⟩ = false := frozen_of_blk (h.rep.ent i e hi)
  have fe2 : w.frozen? ⟨e.blk, 2, none⟩ = false := frozen_of_blk (h.rep.ent i e hi)
  have q1 : QBlk (w.setCell ⟨Q, 2, none⟩ (.int .i64 (t + 1))) Q (.slice (some ⟨H, 0, none⟩) L.length cap) (.map (some Mb)) (t + 1) := by unfold QBlk; rw [blk_set_same h.q]; rfl
  have k1 : Keeps (fun b => b = Q) w (w.setCell ⟨Q, 2, none⟩ (.int .i64 (t + 1))) := (Keeps.refl (fun b => b = Q) w).setCell (p := ⟨Q, 2, none⟩) (.inl rfl) _
  have m1 := h.mp.keeps k1 h.nM
  have r1 := h.rep.keeps k1 (fun b hb e => h.q.nfoot h.rep (e ▸ hb))
  have r2 := r1.turn hi k (t + 1)
  have k2 : Keeps (fun b => b = Q ∨ b = e.blk) w (((w.setCell ⟨Q, 2, none⟩ (.int .i64 (t + 1))).setCell ⟨e.blk, 1, none⟩ (.int .i64 k)).setCell ⟨e.blk, 2, none⟩ (.int .i64 (t + 1))) :=
    ((k1.mono (fun b _ hb => .inl hb)).setCell (p := ⟨e.blk, 1, none⟩) (.inl (.inr rfl)) _).setCell (p := ⟨e.blk, 2, none⟩) (.inl (.inr rfl)) _
  have q2 : QBlk (((w.setCell ⟨Q, 2, none⟩ (.int .i64 (t + 1))).setCell ⟨e.blk, 1, none⟩ (.int .i64 k)).setCell ⟨e.blk, 2, none⟩ (.int .i64 (t + 1))) Q (.slice (some ⟨H, 0, none⟩) L.length cap) (.map (some Mb)) (t + 1) := by
    unfold QBlk; rw [blk_set_ne nQE, blk_set_ne nQE]; exact q1
  have HM := Lib.hid m1
  have HN := Lib.hid h.nd
  have H3 := Lib.hid h3
  have H0 := Lib.hid h
  have HI := Lib.hid hi
  have R2 := Lib.hid r2
  have K2 := Lib.hid k2
  have Q2 := Lib.hid q2
  have t0 := ht.1
  have t1 := ht.2
  clear h hx m1 q1 k1 r1 r2 k2 q2 ht h3 hi he hfe
  go_enter Try.func95, Try.ntmps95
  go_wp2_with (at_lookup; refine wpList_ilookup_ok_hit rfl _ _ _ rfl Try.underlying172 Try.underlying90 HM.out HN.out e.item _ rfl rfl H3.out ?_; simp only [Ent.ptr])
  go_region_with (go_at_call 111; refine (fix_any _ Q _ _ (t + 1) _ (R2.out.drewN 1) Q2.out _ i (by rw [List.length_set]; exact li) rfl).mono ?_; rintro e' w2 ⟨rfl, hP⟩)
  have hpost := set_old_post H0.out HI.out k (K2.out.drewN 1) Q2.out hP
  have HPO := Lib.hid hpost
  clear hpost hP
  go_wp2
  refine bodyPost_ret (results_none rfl _ _ _) rfl ?_
  exact ⟨rfl, HPO.out⟩

end Go.Proofs.Ytcfcmmajlkkabaa.U
