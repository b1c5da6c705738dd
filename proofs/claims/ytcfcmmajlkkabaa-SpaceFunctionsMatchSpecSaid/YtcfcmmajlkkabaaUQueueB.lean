/- The queue: Set walked, for a new item and for one that is there. -/
import Derived.Test.YtcfcmmajlkkabaaUQueueA
namespace Go.Proofs.Ytcfcmmajlkkabaa.U
open Go.RowKit

def setA (A : List (Int × Int)) (x k : Int) : List (Int × Int) := A.filter (fun p => p.1 != x) ++ [(x, k)]

theorem setA_new {A : List (Int × Int)} {x k : Int} (hx : ∀ p ∈ A, p.1 ≠ x) : setA A x k = A ++ [(x, k)] := by
  unfold setA; congr 1; rw [List.filter_eq_self]; intro p hp; simpa using hx p hp

theorem filter_view (E : List Ent) (x : Int) : (E.filter (fun e => e.item != x)).map (fun e => (e.item, e.key)) = (E.map (fun e => (e.item, e.key))).filter (fun p => p.1 != x) := by
  rw [List.filter_map]; rfl

theorem nodup_setA {A : List (Int × Int)} {x k : Int} (h : (A.map Prod.fst).Nodup) : ((setA A x k).map Prod.fst).Nodup := by
  unfold setA
  rw [List.map_append, List.nodup_append]
  refine ⟨(List.Sublist.map Prod.fst List.filter_sublist).nodup h, by simp, ?_⟩
  intro a ha b hb e
  simp at hb
  subst hb; subst e
  obtain ⟨p, hp, rfl⟩ := List.mem_map.1 ha
  have := (List.mem_filter.1 hp).2
  simp at this

/-- What Set leaves: for a new item. -/
theorem set_new_post {w w1 w2 w3 : World} {Q : Nat} {v : Value} {Mb : Nat} {l : List (Int × Value)} {L E : List Ent} {A : List (Int × Int)} {t : Int} {F : Nat → Prop} (h : QR w Q v Mb l L E A t F) (x k : Int) (hx : ∀ p ∈ A, p.1 ≠ x) (e0 : Ent)
    (he : e0.item = x ∧ e0.key = k ∧ e0.time = t + 1 ∧ e0.blk = w.heap.size)
    (k1 : Keeps (fun b => b = Q) w w1) (q1 : QBlk w1 Q v (.map (some Mb)) (t + 1)) (m2 : IMap w2 Mb .u32 (l ++ [(x, e0.ptr)])) (k2 : Keeps (fun b => b = Mb) w1 w2)
    {v' : Value} (hp : PushPost w2 Q v (.map (some Mb)) (t + 1) L (upL (L ++ [e0]) L.length) e0 w3 v') : QRep w3 Q (setA A x k) (t + 1) (fun b => F b ∨ w.heap.size ≤ b) ∧ Keeps F w w3 := by
  have hlt := h.lt
  have hlaw := push_law (e := e0) h.heap
  have hmL : ∀ e, e ∈ upL (L ++ [e0]) L.length ↔ e ∈ L ∨ e = e0 := fun e => by rw [hlaw.2.mem_iff]; simp
  have hlen : (upL (L ++ [e0]) L.length).length = L.length + 1 := by rw [hlaw.2.length_eq]; simp
  have nM : Mb ≠ Q := by
    rintro rfl
    obtain ⟨es, c, hb, _⟩ := h.mp
    have := h.q; unfold QBlk at this; rw [hb] at this; simp at this
  have nMf : ¬ hfoot v L Mb := by
    intro hb
    obtain ⟨es, c, hbm, _⟩ := h.mp
    rcases hb with hb | ⟨e, he, rfl⟩
    · rcases h.rep.row.2 with ⟨hv, _⟩ | ⟨g, cap, cur, hv, _, hg, _⟩
      · rw [hv] at hb; simp [Value.ownBlock] at hb
      · rw [hv] at hb; simp [Value.ownBlock] at hb
        subst hb; rw [hbm] at hg; simp at hg
    · obtain ⟨j, hj⟩ := List.mem_iff_getElem?.1 he
      rw [h.rep.ent j e hj] at hbm; simp at hbm
  have hk3 : Keeps F w w3 := by
    refine ((k1.mono (S' := F) (fun b _ hb => hb ▸ h.fQ)).trans (k2.mono (S' := F) (fun b _ hb => hb ▸ h.fM))).trans' hp.keeps ?_
    rintro b (hb | hb | hb)
    · exact .inl (hb ▸ h.fQ)
    · exact .inl (h.fH b hb)
    · exact .inr (by rw [hb, he.2.2.2]; exact Nat.le_refl _)
  refine ⟨⟨v', Mb, l ++ [(x, e0.ptr)], upL (L ++ [e0]) L.length, E ++ [e0], ?_⟩, hk3⟩
  refine { rep := hp.rep, q := hp.q, mp := m2.keeps hp.keeps ?_, nd := ?_, mem := ?_, heap := by rw [hlen]; exact hlaw.1, perm := ?_, view := ?_, ord := ?_, bound := ?_, ndA := nodup_setA h.ndA, fQ := .inl h.fQ, fM := .inl h.fM, fH := ?_ }
  · rintro (hb | hb | hb)
    · exact nM hb
    · exact nMf hb
    · rw [he.2.2.2] at hb; have := hlt.2.1; omega
  · rw [List.map_append, List.nodup_append]
    refine ⟨h.nd, by simp, ?_⟩
    intro a ha b hb e
    simp at hb
    obtain ⟨p, hp', rfl⟩ := List.mem_map.1 ha
    exact h.miss hx p hp' (by rw [e, hb])
  · intro p
    rw [List.mem_append, h.mem]
    constructor
    · rintro (⟨e, he', rfl⟩ | hp')
      · exact ⟨e, (hmL e).2 (.inl he'), rfl⟩
      · simp at hp'; subst hp'; exact ⟨e0, (hmL e0).2 (.inr rfl), by rw [he.1]⟩
    · rintro ⟨e, he', rfl⟩
      rcases (hmL e).1 he' with h' | rfl
      · exact .inl ⟨e, h', rfl⟩
      · right; simp [he.1]
  · exact hlaw.2.trans (h.perm.append_right [e0])
  · rw [setA_new hx, List.map_append, h.view]; simp [he.1, he.2.1]
  · rw [List.pairwise_append]
    refine ⟨h.ord, by simp, ?_⟩
    intro a ha b hb
    simp at hb; subst hb
    have := h.bound a ha
    rw [he.2.2.1]; omega
  · intro e he'
    rcases List.mem_append.1 he' with h' | h'
    · have := h.bound e h'; omega
    · simp at h'; subst h'; rw [he.2.2.1]; exact Int.le_refl _
  · intro b hb
    rcases hp.sub b hb with hb | hb | hb
    · exact .inl (h.fH b hb)
    · exact .inr (by rw [hb, he.2.2.2]; exact Nat.le_refl _)
    · exact .inr (Nat.le_trans (Nat.le_trans k1.size k2.size) hb)

set_option maxRecDepth 100000 in
set_option maxHeartbeats 1000000 in
theorem hpush_any (w : World) (Q : Nat) (v m : Value) (t : Int) (L : List Ent) (e0 : Ent) (x : Value) (h : HRep w v L) (hQ : QBlk w Q v m t)
    (he : w.heap[e0.blk]? = some (.cells #[.int .u32 e0.item, .int .i64 e0.key, .int .i64 e0.time, x] 180 (0, 0))) (hn : ¬ hfoot v L e0.blk) (hs : L.length + 1 ≤ 1000000) :
    Calls Try.prog 112 #[.iface 182 (.pointer (some ⟨Q, 0, none⟩)), .iface 177 (.pointer (some ⟨e0.blk, 0, none⟩))] w fun e w' => e = .returned (.tuple #[]) ∧ ∃ v', PushPost w Q v m t L (upL (L ++ [e0]) L.length) e0 w' v' := by
  have mP := fun w => method_Push_raw ⟨Q, 0, none⟩ w
  have H0 := Lib.hid h
  have HQ := Lib.hid hQ
  have HE := Lib.hid he
  have HN := Lib.hid hn
  clear h hQ he hn
  go_enter Try.func112, Try.ntmps112
  go_wp2_with fail
  refine (opush_any _ Q v m t L e0 x H0.out HQ.out HE.out HN.out hs).mono ?_; rintro e w1 ⟨rfl, v', hP⟩
  have mN := method_Len hP.q.c0
  have HP := Lib.hid hP
  clear hP
  go_wp2_with fail
  refine (len_any _ v' _ HP.out.rep).mono ?_; rintro e w' ⟨he, rfl⟩; rw [List.length_append, List.length_singleton] at he; subst he
  go_wp2_with fail
  refine (up_any _ Q v' _ HP.out.rep HP.out.q.c0 (HP.out.q.nfoot HP.out.rep) L.length (by simp)).mono ?_; rintro e w2 ⟨rfl, hU⟩
  have hp2 : PushPost w Q v m t L (upL (L ++ [e0]) L.length) e0 w2 v' :=
    ⟨hU.rep, hU.qblk HP.out.q HP.out.rep, HP.out.keeps.trans' hU.keeps (fun b hb => by rcases HP.out.sub b hb with h | h | h; exact .inl (.inr (.inl h)); exact .inl (.inr (.inr h)); exact .inr h),
      fun b hb => HP.out.sub b (hU.sub b hb)⟩
  have HP2 := Lib.hid hp2
  clear hp2 hU
  go_wp2_with fail
  go_end0
  exact ⟨rfl, v', HP2.out⟩

set_option maxRecDepth 100000 in
set_option maxHeartbeats 1000000 in
theorem set_new (w : World) (Q : Nat) (A : List (Int × Int)) (t : Int) (F : Nat → Prop) (h : QRep w Q A t F) (x k : Int) (hx : ∀ p ∈ A, p.1 ≠ x) (ht : 0 ≤ t ∧ t ≤ 1000000000000000) (hA : A.length ≤ 999999) :
    Calls Try.prog 95 #[.pointer (some ⟨Q, 0, none⟩), .int .u32 x, .int .i64 k] w fun e w' => e = .returned (.tuple #[]) ∧ QRep w' Q (setA A x k) (t + 1) (fun b => F b ∨ w.heap.size ≤ b) ∧ Keeps F w w' := by
  obtain ⟨v, Mb, l, L, E, h⟩ := h
  have c1 := h.q.c1
  have c2 := h.q.c2
  have f2 : w.frozen? ⟨Q, 2, none⟩ = false := frozen_of_blk h.q
  have lQ := h.lt.1
  have lM := h.lt.2.1
  have nM : Mb ≠ Q := by
    rintro rfl
    obtain ⟨es, c, hb, _⟩ := h.mp
    have := h.q; unfold QBlk at this; rw [hb] at this; simp at this
  have q1 : QBlk (w.setCell ⟨Q, 2, none⟩ (.int .i64 (t + 1))) Q v (.map (some Mb)) (t + 1) := by unfold QBlk; rw [blk_set_same h.q]; rfl
  have k1 : Keeps (fun b => b = Q) w (w.setCell ⟨Q, 2, none⟩ (.int .i64 (t + 1))) := (Keeps.refl (fun b => b = Q) w).setCell (p := ⟨Q, 2, none⟩) (.inl rfl) _
  have m1 := h.mp.keeps k1 nM
  have hmiss := h.miss hx
  have r1 := h.rep.keeps k1 (fun b hb e => h.q.nfoot h.rep (e ▸ hb))
  have sz1 : (w.setCell ⟨Q, 2, none⟩ (.int .i64 (t + 1))).heap.size = w.heap.size := World.size_setCell ..
  have HL := Lib.hid h.len
  have HM := Lib.hid m1
  have HMS := Lib.hid hmiss
  have H0 := Lib.hid h
  have HX := Lib.hid hx
  have Q1 := Lib.hid q1
  have K1 := Lib.hid k1
  have R1 := Lib.hid r1
  have t0 := ht.1
  have t1 := ht.2
  clear h hx hmiss m1 q1 k1 r1 ht
  go_enter Try.func95, Try.ntmps95
  go_wp2_with (first | (at_lookup; refine wpList_ilookup_ok_miss rfl _ _ _ rfl Try.underlying172 Try.underlying90 HM.out (zero_entry _) x rfl rfl HMS.out ?_) | (at_mapUpdate; refine wpList_iupdate_new rfl _ _ _ _ rfl Try.underlying172 Try.underlying90 (HM.out.alloc _) x _ rfl rfl rfl HMS.out ?_))
  intro w2 m2 k2
  have q2 : QBlk w2 Q v (.map (some Mb)) (t + 1) := k2.heap ((Keeps.refl (fun _ => False) _).alloc _ |>.heap Q1.out (fun h => h)) (fun e => nM e.symm)
  have r2 : HRep w2 v L := (R1.out.keeps ((Keeps.refl (fun _ => False) _).alloc _) (fun _ _ h => h)).keeps k2 (fun b hb e => by
    subst e
    obtain ⟨es, c, hbm, _⟩ := H0.out.mp
    rcases hb with hb | ⟨e, he, rfl⟩
    · rcases H0.out.rep.row.2 with ⟨hv, _⟩ | ⟨g, cap, cur, hv, _, hg, _⟩
      · rw [hv] at hb; simp [Value.ownBlock] at hb
      · rw [hv] at hb; simp [Value.ownBlock] at hb
        subst hb; rw [hbm] at hg; simp at hg
    · obtain ⟨j, hj⟩ := List.mem_iff_getElem?.1 he
      rw [H0.out.rep.ent j e hj] at hbm; simp at hbm)
  have e2 : w2.heap[w.heap.size]? = some (.cells #[.int .u32 x, .int .i64 k, .int .i64 (t + 1), .int .i64 0] 180 (0, 0)) := by
    rw [k2.block _ (by simp) (by omega)]
    have := heap_alloc_new (w.setCell ⟨Q, 2, none⟩ (.int .i64 (t + 1))) (.cells #[.int .u32 x, .int .i64 k, .int .i64 (t + 1), .int .i64 0] 180 (0, 0))
    rw [sz1] at this
    exact this
  have n2 : ¬ hfoot v L w.heap.size := fun hb => by have := H0.out.lt.2.2 _ hb; omega
  have c1' := q2.c1
  have M2 := Lib.hid m2
  have K2 := Lib.hid k2
  have Q2 := Lib.hid q2
  have R2 := Lib.hid r2
  have E2 := Lib.hid e2
  have N2 := Lib.hid n2
  clear m2 k2 q2 r2 e2 n2
  go_wp2_with fail
  refine (hpush_any _ Q v _ (t + 1) L ⟨w.heap.size, x, k, t + 1⟩ _ R2.out Q2.out E2.out N2.out (by have := HL.out; omega)).mono ?_; rintro e w3 ⟨rfl, v', hP⟩
  have hpost := set_new_post H0.out x k HX.out ⟨w.heap.size, x, k, t + 1⟩ ⟨rfl, rfl, rfl, rfl⟩ (K1.out.alloc _) (((Keeps.refl (fun _ => False) _).alloc _).heap Q1.out (fun h => h)) M2.out K2.out hP
  have HPO := Lib.hid hpost
  clear hpost hP
  go_wp2_with fail
  go_end0
  exact ⟨rfl, HPO.out⟩

end Go.Proofs.Ytcfcmmajlkkabaa.U
