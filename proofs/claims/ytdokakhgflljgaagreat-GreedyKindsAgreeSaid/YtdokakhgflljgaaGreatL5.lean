/- The queue: what it holds as a list of items and keys in the order in which the keys were set; New, Len, Key walked. The queue: Set walked, for a new item and for one that is there. The queue: Set of an item that is there, Take, Drop. The queue: Take and Drop. Costs in plain words: two solutions agree; the search that corrects costs. breadth.limited and breadth.Plan. No condition beyond what each theorem says. -/
import Derived.Test.YtdokakhgflljgaaGreatL4
import Derived.Test.YtdokakhgflljgaaGreatL1
import Derived.Deep.RegionLaw
import Derived.Test.YtdokakhgflljgaaGreatL3

namespace Go.Proofs.YtdokakhgflljgaaGreat.U
open Go.RowKit

structure QR (w : World) (Q : Nat) (v : Value) (Mb : Nat) (l : List (Int × Value)) (L E : List Ent) (A : List (Int × Int)) (t : Int) (F : Nat → Prop) : Prop where
  rep : HRep w v L
  q : QBlk w Q v (.map (some Mb)) t
  mp : IMap w Mb .u32 l
  nd : (l.map Prod.fst).Nodup
  mem : ∀ p, p ∈ l ↔ ∃ e ∈ L, p = (e.item, e.ptr)
  heap : Heap L L.length
  perm : L.Perm E
  view : E.map (fun e => (e.item, e.key)) = A
  ord : E.Pairwise (fun a b => a.time < b.time)
  bound : ∀ e ∈ E, e.time ≤ t
  ndA : (A.map Prod.fst).Nodup
  fQ : F Q
  fM : F Mb
  fH : ∀ b, hfoot v L b → F b

/-- The queue at block Q holds the items and keys of A, in the order in which the keys were set; its blocks lie in F. -/
def QRep (w : World) (Q : Nat) (A : List (Int × Int)) (t : Int) (F : Nat → Prop) : Prop := ∃ v Mb l L E, QR w Q v Mb l L E A t F

theorem QR.len {w : World} {Q : Nat} {v : Value} {Mb : Nat} {l : List (Int × Value)} {L E : List Ent} {A : List (Int × Int)} {t : Int} {F : Nat → Prop} (h : QR w Q v Mb l L E A t F) : L.length = A.length := by
  rw [h.perm.length_eq, ← h.view]; simp

theorem QR.lt {w : World} {Q : Nat} {v : Value} {Mb : Nat} {l : List (Int × Value)} {L E : List Ent} {A : List (Int × Int)} {t : Int} {F : Nat → Prop} (h : QR w Q v Mb l L E A t F) : Q < w.heap.size ∧ Mb < w.heap.size ∧ ∀ b, hfoot v L b → b < w.heap.size :=
  ⟨lt_of_heap h.q, h.mp.lt, fun _ hb => h.rep.lt hb⟩

theorem QRep.keeps {S : Nat → Prop} {w w' : World} {Q : Nat} {A : List (Int × Int)} {t : Int} {F : Nat → Prop} (h : QRep w Q A t F) (hk : Keeps S w w') (hs : ∀ b, F b → ¬ S b) : QRep w' Q A t F := by
  obtain ⟨v, Mb, l, L, E, h⟩ := h
  exact ⟨v, Mb, l, L, E, { h with rep := h.rep.keeps hk (fun b hb => hs b (h.fH b hb)), q := hk.heap h.q (hs _ h.fQ), mp := h.mp.keeps hk (hs _ h.fM) }⟩

theorem QRep.mono {w : World} {Q : Nat} {A : List (Int × Int)} {t : Int} {F F' : Nat → Prop} (h : QRep w Q A t F) (hf : ∀ b, b < w.heap.size → F b → F' b) : QRep w Q A t F' := by
  obtain ⟨v, Mb, l, L, E, h⟩ := h
  exact ⟨v, Mb, l, L, E, { h with fQ := hf _ h.lt.1 h.fQ, fM := hf _ h.lt.2.1 h.fM, fH := fun b hb => hf b (h.lt.2.2 b hb) (h.fH b hb) }⟩

/-- A key's entry. -/
theorem QR.find {w : World} {Q : Nat} {v : Value} {Mb : Nat} {l : List (Int × Value)} {L E : List Ent} {A : List (Int × Int)} {t : Int} {F : Nat → Prop} (h : QR w Q v Mb l L E A t F) {x k : Int} (hx : (x, k) ∈ A) :
    ∃ e, e ∈ L ∧ e.item = x ∧ e.key = k ∧ (x, e.ptr) ∈ l := by
  rw [← h.view] at hx
  obtain ⟨e, he, hp⟩ := List.mem_map.1 hx
  simp at hp
  have hL := h.perm.mem_iff.2 he
  exact ⟨e, hL, hp.1, hp.2, (h.mem _).2 ⟨e, hL, by rw [hp.1]⟩⟩

theorem QR.miss {w : World} {Q : Nat} {v : Value} {Mb : Nat} {l : List (Int × Value)} {L E : List Ent} {A : List (Int × Int)} {t : Int} {F : Nat → Prop} (h : QR w Q v Mb l L E A t F) {x : Int} (hx : ∀ p ∈ A, p.1 ≠ x) : ∀ p ∈ l, p.1 ≠ x := by
  intro p hp
  obtain ⟨e, he, rfl⟩ := (h.mem p).1 hp
  have : (e.item, e.key) ∈ A := by rw [← h.view]; exact List.mem_map.2 ⟨e, h.perm.mem_iff.1 he, rfl⟩
  exact hx _ this

set_option maxRecDepth 100000 in
set_option maxHeartbeats 400000 in
theorem new_any (w : World) : Calls Tryz.prog 53 #[] w fun e w' => e = .returned (.pointer (some ⟨w.heap.size + 1, 0, none⟩)) ∧ QRep w' (w.heap.size + 1) [] 0 (fun b => w.heap.size ≤ b) ∧ Keeps (fun _ => False) w w' := by
  have hmm := @run_makeMap Tryz.prog
  go_enter Tryz.func53, Tryz.ntmps53
  go_wp2
  go_ret
  refine ⟨rfl, ⟨.slice none 0 0, w.heap.size, [], [], [], ?_⟩, ((Keeps.refl _ _).alloc _).alloc _⟩
  refine ⟨⟨World.ownsRow_nil _ _ _ _, by simp, by simp⟩, ?_, (IMap.made w .u32).alloc _, by simp, by simp, fun c _ h => by simp at h, List.Perm.refl _, rfl, List.Pairwise.nil, by simp, by simp, ?_, Nat.le_refl _, ?_⟩
  · unfold QBlk
    have := heap_alloc_new (w.alloc (.map #[] 0)) (.cells #[.slice none 0 0, .map (some w.heap.size), .int .i64 0] 135 (0, 0))
    simpa using this
  · show w.heap.size ≤ w.heap.size + 1; omega
  · rintro b (hb | ⟨e, he, _⟩)
    · simp [Value.ownBlock] at hb
    · simp at he

set_option maxRecDepth 100000 in
set_option maxHeartbeats 400000 in
theorem qlen_any (w : World) (Q : Nat) (A : List (Int × Int)) (t : Int) (F : Nat → Prop) (h : QRep w Q A t F) :
    Calls Tryz.prog 55 #[.pointer (some ⟨Q, 0, none⟩)] w fun e w' => e = .returned (.int .i64 (A.length : Int)) ∧ w = w' := by
  obtain ⟨v, Mb, l, L, E, h⟩ := h
  obtain ⟨ao, cap, rfl⟩ := h.rep.isSlice
  have c0 := h.q.c0
  have HL := Lib.hid h.len
  clear h
  go_enter Tryz.func55, Tryz.ntmps55
  go_wp2
  go_ret
  exact ⟨by rw [← HL.out]; rfl, rfl⟩

theorem zero_entry (w : World) : (zeroValue 136).run Tryz.prog w = .ok (.pointer none) w := by kernel_rfl

end Go.Proofs.YtdokakhgflljgaaGreat.U

namespace Go.Proofs.YtdokakhgflljgaaGreat.U
open Go.RowKit

def setA (A : List (Int × Int)) (x k : Int) : List (Int × Int) := A.filter (fun p => p.1 != x) ++ [(x, k)]

theorem setA_new {A : List (Int × Int)} {x k : Int} (hx : ∀ p ∈ A, p.1 ≠ x) : setA A x k = A ++ [(x, k)] := by
  unfold setA; congr 1; rw [List.filter_eq_self]; intro p hp; simpa using hx p hp

theorem filter_view (E : List Ent) (x : Int) : (E.filter (fun e => e.item != x)).map (fun e => (e.item, e.key)) = (E.map (fun e => (e.item, e.key))).filter (fun p => p.1 != x) := by
  rw [List.filter_map]; rfl

theorem nodup_setA {A : List (Int × Int)} {x k : Int} (h : (A.map Prod.fst).Nodup) : ((setA A x k).map Prod.fst).Nodup := by
  unfold setA
  rw [List.map_append, List.nodup_append]
  refine ⟨(List.Sublist.map Prod.fst List.filter_sublist).nodup h, by simp, ?_⟩
  intro a ha b hb e
  simp at hb
  subst hb; subst e
  obtain ⟨p, hp, rfl⟩ := List.mem_map.1 ha
  have := (List.mem_filter.1 hp).2
  simp at this

theorem HRep.cells {w : World} {v : Value} {L : List Ent} (h : HRep w v L) {b : Nat} (hb : hfoot v L b) : ∃ cs T fr, w.heap[b]? = some (.cells cs T fr) := by
  rcases hb with hb | ⟨e, he, rfl⟩
  · rcases h.row.2 with ⟨hv, _⟩ | ⟨g, cap, cur, hv, _, hg, _⟩
    · rw [hv] at hb; simp [Value.ownBlock] at hb
    · rw [hv] at hb; simp [Value.ownBlock] at hb
      subst hb; exact ⟨_, _, _, hg⟩
  · obtain ⟨j, hj⟩ := List.mem_iff_getElem?.1 he
    exact ⟨_, _, _, h.ent j e hj⟩

/-- What Set leaves: for a new item. -/
theorem set_new_post {w w1 w2 w3 : World} {Q : Nat} {v : Value} {Mb : Nat} {l : List (Int × Value)} {L E : List Ent} {A : List (Int × Int)} {t : Int} {F : Nat → Prop} (h : QR w Q v Mb l L E A t F) (x k : Int) (hx : ∀ p ∈ A, p.1 ≠ x) (e0 : Ent)
    (he : e0.item = x ∧ e0.key = k ∧ e0.time = t + 1 ∧ e0.blk = w.heap.size)
    (k1 : Keeps (fun b => b = Q) w w1) (q1 : QBlk w1 Q v (.map (some Mb)) (t + 1)) (m2 : IMap w2 Mb .u32 (l ++ [(x, e0.ptr)])) (k2 : Keeps (fun b => b = Mb) w1 w2)
    {v' : Value} (hp : PushPost w2 Q v (.map (some Mb)) (t + 1) L (upL (L ++ [e0]) L.length) e0 w3 v') : QRep w3 Q (setA A x k) (t + 1) (fun b => (F b ∧ ((∃ cs T fr, w3.heap[b]? = some (.cells cs T fr)) ∨ ∃ es c, w.heap[b]? = some (.map es c))) ∨ (w.heap.size ≤ b ∧ ∃ cs T fr, w3.heap[b]? = some (.cells cs T fr))) ∧ Keeps F w w3 := by
  have hlt := h.lt
  have hlaw := push_law (e := e0) h.heap
  have hmL : ∀ e, e ∈ upL (L ++ [e0]) L.length ↔ e ∈ L ∨ e = e0 := fun e => by rw [hlaw.2.mem_iff]; simp
  have hlen : (upL (L ++ [e0]) L.length).length = L.length + 1 := by rw [hlaw.2.length_eq]; simp
  have nM : Mb ≠ Q := by
    rintro rfl
    obtain ⟨es, c, hb, _⟩ := h.mp
    have := h.q; unfold QBlk at this; rw [hb] at this; simp at this
  have nMf : ¬ hfoot v L Mb := by
    intro hb
    obtain ⟨es, c, hbm, _⟩ := h.mp
    rcases hb with hb | ⟨e, he, rfl⟩
    · rcases h.rep.row.2 with ⟨hv, _⟩ | ⟨g, cap, cur, hv, _, hg, _⟩
      · rw [hv] at hb; simp [Value.ownBlock] at hb
      · rw [hv] at hb; simp [Value.ownBlock] at hb
        subst hb; rw [hbm] at hg; simp at hg
    · obtain ⟨j, hj⟩ := List.mem_iff_getElem?.1 he
      rw [h.rep.ent j e hj] at hbm; simp at hbm
  have hk3 : Keeps F w w3 := by
    refine ((k1.mono (S' := F) (fun b _ hb => hb ▸ h.fQ)).trans (k2.mono (S' := F) (fun b _ hb => hb ▸ h.fM))).trans' hp.keeps ?_
    rintro b (hb | hb | hb)
    · exact .inl (hb ▸ h.fQ)
    · exact .inl (h.fH b hb)
    · exact .inr (by rw [hb, he.2.2.2]; exact Nat.le_refl _)
  refine ⟨⟨v', Mb, l ++ [(x, e0.ptr)], upL (L ++ [e0]) L.length, E ++ [e0], ?_⟩, hk3⟩
  refine { rep := hp.rep, q := hp.q, mp := m2.keeps hp.keeps ?_, nd := ?_, mem := ?_, heap := by rw [hlen]; exact hlaw.1, perm := ?_, view := ?_, ord := ?_, bound := ?_, ndA := nodup_setA h.ndA, fQ := .inl ⟨h.fQ, .inl ⟨_, _, _, hp.q⟩⟩, fM := .inl ⟨h.fM, .inr (by obtain ⟨es, c, hb, _⟩ := h.mp; exact ⟨es, c, hb⟩)⟩, fH := ?_ }
  · rintro (hb | hb | hb)
    · exact nM hb
    · exact nMf hb
    · rw [he.2.2.2] at hb; have := hlt.2.1; omega
  · rw [List.map_append, List.nodup_append]
    refine ⟨h.nd, by simp, ?_⟩
    intro a ha b hb e
    simp at hb
    obtain ⟨p, hp', rfl⟩ := List.mem_map.1 ha
    exact h.miss hx p hp' (by rw [e, hb])
  · intro p
    rw [List.mem_append, h.mem]
    constructor
    · rintro (⟨e, he', rfl⟩ | hp')
      · exact ⟨e, (hmL e).2 (.inl he'), rfl⟩
      · simp at hp'; subst hp'; exact ⟨e0, (hmL e0).2 (.inr rfl), by rw [he.1]⟩
    · rintro ⟨e, he', rfl⟩
      rcases (hmL e).1 he' with h' | rfl
      · exact .inl ⟨e, h', rfl⟩
      · right; simp [he.1]
  · exact hlaw.2.trans (h.perm.append_right [e0])
  · rw [setA_new hx, List.map_append, h.view]; simp [he.1, he.2.1]
  · rw [List.pairwise_append]
    refine ⟨h.ord, by simp, ?_⟩
    intro a ha b hb
    simp at hb; subst hb
    have := h.bound a ha
    rw [he.2.2.1]; omega
  · intro e he'
    rcases List.mem_append.1 he' with h' | h'
    · have := h.bound e h'; omega
    · simp at h'; subst h'; rw [he.2.2.1]; exact Int.le_refl _
  · intro b hb
    have hc := hp.rep.cells hb
    rcases hp.sub b hb with hb | hb | hb
    · exact .inl ⟨h.fH b hb, .inl hc⟩
    · exact .inr ⟨by rw [hb, he.2.2.2]; exact Nat.le_refl _, hc⟩
    · exact .inr ⟨Nat.le_trans (Nat.le_trans k1.size k2.size) hb, hc⟩

set_option maxRecDepth 100000 in
set_option maxHeartbeats 1000000 in
theorem hpush_any (w : World) (Q : Nat) (v m : Value) (t : Int) (L : List Ent) (e0 : Ent) (x : Value) (h : HRep w v L) (hQ : QBlk w Q v m t)
    (he : w.heap[e0.blk]? = some (.cells #[.int .u32 e0.item, .int .i64 e0.key, .int .i64 e0.time, x] 139 (0, 0))) (hn : ¬ hfoot v L e0.blk) (hs : L.length + 1 ≤ 1000000) :
    Calls Tryz.prog 73 #[.iface 141 (.pointer (some ⟨Q, 0, none⟩)), .iface 136 (.pointer (some ⟨e0.blk, 0, none⟩))] w fun e w' => e = .returned (.tuple #[]) ∧ ∃ v', PushPost w Q v m t L (upL (L ++ [e0]) L.length) e0 w' v' := by
  have mP := fun w => method_Push_raw ⟨Q, 0, none⟩ w
  have H0 := Lib.hid h
  have HQ := Lib.hid hQ
  have HE := Lib.hid he
  have HN := Lib.hid hn
  clear h hQ he hn
  go_enter Tryz.func73, Tryz.ntmps73
  go_wp2_with fail
  refine (opush_any _ Q v m t L e0 x H0.out HQ.out HE.out HN.out hs).mono ?_; rintro e w1 ⟨rfl, v', hP⟩
  have mN := method_Len hP.q.c0
  have HP := Lib.hid hP
  clear hP
  go_wp2_with fail
  refine (len_any _ v' _ HP.out.rep).mono ?_; rintro e w' ⟨he, rfl⟩; rw [List.length_append, List.length_singleton] at he; subst he
  go_wp2_with fail
  refine (up_any _ Q v' _ HP.out.rep HP.out.q.c0 (HP.out.q.nfoot HP.out.rep) L.length (by simp)).mono ?_; rintro e w2 ⟨rfl, hU⟩
  have hp2 : PushPost w Q v m t L (upL (L ++ [e0]) L.length) e0 w2 v' :=
    ⟨hU.rep, hU.qblk HP.out.q HP.out.rep, HP.out.keeps.trans' hU.keeps (fun b hb => by rcases HP.out.sub b hb with h | h | h; exact .inl (.inr (.inl h)); exact .inl (.inr (.inr h)); exact .inr h),
      fun b hb => HP.out.sub b (hU.sub b hb)⟩
  have HP2 := Lib.hid hp2
  clear hp2 hU
  go_wp2_with fail
  go_end0
  exact ⟨rfl, v', HP2.out⟩

set_option maxRecDepth 100000 in
set_option maxHeartbeats 1000000 in
theorem set_new2 (w : World) (Q : Nat) (A : List (Int × Int)) (t : Int) (F : Nat → Prop) (h : QRep w Q A t F) (x k : Int) (hx : ∀ p ∈ A, p.1 ≠ x) (ht : 0 ≤ t ∧ t ≤ 1000000000000000) (hA : A.length ≤ 999999) :
    Calls Tryz.prog 54 #[.pointer (some ⟨Q, 0, none⟩), .int .u32 x, .int .i64 k] w fun e w' => e = .returned (.tuple #[]) ∧ QRep w' Q (setA A x k) (t + 1) (fun b => (F b ∧ ((∃ cs T fr, w'.heap[b]? = some (.cells cs T fr)) ∨ ∃ es c, w.heap[b]? = some (.map es c))) ∨ (w.heap.size ≤ b ∧ ∃ cs T fr, w'.heap[b]? = some (.cells cs T fr))) ∧ Keeps F w w' := by
  obtain ⟨v, Mb, l, L, E, h⟩ := h
  have c1 := h.q.c1
  have c2 := h.q.c2
  have f2 : w.frozen? ⟨Q, 2, none⟩ = false := frozen_of_blk h.q
  have lQ := h.lt.1
  have lM := h.lt.2.1
  have nM : Mb ≠ Q := by
    rintro rfl
    obtain ⟨es, c, hb, _⟩ := h.mp
    have := h.q; unfold QBlk at this; rw [hb] at this; simp at this
  have q1 : QBlk (w.setCell ⟨Q, 2, none⟩ (.int .i64 (t + 1))) Q v (.map (some Mb)) (t + 1) := by unfold QBlk; rw [blk_set_same h.q]; rfl
  have k1 : Keeps (fun b => b = Q) w (w.setCell ⟨Q, 2, none⟩ (.int .i64 (t + 1))) := (Keeps.refl (fun b => b = Q) w).setCell (p := ⟨Q, 2, none⟩) (.inl rfl) _
  have m1 := h.mp.keeps k1 nM
  have hmiss := h.miss hx
  have r1 := h.rep.keeps k1 (fun b hb e => h.q.nfoot h.rep (e ▸ hb))
  have sz1 : (w.setCell ⟨Q, 2, none⟩ (.int .i64 (t + 1))).heap.size = w.heap.size := World.size_setCell ..
  have HL := Lib.hid h.len
  have HM := Lib.hid m1
  have HMS := Lib.hid hmiss
  have H0 := Lib.hid h
  have HX := Lib.hid hx
  have Q1 := Lib.hid q1
  have K1 := Lib.hid k1
  have R1 := Lib.hid r1
  have t0 := ht.1
  have t1 := ht.2
  clear h hx hmiss m1 q1 k1 r1 ht
  go_enter Tryz.func54, Tryz.ntmps54
  go_wp2_with (first | (at_lookup; refine wpList_ilookup_ok_miss rfl _ _ _ rfl Tryz.underlying131 Tryz.underlying66 HM.out (zero_entry _) x rfl rfl HMS.out ?_) | (at_mapUpdate; refine wpList_iupdate_new rfl _ _ _ _ rfl Tryz.underlying131 Tryz.underlying66 (HM.out.alloc _) x _ rfl rfl rfl HMS.out ?_))
  intro w2 m2 k2
  have q2 : QBlk w2 Q v (.map (some Mb)) (t + 1) := k2.heap ((Keeps.refl (fun _ => False) _).alloc _ |>.heap Q1.out (fun h => h)) (fun e => nM e.symm)
  have r2 : HRep w2 v L := (R1.out.keeps ((Keeps.refl (fun _ => False) _).alloc _) (fun _ _ h => h)).keeps k2 (fun b hb e => by
    subst e
    obtain ⟨es, c, hbm, _⟩ := H0.out.mp
    rcases hb with hb | ⟨e, he, rfl⟩
    · rcases H0.out.rep.row.2 with ⟨hv, _⟩ | ⟨g, cap, cur, hv, _, hg, _⟩
      · rw [hv] at hb; simp [Value.ownBlock] at hb
      · rw [hv] at hb; simp [Value.ownBlock] at hb
        subst hb; rw [hbm] at hg; simp at hg
    · obtain ⟨j, hj⟩ := List.mem_iff_getElem?.1 he
      rw [H0.out.rep.ent j e hj] at hbm; simp at hbm)
  have e2 : w2.heap[w.heap.size]? = some (.cells #[.int .u32 x, .int .i64 k, .int .i64 (t + 1), .int .i64 0] 139 (0, 0)) := by
    rw [k2.block _ (by simp) (by omega)]
    have := heap_alloc_new (w.setCell ⟨Q, 2, none⟩ (.int .i64 (t + 1))) (.cells #[.int .u32 x, .int .i64 k, .int .i64 (t + 1), .int .i64 0] 139 (0, 0))
    rw [sz1] at this
    exact this
  have n2 : ¬ hfoot v L w.heap.size := fun hb => by have := H0.out.lt.2.2 _ hb; omega
  have c1' := q2.c1
  have M2 := Lib.hid m2
  have K2 := Lib.hid k2
  have Q2 := Lib.hid q2
  have R2 := Lib.hid r2
  have E2 := Lib.hid e2
  have N2 := Lib.hid n2
  clear m2 k2 q2 r2 e2 n2
  go_wp2_with fail
  refine (hpush_any _ Q v _ (t + 1) L ⟨w.heap.size, x, k, t + 1⟩ _ R2.out Q2.out E2.out N2.out (by have := HL.out; omega)).mono ?_; rintro e w3 ⟨rfl, v', hP⟩
  have hpost := set_new_post H0.out x k HX.out ⟨w.heap.size, x, k, t + 1⟩ ⟨rfl, rfl, rfl, rfl⟩ (K1.out.alloc _) (((Keeps.refl (fun _ => False) _).alloc _).heap Q1.out (fun h => h)) M2.out K2.out hP
  have HPO := Lib.hid hpost
  clear hpost hP
  go_wp2_with fail
  go_end0
  exact ⟨rfl, HPO.out⟩
theorem set_new (w : World) (Q : Nat) (A : List (Int × Int)) (t : Int) (F : Nat → Prop) (h : QRep w Q A t F) (x k : Int) (hx : ∀ p ∈ A, p.1 ≠ x) (ht : 0 ≤ t ∧ t ≤ 1000000000000000) (hA : A.length ≤ 999999) :
    Calls Tryz.prog 54 #[.pointer (some ⟨Q, 0, none⟩), .int .u32 x, .int .i64 k] w fun e w' => e = .returned (.tuple #[]) ∧ QRep w' Q (setA A x k) (t + 1) (fun b => F b ∨ w.heap.size ≤ b) ∧ Keeps F w w' :=
  (set_new2 w Q A t F h x k hx ht hA).mono fun _ _ h => ⟨h.1, h.2.1.mono (fun _ _ hb => hb.imp (fun h => h.1) (fun h => h.1)), h.2.2⟩

end Go.Proofs.YtdokakhgflljgaaGreat.U

namespace Go.Proofs.YtdokakhgflljgaaGreat.U
open Go.RowKit

theorem QR.nM {w : World} {Q : Nat} {v : Value} {Mb : Nat} {l : List (Int × Value)} {L E : List Ent} {A : List (Int × Int)} {t : Int} {F : Nat → Prop} (h : QR w Q v Mb l L E A t F) : Mb ≠ Q := by
  rintro rfl
  obtain ⟨es, c, hb, _⟩ := h.mp
  have := h.q; unfold QBlk at this; rw [hb] at this; simp at this

theorem QR.nMf {w : World} {Q : Nat} {v : Value} {Mb : Nat} {l : List (Int × Value)} {L E : List Ent} {A : List (Int × Int)} {t : Int} {F : Nat → Prop} (h : QR w Q v Mb l L E A t F) : ¬ hfoot v L Mb := by
  intro hb
  obtain ⟨es, c, hbm, _⟩ := h.mp
  rcases hb with hb | ⟨e, he, rfl⟩
  · rcases h.rep.row.2 with ⟨hv, _⟩ | ⟨g, cap, cur, hv, _, hg, _⟩
    · rw [hv] at hb; simp [Value.ownBlock] at hb
    · rw [hv] at hb; simp [Value.ownBlock] at hb
      subst hb; rw [hbm] at hg; simp at hg
  · obtain ⟨j, hj⟩ := List.mem_iff_getElem?.1 he
    rw [h.rep.ent j e hj] at hbm; simp at hbm

theorem QR.itemInj {w : World} {Q : Nat} {v : Value} {Mb : Nat} {l : List (Int × Value)} {L E : List Ent} {A : List (Int × Int)} {t : Int} {F : Nat → Prop} (h : QR w Q v Mb l L E A t F) {i j : Nat} {a b : Ent} (hi : L[i]? = some a) (hj : L[j]? = some b) (e : a.item = b.item) : i = j := by
  have hp : (L.map (fun e => (e.item, e.key))).Perm A := by rw [← h.view]; exact h.perm.map _
  have hn : ((L.map (fun e => (e.item, e.key))).map Prod.fst).Nodup := (hp.map Prod.fst).nodup_iff.2 h.ndA
  rw [List.map_map] at hn
  have h1 : (L.map (Prod.fst ∘ fun e => (e.item, e.key)))[i]? = some a.item := by rw [List.getElem?_map, hi]; rfl
  have h2 : (L.map (Prod.fst ∘ fun e => (e.item, e.key)))[j]? = some a.item := by rw [List.getElem?_map, hj]; simp [e]
  have li : i < (L.map (Prod.fst ∘ fun e => (e.item, e.key))).length := (List.getElem?_eq_some_iff.1 h1).1
  exact (List.getElem?_inj li hn).1 (h1.trans h2.symm)

/-- The entry turned in place. -/
theorem HRep.turn {w : World} {H cap n : Nat} {L : List Ent} (h : HRep w (.slice (some ⟨H, 0, none⟩) n cap) L) {i : Nat} {e : Ent} (hi : L[i]? = some e) (k t : Int) :
    HRep ((w.setCell ⟨e.blk, 1, none⟩ (.int .i64 k)).setCell ⟨e.blk, 2, none⟩ (.int .i64 t)) (.slice (some ⟨H, 0, none⟩) n cap) (L.set i { e with key := k, time := t }) := by
  have hne := h.ne_row hi (g := H) rfl
  have li : i < L.length := (List.getElem?_eq_some_iff.1 hi).1
  refine ⟨?_, ?_, by simpa using h.small⟩
  · have hr := Keeps.ownsRow (S := fun b => b = e.blk) (((Keeps.refl (fun b => b = e.blk) w).setCell (p := ⟨e.blk, 1, none⟩) (.inl rfl) (.int .i64 k)).setCell (p := ⟨e.blk, 2, none⟩) (.inl rfl) (.int .i64 t)) h.row
      (fun b hb => by simp [Value.ownBlock] at hb; subst hb; exact fun e => hne e.symm)
    have e1 : (L.set i { e with key := k, time := t }).map Ent.ptr = L.map Ent.ptr := by
      rw [List.map_set]
      apply List.ext_getElem?
      intro j
      rw [List.getElem?_set]
      split
      · rename_i hj; subst hj
        have := (List.getElem?_eq_some_iff.1 hi).2
        simp [li, Ent.ptr, this]
      · rfl
    rw [e1, List.length_set]; exact hr
  · intro j a hj
    rw [List.getElem?_set] at hj
    by_cases hij : i = j
    · subst hij
      rw [if_pos rfl, if_pos li] at hj
      obtain rfl := Option.some.inj hj
      rw [blk_set_same (blk_set_same (h.ent i e hi) _)]; rfl
    · rw [if_neg hij] at hj
      have : a.blk ≠ e.blk := fun x => hij (h.inj hj hi x).symm
      rw [blk_set_ne this, blk_set_ne this]
      exact h.ent j a hj

theorem set_old_post {w w1 w2 : World} {Q : Nat} {v : Value} {Mb : Nat} {l : List (Int × Value)} {L E : List Ent} {A : List (Int × Int)} {t : Int} {F : Nat → Prop} (h : QR w Q v Mb l L E A t F) {i : Nat} {e : Ent} (hi : L[i]? = some e) (k : Int)
    (k1 : Keeps (fun b => b = Q ∨ b = e.blk) w w1) (q1 : QBlk w1 Q v (.map (some Mb)) (t + 1)) (hp : HPost w1 v (L.set i { e with key := k, time := t + 1 }) (fixL (L.set i { e with key := k, time := t + 1 }) i) w2) :
    QRep w2 Q (setA A e.item k) (t + 1) (fun b => F b ∧ ((∃ cs T fr, w2.heap[b]? = some (.cells cs T fr)) ∨ ∃ es c, w.heap[b]? = some (.map es c))) ∧ Keeps F w w2 := by
  have li : i < L.length := (List.getElem?_eq_some_iff.1 hi).1
  have he : e ∈ L := List.mem_of_getElem? hi
  have hlaw := fixL_law (e := { e with key := k, time := t + 1 }) li h.heap
  have hfe : hfoot v L e.blk := .inr ⟨e, he, rfl⟩
  have hfs : ∀ b, hfoot v (L.set i { e with key := k, time := t + 1 }) b → hfoot v L b := by
    rintro b (hb | ⟨a, ha, rfl⟩)
    · exact .inl hb
    · rcases List.mem_or_eq_of_mem_set ha with ha | rfl
      · exact .inr ⟨a, ha, rfl⟩
      · exact hfe
  have hmset : ∀ a, a ∈ L.set i { e with key := k, time := t + 1 } ↔ (a ∈ L ∧ a.item ≠ e.item) ∨ a = { e with key := k, time := t + 1 } := by
    intro a
    constructor
    · intro ha
      obtain ⟨j, hj⟩ := List.mem_iff_getElem?.1 ha
      rw [List.getElem?_set] at hj
      by_cases hij : i = j
      · subst hij; rw [if_pos rfl, if_pos li] at hj; exact .inr (Option.some.inj hj).symm
      · rw [if_neg hij] at hj
        exact .inl ⟨List.mem_of_getElem? hj, fun x => hij (h.itemInj hj hi x).symm⟩
    · rintro (⟨ha, hne⟩ | rfl)
      · obtain ⟨j, hj⟩ := List.mem_iff_getElem?.1 ha
        refine List.mem_of_getElem? (i := j) ?_
        rw [List.getElem?_set, if_neg]
        · exact hj
        · rintro rfl; rw [hi] at hj; exact hne (by rw [Option.some.inj hj])
      · refine List.mem_of_getElem? (i := i) ?_
        rw [List.getElem?_set, if_pos rfl, if_pos li]
  have hk2 : Keeps F w w2 := (k1.mono (S' := F) (fun b _ hb => by rcases hb with rfl | rfl; exact h.fQ; exact h.fH _ hfe)).trans (hp.keeps.mono (fun b _ hb => h.fH b (hfs b hb)))
  have hperm : (L.set i { e with key := k, time := t + 1 }).Perm (L.filter (fun a => a.item != e.item) ++ [{ e with key := k, time := t + 1 }]) := by
    have hl : L = L.take i ++ e :: L.drop (i + 1) := by
      have := @List.getElem_cons_drop _ L i li
      rw [(List.getElem?_eq_some_iff.1 hi).2] at this
      rw [this, List.take_append_drop]
    have f1 : (L.take i).filter (fun a => a.item != e.item) = L.take i := by
      rw [List.filter_eq_self]; intro a ha
      obtain ⟨j, hj⟩ := List.mem_iff_getElem?.1 ha
      rw [List.getElem?_take] at hj
      split at hj
      · simp; intro x; have := h.itemInj hj hi x; omega
      · cases hj
    have f2 : (L.drop (i + 1)).filter (fun a => a.item != e.item) = L.drop (i + 1) := by
      rw [List.filter_eq_self]; intro a ha
      obtain ⟨j, hj⟩ := List.mem_iff_getElem?.1 ha
      rw [List.getElem?_drop] at hj
      simp; intro x; have := h.itemInj hj hi x; omega
    have e1 : L.filter (fun a => a.item != e.item) = L.take i ++ L.drop (i + 1) := by
      conv => lhs; rw [hl]
      rw [List.filter_append, List.filter_cons, f1, f2]; simp
    rw [e1, List.set_eq_take_append_cons_drop, if_pos li, List.append_assoc]
    exact List.Perm.append_left _ (List.perm_append_singleton _ _).symm
  have hE : (L.filter (fun a => a.item != e.item)).Perm (E.filter (fun a => a.item != e.item)) := h.perm.filter _
  obtain ⟨ao, cap, hv⟩ := h.rep.isSlice
  refine ⟨⟨v, Mb, l, fixL (L.set i { e with key := k, time := t + 1 }) i, E.filter (fun a => a.item != e.item) ++ [{ e with key := k, time := t + 1 }], ?_⟩, hk2⟩
  have nQ := h.q.nfoot h.rep
  refine { rep := hp.rep, q := hp.keeps.heap q1 (fun hb => nQ (hfs _ hb)), mp := ?_, nd := h.nd, mem := ?_, heap := ?_, perm := hlaw.2.trans (hperm.trans (hE.append_right _)), view := ?_, ord := ?_, bound := ?_, ndA := nodup_setA h.ndA, fQ := ⟨h.fQ, .inl ⟨_, _, _, hp.keeps.heap q1 (fun hb => nQ (hfs _ hb))⟩⟩, fM := ⟨h.fM, .inr (by obtain ⟨es, c, hb, _⟩ := h.mp; exact ⟨es, c, hb⟩)⟩, fH := fun b hb => ⟨h.fH b (hfs b (hp.sub b hb)), .inl (hp.rep.cells hb)⟩ }
  · refine (h.mp.keeps k1 ?_).keeps hp.keeps (fun hb => h.nMf (hfs _ hb))
    rintro (hb | hb)
    · exact h.nM hb
    · exact h.nMf (hb ▸ hfe)
  · intro p
    rw [h.mem]
    constructor
    · rintro ⟨a, ha, rfl⟩
      by_cases hae : a.item = e.item
      · refine ⟨{ e with key := k, time := t + 1 }, hlaw.2.mem_iff.2 ((hmset _).2 (.inr rfl)), ?_⟩
        obtain ⟨j, hj⟩ := List.mem_iff_getElem?.1 ha
        have := h.itemInj hj hi hae
        subst this
        rw [hi] at hj
        obtain rfl := Option.some.inj hj
        rfl
      · exact ⟨a, hlaw.2.mem_iff.2 ((hmset _).2 (.inl ⟨ha, hae⟩)), rfl⟩
    · rintro ⟨a, ha, rfl⟩
      rcases (hmset a).1 (hlaw.2.mem_iff.1 ha) with ⟨ha', _⟩ | rfl
      · exact ⟨a, ha', rfl⟩
      · exact ⟨e, he, rfl⟩
  · rw [hp.len, List.length_set]; exact hlaw.1
  · rw [List.map_append, filter_view, h.view]; rfl
  · rw [List.pairwise_append]
    refine ⟨h.ord.filter _, by simp, ?_⟩
    intro a ha b hb
    simp at hb; subst hb
    have := h.bound a (List.mem_filter.1 ha).1
    show a.time < t + 1; omega
  · intro a ha
    rcases List.mem_append.1 ha with ha | ha
    · have := h.bound a (List.mem_filter.1 ha).1; omega
    · simp at ha; subst ha; exact Int.le_refl _

set_option maxRecDepth 100000 in
set_option maxHeartbeats 1000000 in
theorem set_old2 (w : World) (Q : Nat) (A : List (Int × Int)) (t : Int) (F : Nat → Prop) (h : QRep w Q A t F) (x k k0 : Int) (hx : (x, k0) ∈ A) (ht : 0 ≤ t ∧ t ≤ 1000000000000000) :
    Calls Tryz.prog 54 #[.pointer (some ⟨Q, 0, none⟩), .int .u32 x, .int .i64 k] w fun e w' => e = .returned (.tuple #[]) ∧ QRep w' Q (setA A x k) (t + 1) (fun b => F b ∧ ((∃ cs T fr, w'.heap[b]? = some (.cells cs T fr)) ∨ ∃ es c, w.heap[b]? = some (.map es c))) ∧ Keeps F w w' := by
  obtain ⟨v, Mb, l, L, E, h⟩ := h
  obtain ⟨e, he, rfl, _, h3⟩ := h.find hx
  obtain ⟨i, hi⟩ := List.mem_iff_getElem?.1 he
  have li : i < L.length := (List.getElem?_eq_some_iff.1 hi).1
  obtain ⟨H, cap, cur, hv, -⟩ := h.rep.form (by omega)
  subst hv
  have c1 := h.q.c1
  have c2 := h.q.c2
  have f2 : w.frozen? ⟨Q, 2, none⟩ = false := frozen_of_blk h.q
  have hfe : hfoot (.slice (some ⟨H, 0, none⟩) L.length cap) L e.blk := .inr ⟨e, he, rfl⟩
  have nQE : ¬ Q = e.blk := fun x => h.q.nfoot h.rep (x ▸ hfe)
  have nQE' : ¬ e.blk = Q := fun x => nQE x.symm
  have ce1 := h.rep.e1 hi
  have ce2 := h.rep.e2 hi
  have ce3 := h.rep.e3 hi
  have fe1 : w.frozen? ⟨e.blk, 1, none⟩ = false := frozen_of_blk (h.rep.ent i e hi)
  have fe2 : w.frozen? ⟨e.blk, 2, none⟩ = false := frozen_of_blk (h.rep.ent i e hi)
  have q1 : QBlk (w.setCell ⟨Q, 2, none⟩ (.int .i64 (t + 1))) Q (.slice (some ⟨H, 0, none⟩) L.length cap) (.map (some Mb)) (t + 1) := by unfold QBlk; rw [blk_set_same h.q]; rfl
  have k1 : Keeps (fun b => b = Q) w (w.setCell ⟨Q, 2, none⟩ (.int .i64 (t + 1))) := (Keeps.refl (fun b => b = Q) w).setCell (p := ⟨Q, 2, none⟩) (.inl rfl) _
  have m1 := h.mp.keeps k1 h.nM
  have r1 := h.rep.keeps k1 (fun b hb e => h.q.nfoot h.rep (e ▸ hb))
  have r2 := r1.turn hi k (t + 1)
  have k2 : Keeps (fun b => b = Q ∨ b = e.blk) w (((w.setCell ⟨Q, 2, none⟩ (.int .i64 (t + 1))).setCell ⟨e.blk, 1, none⟩ (.int .i64 k)).setCell ⟨e.blk, 2, none⟩ (.int .i64 (t + 1))) :=
    ((k1.mono (fun b _ hb => .inl hb)).setCell (p := ⟨e.blk, 1, none⟩) (.inl (.inr rfl)) _).setCell (p := ⟨e.blk, 2, none⟩) (.inl (.inr rfl)) _
  have q2 : QBlk (((w.setCell ⟨Q, 2, none⟩ (.int .i64 (t + 1))).setCell ⟨e.blk, 1, none⟩ (.int .i64 k)).setCell ⟨e.blk, 2, none⟩ (.int .i64 (t + 1))) Q (.slice (some ⟨H, 0, none⟩) L.length cap) (.map (some Mb)) (t + 1) := by
    unfold QBlk; rw [blk_set_ne nQE, blk_set_ne nQE]; exact q1
  have HM := Lib.hid m1
  have HN := Lib.hid h.nd
  have H3 := Lib.hid h3
  have H0 := Lib.hid h
  have HI := Lib.hid hi
  have R2 := Lib.hid r2
  have K2 := Lib.hid k2
  have Q2 := Lib.hid q2
  have t0 := ht.1
  have t1 := ht.2
  clear h hx m1 q1 k1 r1 r2 k2 q2 ht h3 hi he hfe
  go_enter Tryz.func54, Tryz.ntmps54
  go_wp2_with (at_lookup; refine wpList_ilookup_ok_hit rfl _ _ _ rfl Tryz.underlying131 Tryz.underlying66 HM.out HN.out e.item _ rfl rfl H3.out ?_; simp only [Ent.ptr])
  go_region_with (go_at_call 72; refine (fix_any _ Q _ _ (t + 1) _ (R2.out.drewN 1) Q2.out _ i (by rw [List.length_set]; exact li) rfl).mono ?_; rintro e' w2 ⟨rfl, hP⟩)
  have hpost := set_old_post H0.out HI.out k (K2.out.drewN 1) Q2.out hP
  have HPO := Lib.hid hpost
  clear hpost hP
  go_wp2
  refine bodyPost_ret (results_none rfl _ _ _) rfl ?_
  exact ⟨rfl, HPO.out⟩
theorem set_old (w : World) (Q : Nat) (A : List (Int × Int)) (t : Int) (F : Nat → Prop) (h : QRep w Q A t F) (x k k0 : Int) (hx : (x, k0) ∈ A) (ht : 0 ≤ t ∧ t ≤ 1000000000000000) :
    Calls Tryz.prog 54 #[.pointer (some ⟨Q, 0, none⟩), .int .u32 x, .int .i64 k] w fun e w' => e = .returned (.tuple #[]) ∧ QRep w' Q (setA A x k) (t + 1) F ∧ Keeps F w w' :=
  (set_old2 w Q A t F h x k k0 hx ht).mono fun _ _ h => ⟨h.1, h.2.1.mono (fun _ _ hb => hb.1), h.2.2⟩

end Go.Proofs.YtdokakhgflljgaaGreat.U

namespace Go.Proofs.YtdokakhgflljgaaGreat.U
open Go.RowKit

theorem step_idelete {P : Program} {ops : Array Oper} {o : Oper} {a : Act} {w : World} {K : Act → World → Prop} {Q : Exit → Act → World → Prop} {E : Prop} {k e : TypeId} {kd : IntKind} {b : Nat} {l : List (Int × Value)}
    (hg : o.guard = none) (m x : Operand) (t t2 : TypeId) (hop : o.op = Op.call { callee := Callee.builtin Builtin.delete, args := #[m, x], argTypes := #[t, t2] }) (ht : P.underlying t = some (.map k e)) (hk : P.underlying k = some (.int kd))
    (h : IMap w b kd l) (hn : (l.map Prod.fst).Nodup) (n : Int) (hm : a.eval m = .map (some b)) (hx : a.eval x = .int kd n)
    (hK : ∀ w', IMap w' b kd (l.filter fun p => p.1 != n) → Keeps (fun k => k = b) w w' → K (a.put o.dst (.tuple #[])) w') :
    if Region.wanted o (yielded ops a.tmps) = true then Oper.wp P o a w K Q else E := by
  have hw : Region.wanted o (yielded ops a.tmps) = true := by simp [Region.wanted, hg]
  rw [if_pos hw]
  obtain ⟨w', hrun, r1, r2⟩ := h.run_delete ht hk hn o.type t2 n
  unfold Oper.wp
  simp [execOp, hop, resolve, invoke, builtin, hm, hx, hrun, Result.andThen]
  exact hK w' r1 r2

def firstMin : List (Int × Int) → Option (Int × Int)
  | [] => none
  | p :: r => match firstMin r with
    | none => some p
    | some q => if q.2 < p.2 then some q else some p

theorem firstMin_none {A : List (Int × Int)} : firstMin A = none ↔ A = [] := by
  cases A with
  | nil => simp [firstMin]
  | cons p r => simp [firstMin]; split <;> (try split) <;> simp

theorem firstMin_mem {A : List (Int × Int)} {q : Int × Int} (h : firstMin A = some q) : q ∈ A := by
  induction A generalizing q with
  | nil => simp [firstMin] at h
  | cons p r ih =>
    simp only [firstMin] at h
    split at h
    · simp at h; subst h; simp
    · rename_i q' hq'
      split at h
      · simp at h; subst h; exact List.mem_cons_of_mem _ (ih hq')
      · simp at h; subst h; simp

theorem firstMin_of {E : List Ent} (ho : E.Pairwise (fun a b => a.time < b.time)) {e0 : Ent} (he : e0 ∈ E) (hm : ∀ e ∈ E, leE e0 e) : firstMin (E.map fun e => (e.item, e.key)) = some (e0.item, e0.key) := by
  induction E with
  | nil => simp at he
  | cons a r ih =>
    obtain ⟨h1, h2⟩ := List.pairwise_cons.1 ho
    simp only [List.map_cons, firstMin]
    rcases List.mem_cons.1 he with rfl | he'
    · cases hf : firstMin (r.map fun e => (e.item, e.key)) with
      | none => rfl
      | some q =>
        obtain ⟨e, he2, hq⟩ := List.mem_map.1 (firstMin_mem hf)
        have := (leE_iff _ _).1 (hm e (by simp [he2]))
        subst hq
        simp only
        rw [if_neg (by simp; omega)]
    · rw [ih h2 he' (fun e h => hm e (by simp [h]))]
      have := (leE_iff _ _).1 (hm a (by simp))
      have := h1 e0 he'
      show (if e0.key < a.key then some (e0.item, e0.key) else some (a.item, a.key)) = _
      rw [if_pos (by omega)]

/-- What a call that takes one entry out leaves. -/
theorem took_queue {w w1 w2 : World} {Q : Nat} {v v' : Value} {Mb : Nat} {l : List (Int × Value)} {L E R : List Ent} {A : List (Int × Int)} {t : Int} {F : Nat → Prop} (h : QR w Q v Mb l L E A t F) {e0 : Ent}
    (hT : TookPost w Q v (.map (some Mb)) t L R e0 w1 v') (hp : (R ++ [e0]).Perm L) (hH : Heap R R.length) (hm : IMap w2 Mb .u32 (l.filter fun p => p.1 != e0.item)) (k2 : Keeps (fun b => b = Mb) w1 w2) :
    QRep w2 Q (A.filter fun p => p.1 != e0.item) t F ∧ Keeps F w w2 := by
  have he0 : e0 ∈ L := hp.mem_iff.1 (by simp)
  have nMf := h.nMf
  have hne : ∀ a ∈ R, a.item ≠ e0.item := by
    intro a ha e
    have hn : ((R ++ [e0]).map Ent.item).Nodup := by
      have hpv : (L.map (fun e => (e.item, e.key))).Perm A := by rw [← h.view]; exact h.perm.map _
      have : ((L.map (fun e => (e.item, e.key))).map Prod.fst).Nodup := (hpv.map Prod.fst).nodup_iff.2 h.ndA
      rw [List.map_map] at this
      exact (hp.map Ent.item).nodup_iff.2 this
    rw [List.map_append, List.nodup_append] at hn
    exact hn.2.2 _ (List.mem_map.2 ⟨a, ha, rfl⟩) _ (by simp : e0.item ∈ [e0].map Ent.item) e
  have hRL : ∀ a, a ∈ R ↔ a ∈ L ∧ a.item ≠ e0.item := by
    intro a
    constructor
    · intro ha; exact ⟨hp.mem_iff.1 (by simp [ha]), hne a ha⟩
    · rintro ⟨ha, hn⟩
      have := hp.mem_iff.2 ha
      simp at this
      rcases this with h' | rfl
      · exact h'
      · exact absurd rfl hn
  have hk : Keeps F w w2 := (hT.keeps.mono (S' := F) (fun b _ hb => by rcases hb with rfl | hb; exact h.fQ; exact h.fH b hb)).trans (k2.mono (fun b _ hb => hb ▸ h.fM))
  have hperm : R.Perm (E.filter fun a => a.item != e0.item) := by
    have := ((hp.trans h.perm).filter (fun a => a.item != e0.item))
    rw [List.filter_append] at this
    have f1 : R.filter (fun a => a.item != e0.item) = R := by rw [List.filter_eq_self]; intro a ha; simpa using hne a ha
    rw [f1] at this
    simpa using this
  refine ⟨⟨v', Mb, l.filter (fun p => p.1 != e0.item), R, E.filter (fun a => a.item != e0.item), ?_⟩, hk⟩
  refine { rep := hT.rep.keeps k2 (fun b hb e => nMf (hT.sub _ (e ▸ hb))), q := k2.heap hT.q (fun e => h.nM e.symm), mp := hm, nd := (List.Sublist.map Prod.fst List.filter_sublist).nodup h.nd, mem := ?_, heap := hH, perm := hperm, view := by rw [filter_view, h.view], ord := h.ord.filter _, bound := fun a ha => h.bound a (List.mem_filter.1 ha).1, ndA := (List.Sublist.map Prod.fst List.filter_sublist).nodup h.ndA, fQ := h.fQ, fM := h.fM, fH := fun b hb => h.fH b (hT.sub b hb) }
  intro p
  rw [List.mem_filter, h.mem]
  constructor
  · rintro ⟨⟨a, ha, rfl⟩, hn⟩
    exact ⟨a, (hRL a).2 ⟨ha, by simpa using hn⟩, rfl⟩
  · rintro ⟨a, ha, rfl⟩
    obtain ⟨h1, h2⟩ := (hRL a).1 ha
    exact ⟨⟨a, h1, rfl⟩, by simpa using h2⟩

set_option maxRecDepth 100000 in
set_option maxHeartbeats 1000000 in
theorem take_some (w : World) (Q : Nat) (A : List (Int × Int)) (t : Int) (F : Nat → Prop) (h : QRep w Q A t F) (x k : Int) (hx : firstMin A = some (x, k)) :
    Calls Tryz.prog 56 #[.pointer (some ⟨Q, 0, none⟩)] w fun e w' => e = .returned (.tuple #[.int .u32 x, .int .i64 k, .bool true]) ∧ QRep w' Q (A.filter fun p => p.1 != x) t F ∧ Keeps F w w' := by
  obtain ⟨v, Mb, l, L, E, h⟩ := h
  have hA : A ≠ [] := fun e => by rw [e] at hx; simp [firstMin] at hx
  have hl := h.len
  have hpos : 0 < A.length := List.length_pos_iff.2 hA
  obtain ⟨n, hn⟩ : ∃ n, L.length = n + 1 := ⟨L.length - 1, by omega⟩
  have hH := h.heap
  rw [hn] at hH
  obtain ⟨R, hpop, hRl, hRH, hRp⟩ := popL_law hn hH
  have hmin := heap_min hH
  have h0 : at' L 0 ∈ L := at_mem (by omega)
  have hfm := firstMin_of h.ord (h.perm.mem_iff.1 h0) (fun e he => by
    obtain ⟨j, hj⟩ := List.mem_iff_getElem?.1 (h.perm.mem_iff.2 he)
    have lj : j < L.length := (List.getElem?_eq_some_iff.1 hj).1
    rw [← at_eq hj]
    exact hmin j (by omega))
  rw [h.view, hx] at hfm
  generalize at' L 0 = e0 at *
  simp only [Option.some.injEq, Prod.mk.injEq] at hfm
  obtain ⟨rfl, rfl⟩ := hfm
  obtain ⟨ao, cap, hv⟩ := h.rep.isSlice
  subst hv
  rw [hn] at h
  have c0 := h.q.c0
  have hz : (((n + 1 : Nat) : Int) == 0) = false := by simp; omega
  rw [← hRl] at hRH
  have HH := Lib.hid hRH
  have HP := Lib.hid hRp
  have HPOP := Lib.hid hpop
  have H0 := Lib.hid h
  have hta := fun w => ta_entry ⟨e0.blk, 0, none⟩ w
  clear h hx hH hmin h0 hpop hRl hRH hRp hl hn hA hpos
  go_enter Tryz.func56, Tryz.ntmps56
  go_wp2_with fail
  refine (hpop_any _ Q _ _ t L H0.out.rep H0.out.q R e0 HPOP.out).mono ?_; rintro e w1 ⟨rfl, v', hT⟩
  obtain ⟨xx, hent⟩ := hT.ent0
  have d0 : w1.cell? ⟨e0.blk, 0, none⟩ = some (.int .u32 e0.item) := by rw [cell_of_blk hent]; rfl
  have d1 : w1.cell? ⟨e0.blk, 1, none⟩ = some (.int .i64 e0.key) := by rw [cell_of_blk hent]; rfl
  have g1 := hT.q.c1
  have m1 := H0.out.mp.keeps hT.keeps (by rintro (hb | hb); exact H0.out.nM hb; exact H0.out.nMf hb)
  have nEM : e0.blk ≠ Mb := fun e => by obtain ⟨es, c, hbm, _⟩ := m1; rw [← e, hent] at hbm; simp at hbm
  have M1 := Lib.hid m1
  have HT := Lib.hid hT
  have HE := Lib.hid hent
  clear m1 hT hent
  go_wp2_with fail
  go_region_law ((refine step_idelete (by rfl) _ _ _ _ (by rfl) Tryz.underlying131 Tryz.underlying66 (M1.out.drewN 1) H0.out.nd e0.item (by rfl) (by rfl) ?_; intro w2 m2 k2))
  all_goals
    have hE2 := k2.heap (w := w1.drew) HE.out nEM
    have d0' : w2.cell? ⟨e0.blk, 0, none⟩ = some (.int .u32 e0.item) := by rw [cell_of_blk hE2]; rfl
    have d1' : w2.cell? ⟨e0.blk, 1, none⟩ = some (.int .i64 e0.key) := by rw [cell_of_blk hE2]; rfl
    have hpost := took_queue H0.out HT.out HP.out HH.out m2 (show Keeps (fun b => b = Mb) w1 w2 from ⟨k2.os, k2.tape, k2.output, k2.size, k2.block⟩)
    have HPO := Lib.hid hpost
    clear hpost m2 k2 hE2
    go_wp2
    go_quiet (fail)
    go_wp2
    go_ret3
    exact ⟨rfl, HPO.out.1.keeps ((Keeps.refl (fun _ => False) _).drewN nq) (fun _ _ h => h), HPO.out.2.drewN nq⟩

end Go.Proofs.YtdokakhgflljgaaGreat.U

namespace Go.Proofs.YtdokakhgflljgaaGreat

theorem CostOk.down {A : List Arc} {acc : List Bool} {d : List Int} (h : CostOk A acc d) (hA : ∀ a ∈ A, 0 ≤ a.cost) {i : Nat} {c : Int} (hd : Down A acc i c) : 0 ≤ c ∧ (c < bigC → ∃ x, d[i]? = some x ∧ x ≤ c) := by
  induction hd with
  | nil hi => exact ⟨Int.le_refl _, fun _ => ⟨0, h.zero _ hi, Int.le_refl _⟩⟩
  | cons ha _ ih =>
    have hc := hA _ ha
    refine ⟨by omega, fun hb => ?_⟩
    obtain ⟨y, hy, hyc⟩ := ih.2 (by omega)
    obtain ⟨x, hx, hxy⟩ := h.relax _ ha y hy (by omega)
    exact ⟨x, hx, by omega⟩

/-! ### a map of costs -/
def upd (D : Nat → Int) (x : Nat) (k : Int) : Nat → Int := fun y => if y = x then k else D y
theorem upd_same (D : Nat → Int) (x : Nat) (k : Int) : upd D x k x = k := if_pos rfl
theorem upd_ne (D : Nat → Int) {x y : Nat} (k : Int) (h : y ≠ x) : upd D x k y = D y := if_neg h
theorem map_upd {L : List Nat} (hn : L.Nodup) (D : Nat → Int) {i x : Nat} (hi : L[i]? = some x) (k : Int) : (L.map D).set i k = L.map (upd D x k) := by
  apply List.ext_getElem?
  intro j
  have hl := (List.getElem?_eq_some_iff.1 hi).1
  rw [getElem?_setS, List.getElem?_map, List.getElem?_map, List.length_map]
  by_cases hij : i = j
  · subst hij; rw [if_pos ⟨rfl, hl⟩, hi]; simp [upd_same]
  · rw [if_neg (by simp [hij])]
    cases hj : L[j]? with
    | none => rfl
    | some y =>
      have : y ≠ x := by rintro rfl; exact hij (nodup_ix hn hi hj)
      simp [upd_ne D k this]

def outV (L : List Nat) (D : Nat → Int) : List (Int × Value) := L.map fun x : Nat => ((x : Int), Value.int .i64 (D x))
theorem outV_nodup {L : List Nat} (hn : L.Nodup) (D : Nat → Int) : ((outV L D).map Prod.fst).Nodup := by
  unfold outV
  rw [List.map_map]
  unfold List.Nodup at hn ⊢
  rw [List.pairwise_map]
  exact hn.imp (fun {a b} h e => h (by have e' : ((a : Nat) : Int) = (b : Int) := e; omega))
theorem outV_get {L : List Nat} (D : Nat → Int) {i x : Nat} (hi : L[i]? = some x) : (outV L D)[i]? = some ((x : Int), .int .i64 (D x)) := by
  unfold outV; rw [List.getElem?_map, hi]; rfl
theorem outV_mem {L : List Nat} (D : Nat → Int) {x : Nat} (hx : x ∈ L) : ((x : Int), Value.int .i64 (D x)) ∈ outV L D := List.mem_map.2 ⟨x, hx, rfl⟩
theorem outV_miss {L : List Nat} (D : Nat → Int) {x : Nat} (hx : x ∉ L) : ∀ p ∈ outV L D, p.1 ≠ (x : Int) := by
  intro p hp e
  obtain ⟨y, hy, rfl⟩ := List.mem_map.1 hp
  simp only [Int.natCast_inj] at e
  subst e; exact hx hy
theorem outV_set {L : List Nat} (hn : L.Nodup) (D : Nat → Int) {i x : Nat} (hi : L[i]? = some x) (k : Int) : (outV L D).set i ((x : Int), .int .i64 k) = outV L (upd D x k) := by
  apply List.ext_getElem?
  intro j
  have hl := (List.getElem?_eq_some_iff.1 hi).1
  unfold outV
  rw [getElem?_setS, List.getElem?_map, List.getElem?_map, List.length_map]
  by_cases hij : i = j
  · subst hij; rw [if_pos ⟨rfl, hl⟩, hi]; simp [upd_same]
  · rw [if_neg (by simp [hij])]
    cases hj : L[j]? with
    | none => rfl
    | some y =>
      have : y ≠ x := by rintro rfl; exact hij (nodup_ix hn hi hj)
      simp [upd_ne D k this]
theorem outV_snoc (L : List Nat) (D : Nat → Int) (x : Nat) : outV (L ++ [x]) D = outV L D ++ [((x : Int), .int .i64 (D x))] := by unfold outV; simp
theorem outV_congr {L : List Nat} {D D' : Nat → Int} (h : ∀ x ∈ L, D x = D' x) : outV L D = outV L D' := by
  unfold outV
  apply List.map_congr_left
  intro x hx; rw [h x hx]

/-! ### the queue as a list of items and keys -/
def dropA (A : List (Int × Int)) (x : Int) : List (Int × Int) := A.filter fun p => p.1 != x
def putA (A : List (Int × Int)) (x k : Int) : List (Int × Int) := A.filter (fun p => p.1 != x) ++ [(x, k)]
theorem mem_dropA {A : List (Int × Int)} {x : Int} {p : Int × Int} : p ∈ dropA A x ↔ p ∈ A ∧ p.1 ≠ x := by unfold dropA; simp
theorem mem_putA {A : List (Int × Int)} {x k : Int} {p : Int × Int} : p ∈ putA A x k ↔ (p ∈ A ∧ p.1 ≠ x) ∨ p = (x, k) := by unfold putA; simp
theorem putA_len (A : List (Int × Int)) (x k : Int) : (putA A x k).length ≤ A.length + 1 := by
  unfold putA; rw [List.length_append]; have := List.length_filter_le (fun p : Int × Int => p.1 != x) A; simp; omega
theorem dropA_len {A : List (Int × Int)} {x k : Int} (h : (x, k) ∈ A) : (dropA A x).length < A.length := by
  unfold dropA
  refine Nat.lt_of_le_of_ne (List.length_filter_le _ _) (fun e => ?_)
  have := List.length_filter_eq_length_iff.1 e (x, k) h
  simp at this

structure LInv (ops : List Wop) (L : List Nat) (acc : Nat → Bool) (D : Nat → Int) (A : List (Int × Int)) (s : Nat) (rest : List (Nat × Int)) : Prop where
  inv : CostInv (arcs ops L) (L.map acc) (L.map D)
  key : ∀ p ∈ A, ∃ x : Nat, x ∈ L ∧ p = ((x : Int), D x) ∧ D x < bigC
  pend : ∀ x ∈ L, ∀ o ∈ ops, o.can x = true → D (o.next x) < bigC → D x ≤ D (o.next x) + o.cost ∨ ((o.next x : Nat) : Int) ∈ A.map Prod.fst ∨ (o.next x = s ∧ (x, o.cost) ∈ rest)

theorem LInv.few {ops : List Wop} {L : List Nat} {acc : Nat → Bool} {D : Nat → Int} {A : List (Int × Int)} {s : Nat} {rest : List (Nat × Int)} (h : LInv ops L acc D A s rest) (hn : (A.map Prod.fst).Nodup) : A.length ≤ L.length := by
  have h1 : (A.map fun p => p.1.toNat).Nodup := by
    unfold List.Nodup at hn ⊢
    rw [List.pairwise_map] at hn ⊢
    refine hn.imp_of_mem (fun {a b} ha hb hab e => hab ?_)
    obtain ⟨x, _, rfl, _⟩ := h.key a ha
    obtain ⟨y, _, rfl, _⟩ := h.key b hb
    have e' : x = y := by simpa using e
    show ((x : Nat) : Int) = (y : Int)
    omega
  have h2 := nodup_sub_length h1 (b := L) (fun x hx => by
    obtain ⟨p, hp, rfl⟩ := List.mem_map.1 hx
    obtain ⟨y, hy, rfl, _⟩ := h.key p hp
    simpa using hy)
  simpa using h2

theorem LInv.take {ops : List Wop} {L : List Nat} {acc : Nat → Bool} {D : Nat → Int} {A : List (Int × Int)} {s0 s : Nat} {back : List (Nat × Int)} (h : LInv ops L acc D A s0 [])
    (hb : ∀ x ∈ L, ∀ o ∈ ops, o.can x = true → o.next x = s → (x, o.cost) ∈ back) : LInv ops L acc D (dropA A s) s back := by
  refine ⟨h.inv, fun p hp => h.key p (mem_dropA.1 hp).1, fun x hx o ho hc hd => ?_⟩
  rcases h.pend x hx o ho hc hd with h1 | h1 | ⟨_, h1⟩
  · exact .inl h1
  · by_cases e : o.next x = s
    · exact .inr (.inr ⟨e, hb x hx o ho hc e⟩)
    · refine .inr (.inl ?_)
      obtain ⟨p, hp, he⟩ := List.mem_map.1 h1
      exact List.mem_map.2 ⟨p, mem_dropA.2 ⟨hp, by rw [he]; intro e2; exact e (by omega)⟩, he⟩
  · cases h1

theorem LInv.skip {ops : List Wop} {L : List Nat} {acc : Nat → Bool} {D : Nat → Int} {A : List (Int × Int)} {s x : Nat} {c : Int} {r : List (Nat × Int)} (h : LInv ops L acc D A s ((x, c) :: r)) (hd : D x ≤ D s + c) : LInv ops L acc D A s r := by
  refine ⟨h.inv, h.key, fun y hy o ho hc hb => ?_⟩
  rcases h.pend y hy o ho hc hb with h1 | h1 | ⟨e, h1⟩
  · exact .inl h1
  · exact .inr (.inl h1)
  · rcases List.mem_cons.1 h1 with h1 | h1
    · simp only [Prod.mk.injEq] at h1
      refine .inl ?_
      rw [e, h1.1, h1.2]; exact hd
    · exact .inr (.inr ⟨e, h1⟩)

theorem LInv.turn {ops : List Wop} {L : List Nat} (hn : L.Nodup) {acc : Nat → Bool} {D : Nat → Int} {A : List (Int × Int)} {s x : Nat} {c : Int} {r : List (Nat × Int)} (h : LInv ops L acc D A s ((x, c) :: r))
    (hs : s ∈ L) (hx : x ∈ L) {o : Wop} (ho : o ∈ ops) (hc : o.can x = true) (hnx : o.next x = s) (hoc : o.cost = c) (hc0 : 0 ≤ c) (hb : D s < bigC) (hd : D s + c < D x) :
    LInv ops L acc (upd D x (D s + c)) (putA A x (D s + c)) s r ∧ weightC (L.map (upd D x (D s + c))) < weightC (L.map D) ∧ upd D x (D s + c) s = D s ∧ x ≠ s := by
  have hxs : s ≠ x := by rintro rfl; omega
  obtain ⟨i, hi⟩ := List.mem_iff_getElem?.1 hx
  obtain ⟨j, hj⟩ := List.mem_iff_getElem?.1 hs
  obtain ⟨k, hk⟩ := List.mem_iff_getElem?.1 ho
  have ha : (⟨i, j, k, c⟩ : Arc) ∈ arcs ops L := mem_arcs.2 ⟨x, o, hi, hk, hc, hoc.symm, by rw [hnx]; exact hj⟩
  have hst := h.inv.step ha hc0 (x := D x) (y := D s) (by rw [List.getElem?_map, hi]; rfl) (by rw [List.getElem?_map, hj]; rfl) hb hd
  simp only at hst
  rw [map_upd hn D hi] at hst
  have hD0 : 0 ≤ D s := (h.inv.lo (D s) (List.mem_map.2 ⟨s, hs, rfl⟩)).1
  have hDx : D x ≤ bigC := (h.inv.lo (D x) (List.mem_map.2 ⟨x, hx, rfl⟩)).2
  refine ⟨⟨hst.1, fun p hp => ?_, fun y hy o' ho' hc' hb' => ?_⟩, hst.2, upd_ne D _ hxs, fun e => hxs e.symm⟩
  · rcases mem_putA.1 hp with ⟨hp, hne⟩ | rfl
    · obtain ⟨y, hy, rfl, hyb⟩ := h.key p hp
      have : y ≠ x := by rintro rfl; exact hne rfl
      exact ⟨y, hy, by rw [upd_ne D _ this], by rw [upd_ne D _ this]; exact hyb⟩
    · exact ⟨x, hx, by rw [upd_same], by rw [upd_same]; omega⟩
  · by_cases hyx : o'.next y = x
    · refine .inr (.inl (List.mem_map.2 ⟨((x : Int), D s + c), mem_putA.2 (.inr rfl), by rw [hyx]⟩))
    · rw [upd_ne D _ hyx] at hb' ⊢
      have hle : upd D x (D s + c) y ≤ D y := by
        by_cases e : y = x
        · subst e; rw [upd_same]; omega
        · rw [upd_ne D _ e]; exact Int.le_refl _
      rcases h.pend y hy o' ho' hc' hb' with h1 | h1 | ⟨e, h1⟩
      · exact .inl (by omega)
      · obtain ⟨p, hp, he⟩ := List.mem_map.1 h1
        exact .inr (.inl (List.mem_map.2 ⟨p, mem_putA.2 (.inl ⟨hp, by rw [he]; intro e2; exact hyx (by omega)⟩), he⟩))
      · rcases List.mem_cons.1 h1 with h1 | h1
        · simp only [Prod.mk.injEq] at h1
          refine .inl ?_
          rw [e, h1.1, upd_same, h1.2]; exact Int.le_refl _
        · exact .inr (.inr ⟨e, h1⟩)

theorem LInv.done {ops : List Wop} {L : List Nat} {acc : Nat → Bool} {D : Nat → Int} {s : Nat} (h : LInv ops L acc D [] s []) : CostOk (arcs ops L) (L.map acc) (L.map D) := by
  refine { h.inv with relax := fun a ha y hy hb => ?_ }
  obtain ⟨x, o, h1, h2, h3, h4, h5⟩ := mem_arcs.1 ha
  rw [List.getElem?_map, h5] at hy
  simp only [Option.map_some, Option.some.injEq] at hy
  subst hy
  refine ⟨D x, by rw [List.getElem?_map, h1]; rfl, ?_⟩
  rcases h.pend x (List.mem_of_getElem? h1) o (List.mem_of_getElem? h2) h3 hb with h6 | h6 | ⟨_, h6⟩
  · rw [h4]; exact h6
  · simp at h6
  · cases h6

def start0 (acc : Nat → Bool) (x : Nat) : Int := if acc x = true then 0 else bigC
def queue0 (acc : Nat → Bool) (L : List Nat) : List (Int × Int) := (L.filter acc).map fun x : Nat => ((x : Int), 0)
theorem queue0_snoc (acc : Nat → Bool) (L : List Nat) (x : Nat) : queue0 acc (L ++ [x]) = queue0 acc L ++ (if acc x = true then [((x : Int), 0)] else []) := by
  unfold queue0
  rw [List.filter_append, List.map_append]
  by_cases h : acc x = true
  · rw [if_pos h]; simp [h]
  · rw [if_neg h]; simp [h]
theorem queue0_len (acc : Nat → Bool) (L : List Nat) : (queue0 acc L).length ≤ L.length := by unfold queue0; rw [List.length_map]; exact List.length_filter_le _ _
theorem queue0_miss (acc : Nat → Bool) {L : List Nat} {x : Nat} (hx : x ∉ L) : ∀ p ∈ queue0 acc L, p.1 ≠ (x : Int) := by
  intro p hp e
  obtain ⟨y, hy, rfl⟩ := List.mem_map.1 hp
  simp only [Int.natCast_inj] at e
  subst e; exact hx (List.mem_filter.1 hy).1
theorem LInv.start {ops : List Wop} {L : List Nat} (hs : Shut ops L) (acc : Nat → Bool) (s : Nat) : LInv ops L acc (start0 acc) (queue0 acc L) s [] := by
  have e : L.map (start0 acc) = costStart (L.map acc) := by unfold costStart start0; rw [List.map_map]; rfl
  refine ⟨by rw [e]; exact CostInv.start _ _, fun p hp => ?_, fun x hx o ho hc hb => ?_⟩
  · obtain ⟨x, hx, rfl⟩ := List.mem_map.1 hp
    have hx' := List.mem_filter.1 hx
    refine ⟨x, hx'.1, by unfold start0; rw [if_pos hx'.2], by unfold start0; rw [if_pos hx'.2]; decide⟩
  · refine .inr (.inl ?_)
    have hy := hs.2 x hx o ho hc
    by_cases ha : acc (o.next x) = true
    · exact List.mem_map.2 ⟨_, List.mem_map.2 ⟨o.next x, List.mem_filter.2 ⟨hy, ha⟩, rfl⟩, rfl⟩
    · unfold start0 at hb
      rw [if_neg ha] at hb; omega

/-- What is told at the end, as a fact on the list's costs. -/
theorem weightC_bound {d : List Int} (h : ∀ x ∈ d, 0 ≤ x ∧ x ≤ bigC) : (weightC d : Int) ≤ d.length * bigC := by
  induction d with
  | nil => simp [weightC]
  | cons x r ih =>
    have h1 := h x (List.mem_cons_self ..)
    have h2 := ih (fun y hy => h y (List.mem_cons_of_mem _ hy))
    unfold weightC at h2 ⊢
    simp only [List.map_cons, List.sum_cons, List.length_cons]
    have : ((x.toNat + (r.map Int.toNat).sum : Nat) : Int) = x + ((r.map Int.toNat).sum : Nat) := by omega
    rw [this, show ((r.length + 1 : Nat) : Int) * bigC = (r.length : Int) * bigC + bigC by rw [Int.natCast_add, Int.add_mul]; simp]
    omega

end Go.Proofs.YtdokakhgflljgaaGreat

/- A map whose values own rows apart from each other (m[k] = append(m[k], x)). Nothing here speaks of one program. -/
namespace Go.Proofs.YtdokakhgflljgaaGreat
open Go.RowKit

structure GEnt where
  key : Nat
  val : Value
  n : Nat
  cs : List Value

def gview (l : List GEnt) : List (Int × Value) := l.map fun p => ((p.key : Int), p.val)

structure GRows (B : Nat) (T : TypeId) (sz mb : Nat) (l : List GEnt) (F : Nat → Prop) (W : World) : Prop where
  map : IMap W mb .u32 (gview l)
  nd : (l.map GEnt.key).Nodup
  own : ∀ p ∈ l, W.ownsRow B T sz p.val p.n p.cs
  apart : ∀ (i j : Nat) p q, l[i]? = some p → l[j]? = some q → i ≠ j → ∀ k, p.val.ownBlock = some k → q.val.ownBlock ≠ some k
  fM : F mb
  fR : ∀ p ∈ l, ∀ k, p.val.ownBlock = some k → F k

theorem gview_nodup {l : List GEnt} (hn : (l.map GEnt.key).Nodup) : ((gview l).map Prod.fst).Nodup := by
  unfold gview
  rw [List.map_map]
  unfold List.Nodup at hn ⊢
  rw [List.pairwise_map] at hn ⊢
  exact hn.imp (fun {a b} h e => h (by have e' : ((a.key : Nat) : Int) = (b.key : Int) := e; omega))

/-- The map of the rows f at block mb, its blocks in F. -/
def GMap {α : Type} (B : Nat) (T : TypeId) (sz mb : Nat) (cell : α → List Value) (f : Nat → List α) (F : Nat → Prop) (W : World) : Prop :=
  ∃ l, GRows B T sz mb l F W ∧ (∀ p ∈ l, p.n = (f p.key).length ∧ p.cs = (f p.key).flatMap cell) ∧ ∀ y, y ∉ l.map GEnt.key → f y = []

section
variable {α : Type} {B : Nat} {T : TypeId} {sz mb : Nat} {cell : α → List Value} {f : Nat → List α} {F : Nat → Prop} {W : World}

theorem GMap.keeps {S : Nat → Prop} {W' : World} (h : GMap B T sz mb cell f F W) (hk : Keeps S W W') (hs : ∀ b, F b → ¬ S b) : GMap B T sz mb cell f F W' := by
  obtain ⟨l, h1, h2⟩ := h
  exact ⟨l, ⟨h1.map.keeps hk (hs _ h1.fM), h1.nd, fun p hp => hk.ownsRow (h1.own p hp) (fun k hk' => hs k (h1.fR p hp k hk')), h1.apart, h1.fM, h1.fR⟩, h2⟩

theorem GMap.mono {F' : Nat → Prop} (h : GMap B T sz mb cell f F W) (hf : ∀ b, b < W.heap.size → F b → F' b) : GMap B T sz mb cell f F' W := by
  obtain ⟨l, h1, h2⟩ := h
  exact ⟨l, { h1 with fM := hf _ h1.map.lt h1.fM, fR := fun p hp k hk => hf k ((h1.own p hp).lt k hk).2 (h1.fR p hp k hk) }, h2⟩

theorem GMap.fmap (h : GMap B T sz mb cell f F W) : F mb := by obtain ⟨l, h1, _⟩ := h; exact h1.fM
theorem GMap.lt (h : GMap B T sz mb cell f F W) : mb < W.heap.size := by obtain ⟨l, h1, _⟩ := h; exact h1.map.lt

theorem GMap.made (W0 : World) (B : Nat) (T : TypeId) (sz : Nat) (cell : α → List Value) : GMap B T sz W0.heap.size cell (fun _ => []) (fun b => b = W0.heap.size) (W0.alloc (.map #[] 0)) :=
  ⟨[], { map := IMap.made W0 .u32, nd := List.nodup_nil, own := fun p hp => (by cases hp), apart := fun i j p q hi => (by simp at hi), fM := rfl, fR := fun p hp => (by cases hp) }, fun p hp => (by cases hp), fun y _ => rfl⟩

/-- A look at a key. -/
theorem GMap.look (h : GMap B T sz mb cell f F W) {P : Program} {t k e : TypeId} (ht : P.underlying t = some (.map k e)) (hk : P.underlying k = some (.int .u32)) (hz : (zeroValue e).run P W = .ok (.slice none 0 0) W) (y : Nat) :
    ∃ v, (Instr.lookup t (.map (some mb)) (.int .u32 (y : Int)) false).run P W = .ok v W ∧ W.ownsRow B T sz v (f y).length ((f y).flatMap cell) ∧ (∀ k, v.ownBlock = some k → F k ∧ k ≠ mb) := by
  obtain ⟨l, h1, h2, h3⟩ := h
  by_cases hy : y ∈ l.map GEnt.key
  · obtain ⟨p, hp, rfl⟩ := List.mem_map.1 hy
    refine ⟨p.val, (h1.map.run_lookup_hit ht hk (gview_nodup h1.nd) (v := p.val) (x := (p.key : Int)) (List.mem_map.2 ⟨p, hp, rfl⟩)).2, ?_, fun k hk' => ⟨h1.fR p hp k hk', ?_⟩⟩
    · have := h1.own p hp
      rw [(h2 p hp).1, (h2 p hp).2] at this
      exact this
    · rintro rfl
      exact not_map h1.map (h1.own p hp) hk'
  · refine ⟨.slice none 0 0, (h1.map.run_lookup_miss ht hk hz (x := (y : Int)) (fun p hp e => ?_)).2, ?_, fun k hk' => by simp [Value.ownBlock] at hk'⟩
    · obtain ⟨q, hq, rfl⟩ := List.mem_map.1 hp
      simp only [Int.natCast_inj] at e
      exact hy (List.mem_map.2 ⟨q, hq, e⟩)
    · rw [h3 y hy]
      exact World.ownsRow_nil _ _ _ _

/-- A look at a key, and what an append to it makes of the map. -/
theorem GMap.turn (h : GMap B T sz mb cell f F W) {P : Program} {t k e : TypeId} (ht : P.underlying t = some (.map k e)) (hk : P.underlying k = some (.int .u32)) (_hz : (zeroValue e).run P W = .ok (.slice none 0 0) W) (y : Nat) :
    ∃ v, (∃ ml, IMap W mb .u32 ml ∧ ∀ W', IMap W' mb .u32 ml → (zeroValue e).run P W' = .ok (.slice none 0 0) W' → (Instr.lookup t (.map (some mb)) (.int .u32 (y : Int)) false).run P W' = .ok v W') ∧ W.ownsRow B T sz v (f y).length ((f y).flatMap cell) ∧ (∀ k, v.ownBlock = some k → F k ∧ k ≠ mb) ∧
      ∀ (Wa W3 : World) (v' : Value) (a : α), Keeps (fun _ => False) W Wa → Wa.grownBy W3 v.ownBlock → W3.ownsRow B T sz v' ((f y).length + 1) ((f y).flatMap cell ++ cell a) → (∀ g, v'.ownBlock = some g → v.ownBlock = some g ∨ W.heap.size ≤ g) →
        ∃ W4, (Instr.mapUpdate t (.map (some mb)) (.int .u32 (y : Int)) v').run P W3 = .ok () W4 ∧ GMap B T sz mb cell (fun z => if z = y then f y ++ [a] else f z) (fun b => F b ∨ W.heap.size ≤ b) W4 ∧ Keeps (fun k => k = mb) W3 W4 := by
  obtain ⟨l, h1, h2, h3⟩ := h
  by_cases hy : y ∈ l.map GEnt.key
  · obtain ⟨p, hp, rfl⟩ := List.mem_map.1 hy
    obtain ⟨i, hi⟩ := List.mem_iff_getElem?.1 hp
    have hil := (List.getElem?_eq_some_iff.1 hi).1
    have hown := h1.own p hp
    have hpm : p.val.ownBlock ≠ some mb := not_map h1.map hown
    rw [(h2 p hp).1, (h2 p hp).2] at hown
    refine ⟨p.val, ⟨_, h1.map, fun W' hm' _ => (hm'.run_lookup_hit ht hk (gview_nodup h1.nd) (v := p.val) (x := (p.key : Int)) (List.mem_map.2 ⟨p, hp, rfl⟩)).2⟩, hown, fun k hk' => ⟨h1.fR p hp k hk', fun e => hpm (by rw [hk', e])⟩, ?_⟩
    intro Wa W3 v' a ka hg hown' hat
    have hk3 : Keeps (fun k => p.val.ownBlock = some k) W W3 := (ka.mono (fun _ _ h => h.elim)).grown hg (fun k hk => .inl hk)
    have hm3 := h1.map.keeps hk3 hpm
    obtain ⟨W4, hrun, hI4, hk4⟩ := hm3.run_update_old ht hk (gview_nodup h1.nd) (x := (p.key : Int)) (u := p.val) (j := i) (by unfold gview; rw [List.getElem?_map, hi]; rfl) v'
    have hv'm : v'.ownBlock ≠ some mb := not_map hm3 hown'
    let p' : GEnt := ⟨p.key, v', (f p.key).length + 1, (f p.key).flatMap cell ++ cell a⟩
    have hkeys : (l.set i p').map GEnt.key = l.map GEnt.key := by
      apply List.ext_getElem?
      intro j
      rw [List.getElem?_map, List.getElem?_map]
      rw [List.getElem?_set]
      by_cases hij : i = j
      · subst hij; rw [if_pos rfl, if_pos hil, hi]; rfl
      · rw [if_neg hij]
    have hget : ∀ (j : Nat) q, (l.set i p')[j]? = some q → (j = i ∧ q = p') ∨ (j ≠ i ∧ l[j]? = some q) := by
      intro j q hq
      rw [List.getElem?_set] at hq
      by_cases hij : i = j
      · subst hij; rw [if_pos rfl, if_pos hil] at hq; cases hq; exact .inl ⟨rfl, rfl⟩
      · rw [if_neg hij] at hq; exact .inr ⟨fun e => hij e.symm, hq⟩
    refine ⟨W4, hrun, ⟨l.set i p', ⟨?_, by rw [hkeys]; exact h1.nd, fun q hq => ?_, fun j j' q q' hj hj' hne k hk1 hk2 => ?_, .inl h1.fM, fun q hq k hk' => ?_⟩, fun q hq => ?_, fun y hy' => ?_⟩, hk4⟩
    · have e1 : gview (l.set i p') = (gview l).set i ((p.key : Int), v') := by
        apply List.ext_getElem?
        intro j
        unfold gview
        rw [List.getElem?_map, List.getElem?_set, List.getElem?_set, List.getElem?_map, List.length_map]
        by_cases hij : i = j
        · subst hij; rw [if_pos rfl, if_pos hil, if_pos rfl, if_pos hil]; rfl
        · rw [if_neg hij, if_neg hij]
      rw [e1]; exact hI4
    · obtain ⟨j, hj⟩ := List.mem_iff_getElem?.1 hq
      rcases hget j q hj with ⟨_, rfl⟩ | ⟨hji, hj2⟩
      · exact hk4.ownsRow hown' (fun k hk' e => hv'm (by rw [hk', e]))
      · have ho := h1.own q (List.mem_of_getElem? hj2)
        refine hk4.ownsRow (hk3.ownsRow ho (fun k hk' hk2 => ?_)) (fun k hk' e => not_map h1.map ho (by rw [hk', e]))
        exact h1.apart i j p q hi hj2 (fun e => hji e.symm) k hk2 hk'
    · rcases hget j q hj with ⟨rfl, rfl⟩ | ⟨hji, hj2⟩
      · rcases hget j' q' hj' with ⟨rfl, rfl⟩ | ⟨hji', hj2'⟩
        · exact hne rfl
        · rcases hat k hk1 with h | h
          · exact h1.apart j j' p q' hi hj2' hne k h hk2
          · have := ((h1.own q' (List.mem_of_getElem? hj2')).lt k hk2).2; omega
      · rcases hget j' q' hj' with ⟨rfl, rfl⟩ | ⟨hji', hj2'⟩
        · rcases hat k hk2 with h | h
          · exact h1.apart j j' q p hj2 hi hne k hk1 h
          · have := ((h1.own q (List.mem_of_getElem? hj2)).lt k hk1).2; omega
        · exact h1.apart j j' q q' hj2 hj2' hne k hk1 hk2
    · obtain ⟨j, hj⟩ := List.mem_iff_getElem?.1 hq
      rcases hget j q hj with ⟨_, rfl⟩ | ⟨hji, hj2⟩
      · rcases hat k hk' with h | h
        · exact .inl (h1.fR p hp k h)
        · exact .inr h
      · exact .inl (h1.fR q (List.mem_of_getElem? hj2) k hk')
    · obtain ⟨j, hj⟩ := List.mem_iff_getElem?.1 hq
      rcases hget j q hj with ⟨_, rfl⟩ | ⟨hji, hj2⟩
      · simp only [p', if_pos]
        refine ⟨by simp, by simp⟩
      · have hne : q.key ≠ p.key := by
          intro e
          have g1 : (l.map GEnt.key)[j]? = some q.key := by rw [List.getElem?_map, hj2]; rfl
          have g2 : (l.map GEnt.key)[i]? = some p.key := by rw [List.getElem?_map, hi]; rfl
          obtain ⟨l1, q1⟩ := List.getElem?_eq_some_iff.1 g1
          obtain ⟨l2, q2⟩ := List.getElem?_eq_some_iff.1 g2
          exact hji ((List.getElem_inj h1.nd).1 (by rw [q1, q2, e]))
        simp only [if_neg hne]
        exact h2 q (List.mem_of_getElem? hj2)
    · rw [hkeys] at hy'
      have hne : y ≠ p.key := by rintro rfl; exact hy' (List.mem_map.2 ⟨p, hp, rfl⟩)
      simp only [if_neg hne]
      exact h3 y hy'
  · have hmiss : ∀ p ∈ gview l, p.1 ≠ (y : Int) := by
      intro p hp e
      obtain ⟨q, hq, rfl⟩ := List.mem_map.1 hp
      simp only [Int.natCast_inj] at e
      exact hy (List.mem_map.2 ⟨q, hq, e⟩)
    refine ⟨.slice none 0 0, ⟨_, h1.map, fun W' hm' hz' => (hm'.run_lookup_miss ht hk hz' hmiss).2⟩, by rw [h3 y hy]; exact World.ownsRow_nil _ _ _ _, fun k hk' => by simp [Value.ownBlock] at hk', ?_⟩
    intro Wa W3 v' a ka hg hown' hat
    have hk3 : Keeps (fun _ => False) W W3 := ka.grown hg (fun k hk => by simp [Value.ownBlock] at hk)
    have hm3 := h1.map.keeps hk3 (fun h => h)
    obtain ⟨W4, hrun, hI4, hk4⟩ := hm3.run_update_new ht hk hmiss v'
    have hv'm : v'.ownBlock ≠ some mb := not_map hm3 hown'
    have hvn : ∀ k, v'.ownBlock = some k → W.heap.size ≤ k := by
      intro k hk'
      rcases hat k hk' with h | h
      · simp [Value.ownBlock] at h
      · exact h
    let p' : GEnt := ⟨y, v', (f y).length + 1, (f y).flatMap cell ++ cell a⟩
    have hget : ∀ (j : Nat) q, (l ++ [p'])[j]? = some q → (j = l.length ∧ q = p') ∨ (j < l.length ∧ l[j]? = some q) := by
      intro j q hq
      by_cases hjl : j < l.length
      · rw [List.getElem?_append_left hjl] at hq; exact .inr ⟨hjl, hq⟩
      · rw [List.getElem?_append_right (by omega)] at hq
        have h0 := (List.getElem?_eq_some_iff.1 hq).1
        simp at h0
        have hj : j = l.length := by omega
        subst hj
        simp at hq
        exact .inl ⟨rfl, hq.symm⟩
    refine ⟨W4, hrun, ⟨l ++ [p'], ⟨by unfold gview at *; simpa using hI4, ?_, fun q hq => ?_, fun j j' q q' hj hj' hne k hk1 hk2 => ?_, .inl h1.fM, fun q hq k hk' => ?_⟩, fun q hq => ?_, fun z hz' => ?_⟩, hk4⟩
    · rw [List.map_append]
      unfold List.Nodup
      rw [List.pairwise_append]
      refine ⟨h1.nd, by simp, fun a ha b hb => ?_⟩
      simp [p'] at hb
      subst hb
      rintro rfl
      exact hy ha
    · rcases List.mem_append.1 hq with hq | hq
      · have ho := h1.own q hq
        exact hk4.ownsRow (hk3.ownsRow ho (fun _ _ h => h)) (fun k hk' e => not_map h1.map ho (by rw [hk', e]))
      · simp at hq; subst hq
        exact hk4.ownsRow hown' (fun k hk' e => hv'm (by rw [hk', e]))
    · rcases hget j q hj with ⟨rfl, rfl⟩ | ⟨hjl, hj2⟩
      · rcases hget j' q' hj' with ⟨rfl, rfl⟩ | ⟨hjl', hj2'⟩
        · exact hne rfl
        · have h1' := ((h1.own q' (List.mem_of_getElem? hj2')).lt k hk2).2
          have := hvn k hk1; omega
      · rcases hget j' q' hj' with ⟨rfl, rfl⟩ | ⟨hjl', hj2'⟩
        · have h1' := ((h1.own q (List.mem_of_getElem? hj2)).lt k hk1).2
          have := hvn k hk2; omega
        · exact h1.apart j j' q q' hj2 hj2' hne k hk1 hk2
    · rcases List.mem_append.1 hq with hq | hq
      · exact .inl (h1.fR q hq k hk')
      · simp at hq; subst hq
        exact .inr (hvn k hk')
    · rcases List.mem_append.1 hq with hq | hq
      · have hne : q.key ≠ y := fun e => hy (List.mem_map.2 ⟨q, hq, e⟩)
        simp only [if_neg hne]
        exact h2 q hq
      · simp at hq; subst hq
        simp only [p', if_pos]
        refine ⟨by simp, by simp⟩
    · rw [List.map_append] at hz'
      have hne : z ≠ y := by rintro rfl; exact hz' (by simp [p'])
      simp only [if_neg hne]
      exact h3 z (fun h => hz' (List.mem_append_left _ h))
end

end Go.Proofs.YtdokakhgflljgaaGreat

/- space.Costs: what its loops know. -/
namespace Go.Proofs.YtdokakhgflljgaaGreat
open Go.RowKit Go.Shelf

theorem Tryz.info_sarc : (Tryz.prog.info? 130).map (fun i => (i.zero, i.size, i.bytes)) = some (some (.agg #[.int .u32 0, .int .i64 0]), 2, 16) := by kernel_rfl

theorem Oper.wpIn_append_lies {F : Fence} {n : Nat} {P : Program} (w : World) {o : Oper} {a : Act} {K : Act → World → Prop} {Q : Exit → Act → World → Prop}
    (s x : Operand) (t : TypeId) (hop : o.op = Op.call { callee := Callee.builtin Builtin.append, args := #[s, x], argTypes := #[t, t] })
    (base : Nat) (e : TypeId) (i : TypeInfo) (z : Value) (size bytes : Nat) (h1 : P.underlying t = some (.slice e)) (h2 : P.info? e = some i) (h3 : i.zero = some z) (h4 : i.size = size) (h5 : i.bytes = bytes) (h6 : z.cells.size = size) (h7 : 0 < size)
    (v : Value) (k : Nat) (xs : List Value) (hs : a.eval s = v) (hown : w.ownsRow base e size v k xs) (ad : Addr) (m c : Nat) (news : List Value) (hx : a.eval x = .slice (some ad) m c) (hn : news.length = m * size)
    (hc : ∀ j u, news[j]? = some u → w.cell? (ad.add j) = some u) (h1c : ∀ u ∈ news, u.oneCell' = true) (hm : 0 < m) (b1 : k + m ≤ maxLen) (b2 : (k + m) * bytes ≤ 140737488355328) (b3 : base ≤ w.heap.size) (H : Nat) (hH : w.heap.size = H)
    (hK : ∀ g cap w', w'.ownsRow base e size (.slice (some ⟨g, 0, none⟩) (k + m) cap) (k + m) (xs ++ news) → w.grownBy w' v.ownBlock → (v.ownBlock = some g ∨ g = H) → g < w'.heap.size → K (a.put o.dst (.slice (some ⟨g, 0, none⟩) (k + m) cap)) w') :
    o.wpIn F n P a w K Q := by
  obtain ⟨g, cap, w', hrun, r1, r2, r3, r4⟩ := run_append_lies (P := P) w t o.type base e i z size bytes h1 h2 h3 h4 h5 h6 h7 v k xs hown ad m c news hn hc h1c hm b1 b2 b3 H hH
  unfold Oper.wpIn
  refine ⟨?_, ?_⟩
  · simp [Oper.about, hop, resolve, Target.leads, Sem.run_pure]
  · rw [Oper.semAt_plain F _ _ (by rw [hop]; intro c hc'; cases hc')]
    simp [execOp, hop, resolve, invoke, builtin, hs, hx, hrun, Result.andThen]
    exact hK g cap w' r1 r2 r3 r4

/-! ### the arcs into each state -/
def arcC (p : Nat × Int) : List Value := [.int .u32 (p.1 : Int), .int .i64 p.2]
def addB (f : Nat → List (Nat × Int)) (s : Nat) (l : List Stp) : Nat → List (Nat × Int) := fun y => f y ++ (l.filter fun x => x.to == y).map fun x => (s, x.cost)
theorem addB_nil (f : Nat → List (Nat × Int)) (s : Nat) : addB f s [] = f := by funext y; simp [addB]
theorem addB_snoc (f : Nat → List (Nat × Int)) (s : Nat) (l : List Stp) (x : Stp) : addB f s (l ++ [x]) = fun z => if z = x.to then addB f s l x.to ++ [(s, x.cost)] else addB f s l z := by
  funext z
  unfold addB
  rw [List.filter_append, List.map_append, ← List.append_assoc]
  by_cases h : z = x.to
  · subst h; rw [if_pos rfl]; simp
  · rw [if_neg h]
    have : (x.to == z) = false := by simpa using fun e => h e.symm
    simp [this]
def backF (ops : List Wop) : List Nat → Nat → List (Nat × Int) := fun L y => L.flatMap fun s => ((wsteps ops s).filter fun x => x.to == y).map fun x => (s, x.cost)
theorem backF_nil (ops : List Wop) : backF ops [] = fun _ => [] := by funext y; rfl
theorem backF_snoc (ops : List Wop) (L : List Nat) (s : Nat) : backF ops (L ++ [s]) = addB (backF ops L) s (wsteps ops s) := by
  funext y; unfold backF addB; rw [List.flatMap_append]; simp
theorem backF_mem {ops : List Wop} {L : List Nat} {x s : Nat} {o : Wop} (hx : x ∈ L) (ho : o ∈ ops) (hc : o.can x = true) (hn : o.next x = s) : (x, o.cost) ∈ backF ops L s := by
  obtain ⟨k, hk⟩ := List.mem_iff_getElem?.1 ho
  unfold backF
  refine List.mem_flatMap.2 ⟨x, hx, List.mem_map.2 ⟨⟨k, o.cost, o.next x⟩, List.mem_filter.2 ⟨wsteps_mem.2 ⟨o, hk, hc, rfl, rfl⟩, by simpa using hn⟩, rfl⟩⟩
theorem backF_spec {ops : List Wop} {L : List Nat} {p : Nat × Int} {s : Nat} (h : p ∈ backF ops L s) : p.1 ∈ L ∧ ∃ o ∈ ops, o.can p.1 = true ∧ o.next p.1 = s ∧ o.cost = p.2 := by
  unfold backF at h
  obtain ⟨x, hx, h⟩ := List.mem_flatMap.1 h
  obtain ⟨y, hy, rfl⟩ := List.mem_map.1 h
  obtain ⟨hy, hs⟩ := List.mem_filter.1 hy
  obtain ⟨o, h1, h2, h3, h4⟩ := wsteps_mem.1 hy
  exact ⟨hx, o, List.mem_of_getElem? h1, h2, by rw [← h4]; simpa using hs, h3.symm⟩
theorem addB_len (f : Nat → List (Nat × Int)) (s : Nat) (l : List Stp) (y : Nat) : (addB f s l y).length ≤ (f y).length + l.length := by
  unfold addB; rw [List.length_append, List.length_map]; have := List.length_filter_le (fun x : Stp => x.to == y) l; omega
theorem backF_len {ops : List Wop} (hm : ops.length ≤ 40) : ∀ (L : List Nat) (y : Nat), (backF ops L y).length ≤ 40 * L.length
  | [], y => by simp [backF]
  | s :: r, y => by
    have h1 := backF_len hm r y
    have h2 := wsteps_le ops s
    have h3 := List.length_filter_le (fun x : Stp => x.to == y) (wsteps ops s)
    unfold backF at h1 ⊢
    rw [List.flatMap_cons, List.length_append, List.length_map, List.length_cons]
    omega

/-! ### the state of the walk -/
/-- The queue's blocks are no blocks of deferred calls. -/
theorem U.QRep.live {w : World} {Q : Nat} {A : List (Int × Int)} {t : Int} {F : Nat → Prop} (h : U.QRep w Q A t F) : U.QRep w Q A t (fun b => F b ∧ b < w.heap.size ∧ w.heap[b]? ≠ some (.deferred (some []))) := by
  obtain ⟨v, Mb, l, L, E, h⟩ := h
  refine ⟨v, Mb, l, L, E, { h with fQ := ⟨h.fQ, h.lt.1, cells_not_deferred h.q⟩, fM := ⟨h.fM, h.lt.2.1, map_not_deferred h.mp⟩, fH := fun b hb => ⟨h.fH b hb, h.lt.2.2 b hb, ?_⟩ }⟩
  rcases hb with hb | ⟨e, he, rfl⟩
  · exact row_not_deferred h.rep.row b hb
  · obtain ⟨j, hj⟩ := List.mem_iff_getElem?.1 he
    exact cells_not_deferred (h.rep.ent j e hj)

structure CSt (w0 : World) (b5 mb bo Q : Nat) (f : Nat → List (Nat × Int)) (L : List Nat) (D : Nat → Int) (A : List (Int × Int)) (t : Int) (F G : Nat → Prop) (W : World) : Prop where
  keep : Keeps (fun _ => False) w0 W
  x5 : Boxed W b5 127 (.map (some mb))
  out : IMap W bo .u32 (outV L D)
  back : GMap w0.heap.size 130 2 mb arcC f G W
  q : U.QRep W Q A t F
  l5 : w0.heap.size ≤ b5
  lo : w0.heap.size ≤ bo
  lF : ∀ k, F k → w0.heap.size ≤ k ∧ k < W.heap.size ∧ k ≠ b5 ∧ k ≠ bo ∧ ¬ G k
  lG : ∀ k, G k → w0.heap.size ≤ k ∧ k < W.heap.size ∧ k ≠ b5 ∧ k ≠ bo
  nd : ∀ k, F k → W.heap[k]? ≠ some (.deferred (some []))

theorem Keeps.nd {S : Nat → Prop} {W W' : World} (hk : Keeps S W W') {k : Nat} (hl : k < W.heap.size) (hs : ¬ S k) (h : W.heap[k]? ≠ some (.deferred (some []))) : W'.heap[k]? ≠ some (.deferred (some [])) := by
  rw [hk.block k hl hs]; exact h

section
variable {w0 : World} {b5 mb bo Q : Nat} {f : Nat → List (Nat × Int)} {L : List Nat} {D : Nat → Int} {A : List (Int × Int)} {t : Int} {F G : Nat → Prop} {W W' : World}
theorem CSt.o5 (h : CSt w0 b5 mb bo Q f L D A t F G W) : b5 ≠ bo := fun e => box_not_map h.out h.x5 e.symm
/-- Nothing of it has changed. -/
theorem CSt.by {S : Nat → Prop} (h : CSt w0 b5 mb bo Q f L D A t F G W) (hk : Keeps S W W') (s5 : ¬ S b5) (so : ¬ S bo) (sF : ∀ k, F k → ¬ S k) (sG : ∀ k, G k → ¬ S k) (hS : ∀ k, S k → w0.heap.size ≤ k) : CSt w0 b5 mb bo Q f L D A t F G W' :=
  ⟨h.keep.trans' hk (fun i hi => .inr (hS i hi)), hk.heap h.x5 s5, h.out.keeps hk so, h.back.keeps hk sG, h.q.keeps hk sF, h.l5, h.lo,
   fun k hF => ⟨(h.lF k hF).1, Nat.lt_of_lt_of_le (h.lF k hF).2.1 hk.size, (h.lF k hF).2.2⟩, fun k hG => ⟨(h.lG k hG).1, Nat.lt_of_lt_of_le (h.lG k hG).2.1 hk.size, (h.lG k hG).2.2⟩, fun k hF => Keeps.nd hk (h.lF k hF).2.1 (sF k hF) (h.nd k hF)⟩
theorem CSt.keeps0 (h : CSt w0 b5 mb bo Q f L D A t F G W) (hk : Keeps (fun _ => False) W W') : CSt w0 b5 mb bo Q f L D A t F G W' :=
  h.by hk (fun h => h) (fun h => h) (fun _ _ h => h) (fun _ _ h => h) (fun _ h => h.elim)
/-- The map of costs has changed. -/
theorem CSt.outed {L' : List Nat} {D' : Nat → Int} (h : CSt w0 b5 mb bo Q f L D A t F G W) (hI : IMap W' bo .u32 (outV L' D')) (hk : Keeps (fun k => k = bo) W W') : CSt w0 b5 mb bo Q f L' D' A t F G W' :=
  ⟨h.keep.trans' hk (fun i hi => .inr (by subst hi; exact h.lo)), hk.heap h.x5 h.o5, hI, h.back.keeps hk (fun b hb => (h.lG b hb).2.2.2), h.q.keeps hk (fun b hb => (h.lF b hb).2.2.2.1), h.l5, h.lo,
   fun k hF => ⟨(h.lF k hF).1, Nat.lt_of_lt_of_le (h.lF k hF).2.1 hk.size, (h.lF k hF).2.2⟩, fun k hG => ⟨(h.lG k hG).1, Nat.lt_of_lt_of_le (h.lG k hG).2.1 hk.size, (h.lG k hG).2.2⟩, fun k hF => Keeps.nd hk (h.lF k hF).2.1 (h.lF k hF).2.2.2.1 (h.nd k hF)⟩
theorem CSt.congr {D' : Nat → Int} (h : CSt w0 b5 mb bo Q f L D A t F G W) (hD : ∀ x ∈ L, D x = D' x) : CSt w0 b5 mb bo Q f L D' A t F G W := { h with out := by rw [← outV_congr hD]; exact h.out }
theorem CSt.kd (h : CSt w0 b5 mb bo Q f L D A t F G W) (hk : Keeps F W W') : KeepsD W W' := KeepsD.of hk h.nd
/-- The queue has changed. -/
theorem CSt.queued {A' : List (Int × Int)} {t' : Int} {F' : Nat → Prop} (h : CSt w0 b5 mb bo Q f L D A t F G W) (hq : U.QRep W' Q A' t' F') (hF : ∀ k, F' k → F k ∨ W.heap.size ≤ k) (hk : Keeps F W W') :
    CSt w0 b5 mb bo Q f L D A' t' (fun k => F' k ∧ k < W'.heap.size ∧ W'.heap[k]? ≠ some (.deferred (some []))) G W' :=
  ⟨h.keep.trans' hk (fun i hi => .inr (h.lF i hi).1), hk.heap h.x5 (fun e => (h.lF _ e).2.2.1 rfl), h.out.keeps hk (fun e => (h.lF _ e).2.2.2.1 rfl), h.back.keeps hk (fun b hb e => (h.lF b e).2.2.2.2 hb), hq.live, h.l5, h.lo,
   fun k hk' => by
    rcases hF k hk'.1 with h1 | h1
    · exact ⟨(h.lF k h1).1, hk'.2.1, (h.lF k h1).2.2⟩
    · have h2 := h.x5.lt
      have h3 := h.out.lt
      have h4 := h.keep.size
      exact ⟨by omega, hk'.2.1, by omega, by omega, fun e => by have := (h.lG k e).2.1; omega⟩,
   fun k hG => ⟨(h.lG k hG).1, Nat.lt_of_lt_of_le (h.lG k hG).2.1 hk.size, (h.lG k hG).2.2⟩, fun k hk' => hk'.2.2⟩
/-- The rows of arcs have changed. -/
theorem CSt.backed {S : Nat → Prop} {f' : Nat → List (Nat × Int)} {G' : Nat → Prop} (h : CSt w0 b5 mb bo Q f L D A t F G W) (hb : GMap w0.heap.size 130 2 mb arcC f' G' W') (hG : ∀ k, G' k → G k ∨ W.heap.size ≤ k) (hk : Keeps S W W') (hS : ∀ k, S k → G k) :
    CSt w0 b5 mb bo Q f' L D A t F (fun k => k < W'.heap.size ∧ G' k) W' :=
  ⟨h.keep.trans' hk (fun i hi => .inr (h.lG i (hS i hi)).1), hk.heap h.x5 (fun e => (h.lG _ (hS _ e)).2.2.1 rfl), h.out.keeps hk (fun e => (h.lG _ (hS _ e)).2.2.2 rfl), hb.mono (fun b h1 h2 => ⟨h1, h2⟩), h.q.keeps hk (fun b hF e => (h.lF b hF).2.2.2.2 (hS b e)), h.l5, h.lo,
   fun k hF => ⟨(h.lF k hF).1, Nat.lt_of_lt_of_le (h.lF k hF).2.1 hk.size, (h.lF k hF).2.2.1, (h.lF k hF).2.2.2.1, fun e => by
    rcases hG k e.2 with h1 | h1
    · exact (h.lF k hF).2.2.2.2 h1
    · have := (h.lF k hF).2.1; omega⟩,
   fun k hk' => by
    rcases hG k hk'.2 with h1 | h1
    · exact ⟨(h.lG k h1).1, hk'.1, (h.lG k h1).2.2⟩
    · have h2 := h.x5.lt
      have h3 := h.out.lt
      have h4 := h.keep.size
      exact ⟨by omega, hk'.1, by omega, by omega⟩,
   fun k hF => Keeps.nd hk (h.lF k hF).2.1 (fun e => (h.lF k hF).2.2.2.2 (hS k e)) (h.nd k hF)⟩

theorem GMap.steady {α : Type} {B0 : Nat} {T : TypeId} {sz mb : Nat} {cell : α → List Value} {f : Nat → List α} {G : Nat → Prop} {row : Option Nat} {B : Nat} (h : GMap B0 T sz mb cell f G W) (hg : W.grownBy W' row)
    (hr : ∀ r, row = some r → B ≤ r ∧ ∃ o : Obj, W.heap[r]? = some o ∧ o.isCells = false) (hB : mb < B) : GMap B0 T sz mb cell f G W' := by
  obtain ⟨l, h1, h2⟩ := h
  exact ⟨l, ⟨steady_map hg (fun r e => (hr r e).1) hB h1.map, h1.nd, fun p hp => steady_row hg (fun r e => (hr r e).2) (h1.own p hp), h1.apart, h1.fM, h1.fR⟩, h2⟩
theorem CSt.steady {row : Option Nat} {B : Nat} (h : CSt w0 b5 mb bo Q f L D A t F G W) (hg : W.grownBy W' row) (hr : ∀ r, row = some r → B ≤ r ∧ ∃ o : Obj, W.heap[r]? = some o ∧ o.isCells = false) (hB : w0.heap.size ≤ B) (hbo : bo < B) (hmb : mb < B) (hF : ∀ k, F k → k < B) : CSt w0 b5 mb bo Q f L D A t F G W' :=
  ⟨steady_keeps0 hg (fun r e => (hr r e).1) hB h.keep, steady_heap hg (fun r e => (hr r e).2) h.x5, steady_map hg (fun r e => (hr r e).1) hbo h.out, h.back.steady hg hr hmb, h.q.keeps (steady_keeps hg) (fun b hb e => by have := (hr b e).1; have := hF b hb; omega), h.l5, h.lo,
   fun k hF => ⟨(h.lF k hF).1, Nat.lt_of_lt_of_le (h.lF k hF).2.1 (steady_keeps hg).size, (h.lF k hF).2.2⟩, fun k hG => ⟨(h.lG k hG).1, Nat.lt_of_lt_of_le (h.lG k hG).2.1 (steady_keeps hg).size, (h.lG k hG).2.2⟩, fun k hk => Keeps.nd (steady_keeps hg) (h.lF k hk).2.1 (fun e => by have := (hr k e).1; have := hF k hk; omega) (h.nd k hk)⟩
end

theorem arcC_get : ∀ (l : List (Nat × Int)) (j : Nat) (p : Nat × Int), l[j]? = some p → (l.flatMap arcC)[j * 2]? = some (.int .u32 (p.1 : Int)) ∧ (l.flatMap arcC)[j * 2 + 1]? = some (.int .i64 p.2)
  | [], j, p, h => by simp at h
  | q :: r, 0, p, h => by simp at h; subst h; simp [arcC]
  | q :: r, j + 1, p, h => by
    have h' := arcC_get r j p (by simpa using h)
    rw [List.flatMap_cons, show (j + 1) * 2 = j * 2 + 1 + 1 by omega, show j * 2 + 1 + 1 + 1 = j * 2 + 1 + 1 + 1 from rfl]
    exact ⟨by simpa [arcC] using h'.1, by simpa [arcC] using h'.2⟩
theorem arow_at {w : World} {base k : Nat} {e : TypeId} {v : Value} {l : List (Nat × Int)} {p : Nat × Int} (h : w.ownsRow base e 2 v l.length (l.flatMap arcC)) (hk : l[k]? = some p) :
    ∃ gg cap, v = .slice (some ⟨gg, 0, none⟩) l.length cap ∧ gg < w.heap.size ∧ w.cell? ⟨gg, k * 2, none⟩ = some (.int .u32 (p.1 : Int)) ∧ w.cell? ⟨gg, k * 2 + 1, none⟩ = some (.int .i64 p.2) := by
  have hl := (List.getElem?_eq_some_iff.1 hk).1
  obtain ⟨c0, c1⟩ := arcC_get l k p hk
  rcases h.2 with ⟨_, h0⟩ | ⟨g, cap, cur, rfl, hb, hg, hn, hm, hs, ht⟩
  · omega
  · have key : ∀ (j : Nat) (x : Value), (l.flatMap arcC)[j]? = some x → w.cell? ⟨g, j, none⟩ = some x := by
      intro j x hj
      rw [cell_of_blk hg]
      rw [← ht, List.getElem?_take] at hj
      split at hj
      · simpa using hj
      · cases hj
    exact ⟨g, cap, rfl, lt_of_heap hg, key _ _ c0, key _ _ c1⟩
theorem ownsRow_formN {w : World} {base size n : Nat} {e : TypeId} {v : Value} {xs : List Value} (h : w.ownsRow base e size v n xs) : ∃ ao cap, v = .slice ao n cap := by
  rcases h.2 with ⟨hv, h0⟩ | ⟨g, cap, cur, hv, _⟩
  · exact ⟨none, 0, by rw [hv, h0]⟩
  · exact ⟨_, cap, hv⟩
theorem drop_getS {α : Type} {l : List α} {n : Nat} {k : α} (h : l[n]? = some k) : l.drop n = k :: l.drop (n + 1) := by
  obtain ⟨hl, he⟩ := List.getElem?_eq_some_iff.1 h
  rw [List.drop_eq_getElem_cons hl, he]
/-- Set, whether the item lies in the queue or not. -/
theorem U.set_both (w : World) (Q : Nat) (A : List (Int × Int)) (t : Int) (F : Nat → Prop) (h : U.QRep w Q A t F) (x k : Int) (ht : 0 ≤ t ∧ t ≤ 1000000000000000) (hA : A.length ≤ 999999) :
    Calls Tryz.prog 54 #[.pointer (some ⟨Q, 0, none⟩), .int .u32 x, .int .i64 k] w fun e w' => e = .returned (.tuple #[]) ∧ ∃ F2, U.QRep w' Q (putA A x k) (t + 1) F2 ∧ (∀ b, F2 b → F b ∨ w.heap.size ≤ b) ∧ Keeps F w w' := by
  by_cases hm : ∃ p ∈ A, p.1 = x
  · obtain ⟨⟨x', k0⟩, hp, rfl⟩ := hm
    exact (U.set_old w Q A t F h x' k k0 hp ht).mono fun e w' ⟨h1, h2, h3⟩ => ⟨h1, F, h2, fun b hb => .inl hb, h3⟩
  · exact (U.set_new w Q A t F h x k (fun p hp e => hm ⟨p, hp, e⟩) ht hA).mono fun e w' ⟨h1, h2, h3⟩ => ⟨h1, _, h2, fun b hb => hb, h3⟩
/-- The same; new blocks of the queue are rows of cells. -/
theorem U.set_both2 (w : World) (Q : Nat) (A : List (Int × Int)) (t : Int) (F : Nat → Prop) (h : U.QRep w Q A t F) (x k : Int) (ht : 0 ≤ t ∧ t ≤ 1000000000000000) (hA : A.length ≤ 999999) :
    Calls Tryz.prog 54 #[.pointer (some ⟨Q, 0, none⟩), .int .u32 x, .int .i64 k] w fun e w' => e = .returned (.tuple #[]) ∧ ∃ F2, U.QRep w' Q (putA A x k) (t + 1) F2 ∧ (∀ b, F2 b → (F b ∧ ((∃ cs T fr, w'.heap[b]? = some (.cells cs T fr)) ∨ ∃ es c, w.heap[b]? = some (.map es c))) ∨ (w.heap.size ≤ b ∧ ∃ cs T fr, w'.heap[b]? = some (.cells cs T fr))) ∧ Keeps F w w' := by
  by_cases hm : ∃ p ∈ A, p.1 = x
  · obtain ⟨⟨x', k0⟩, hp, rfl⟩ := hm
    exact (U.set_old2 w Q A t F h x' k k0 hp ht).mono fun e w' ⟨h1, h2, h3⟩ => ⟨h1, _, h2, fun b hb => .inl hb, h3⟩
  · exact (U.set_new2 w Q A t F h x k (fun p hp e => hm ⟨p, hp, e⟩) ht hA).mono fun e w' ⟨h1, h2, h3⟩ => ⟨h1, _, h2, fun b hb => hb, h3⟩
theorem LInv.anyS {ops : List Wop} {L : List Nat} {acc : Nat → Bool} {D : Nat → Int} {A : List (Int × Int)} {s s' : Nat} (h : LInv ops L acc D A s []) : LInv ops L acc D A s' [] :=
  ⟨h.inv, h.key, fun x hx o ho hc hd => by
    rcases h.pend x hx o ho hc hd with h1 | h1 | ⟨_, h1⟩
    · exact .inl h1
    · exact .inr (.inl h1)
    · cases h1⟩

structure CLoop (ops : List Wop) (acc : Nat → Bool) (L : List Nat) (w0 : World) (b5 mb bo Q i : Nat) (ds : List Deferred) (W : World) : Prop where
  st : ∃ (t : Int) (F G : Nat → Prop), CSt w0 b5 mb bo Q (backF ops (L.take i)) (L.take i) (start0 acc) (queue0 acc (L.take i)) t F G W ∧ 0 ≤ t ∧ t ≤ i
  marks : Marks ds W w0.heap.size

/-- Within the loop over the steps of s, when the steps l have come. -/
def CI (w0 : World) (b5 mb bo Q : Nat) (f : Nat → List (Nat × Int)) (L : List Nat) (D : Nat → Int) (A : List (Int × Int)) (t : Int) (F : Nat → Prop) (s : Nat) (ds : List Deferred) (Bs b9 : Nat) (l : List Stp) (W : World) : Prop :=
  ∃ G, CSt w0 b5 mb bo Q (addB f s l) L D A t F G W ∧ Marks ds W w0.heap.size ∧ W.heap[Bs]? = some (.cells #[.int .u32 (s : Int)] 66 (0, 0)) ∧ W.heap[b9]? = some (.cells #[.int .u32 (s : Int)] 66 (0, 0)) ∧ ∀ k, G k → k ≠ Bs ∧ k ≠ b9

end Go.Proofs.YtdokakhgflljgaaGreat

namespace Go.Proofs.YtdokakhgflljgaaGreat
open Go.RowKit

/-- Whether a word holds all facts of a goal. -/
def goalB (g x : Nat) : Bool := x &&& g == g

theorem goal_bits {x g : Nat} (hx : x < 4294967296) (hg : g < 4294967296) : (bits .and .u32 (x : Int) (g : Int) == (g : Int)) = goalB g x := by
  rw [(u32_bits hx hg).1]
  unfold goalB
  cases h : x &&& g == g with
  | true => rw [beq_iff_eq] at h ⊢; exact_mod_cast h
  | false => rw [beq_eq_false_iff_ne] at h ⊢; intro e; exact h (by exact_mod_cast e)

theorem asked_goal (w : World) (base b s g : Nat) (v : Value) (ops : List Wop) (h : WordsAt w base b s g v ops) (hg : g < 4294967296) : Asked w 33 #[.pointer (some ⟨b, 0, none⟩)] #[] (goalB g) := by
  refine ⟨enters_of Tryz.func33 (by kernel_rfl) rfl, fun W x hk hx => ?_⟩
  refine (goal_any W base b s g x v ops (h.keeps0 hk)).mono ?_
  rintro e w' ⟨rfl, hq⟩
  rw [goal_bits hx hg]
  exact ⟨rfl, hq⟩

def fltV (c i : Int) : Value := .agg #[.int .i64 c, .int .i64 i]

end Go.Proofs.YtdokakhgflljgaaGreat
