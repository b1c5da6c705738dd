/- The slice's own Push, and heap.Push. The plain laws of the heap: sifting up and down keep the entries, and make a heap; the first entry is a least one. No program in sight but for the entries' type. The queue: what it holds as a list of items and keys in the order in which the keys were set; New, Len, Key walked. The queue: Set walked, for a new item and for one that is there. The queue: Set of an item that is there, Take, Drop. The queue: Take and Drop. The queue: Set, whether the item lies in it or not; its length. breadth: BreadthAgreesWithSteps walked. The reference's BestPlans and BestFault. The reference's BestFault. bothends: what meet's two sides say of the task's plans (plain), and what a search for best plans hands back. symbolic.Plan: its memory between the steps, and what that says. symbolic.Plan: its steps, in plain Lean. No condition beyond what each theorem says. -/
import Derived.Test.YtjcgkmodmjckjaaA8
import Derived.Test.YtjcgkmodmjckjaaA1
import Derived.Deep.RegionLaw
import Derived.Test.YtjcgkmodmjckjaaA7
import Derived.Test.YtjcgkmodmjckjaaA6
import Derived.Test.YtjcgkmodmjckjaaA5
import Derived.Test.YtjcgkmodmjckjaaA4

namespace Go.Proofs.Ytjcgkmodmjckjaa.V
open Go.RowKit

theorem Try.infoE : (Try.prog.info? 114).map (fun i => (i.zero, i.size, i.bytes)) = some (some (.pointer none), 1, 8) := by kernel_rfl

theorem ta_entry (a : Addr) (w : World) : (Instr.typeAssert (.iface 114 (.pointer (some a))) 20 114 false).run Try.prog w = .ok (.pointer (some a)) w := by kernel_rfl

structure PushPost (w : World) (Q : Nat) (v m : Value) (t : Int) (L L' : List Ent) (e0 : Ent) (w' : World) (v' : Value) : Prop where
  rep : HRep w' v' L'
  q : QBlk w' Q v' m t
  keeps : Keeps (fun b => b = Q ∨ hfoot v L b ∨ b = e0.blk) w w'
  sub : ∀ b, hfoot v' L' b → hfoot v L b ∨ b = e0.blk ∨ w.heap.size ≤ b

theorem push_q {w w1 : World} {Q : Nat} {v m : Value} {t : Int} {L : List Ent} {e0 : Ent} (h : HRep w v L) (hQ : QBlk w Q v m t) (nQE : ¬ Q = e0.blk) {o : Obj}
    (hgrow : ((w.setCell ⟨e0.blk, 3, none⟩ (.int .i64 (L.length : Int))).alloc o).grownBy w1 v.ownBlock) : QBlk w1 Q v m t := by
  have lQ := lt_of_heap hQ
  have nQ := hQ.nfoot h
  unfold QBlk
  rw [hgrow.block Q (by simp; omega) (fun e => nQ (.inl e.symm)), Below.heap_alloc _ _ _ (by simpa using lQ), blk_set_ne nQE]
  exact hQ

theorem push_post {w w1 : World} {Q : Nat} {v m : Value} {t : Int} {L : List Ent} {e0 : Ent} {x : Value} {g cap : Nat} (h : HRep w v L) (hQ : QBlk w Q v m t)
    (he : w.heap[e0.blk]? = some (.cells #[.int .i64 e0.item, .int .i64 e0.key, .int .i64 e0.time, x] 117 (0, 0))) (hn : ¬ hfoot v L e0.blk) (hs : L.length + 1 ≤ 1000000)
    (hown : w1.ownsRow 0 114 1 (.slice (some ⟨g, 0, none⟩) (L.length + 1) cap) (L.length + 1) ((L.map Ent.ptr) ++ [e0.ptr]))
    (hgrow : ((w.setCell ⟨e0.blk, 3, none⟩ (.int .i64 (L.length : Int))).alloc (.cells #[e0.ptr] 114)).grownBy w1 v.ownBlock)
    (hat : v.ownBlock = some g ∨ g = w.heap.size + 1) :
    PushPost w Q v m t L (L ++ [e0]) e0 (w1.setCell ⟨Q, 0, none⟩ (.slice (some ⟨g, 0, none⟩) (L.length + 1) cap)) (.slice (some ⟨g, 0, none⟩) (L.length + 1) cap) := by
  have lQ := lt_of_heap hQ
  have lE := lt_of_heap he
  have nQ := hQ.nfoot h
  have nQE : Q ≠ e0.blk := by rintro rfl; unfold QBlk at hQ; rw [hQ] at he; simp at he
  have nQg : Q ≠ g := by
    rintro rfl
    rcases hat with hat | hat
    · exact nQ (.inl hat)
    · omega
  -- the world ahead of the append
  have k0 : Keeps (fun b => b = e0.blk) w ((w.setCell ⟨e0.blk, 3, none⟩ (.int .i64 (L.length : Int))).alloc (.cells #[e0.ptr] 114)) :=
    ((Keeps.refl (fun b => b = e0.blk) w).setCell (p := ⟨e0.blk, 3, none⟩) (.inl rfl) _).alloc _
  have k1 : Keeps (fun b => b = e0.blk ∨ v.ownBlock = some b) w w1 := (k0.mono (fun b _ hb => .inl hb)).grown hgrow (fun k hk => .inl (.inr hk))
  have k2 : Keeps (fun b => b = Q ∨ hfoot v L b ∨ b = e0.blk) w (w1.setCell ⟨Q, 0, none⟩ (.slice (some ⟨g, 0, none⟩) (L.length + 1) cap)) :=
    (k1.mono (fun b _ hb => by rcases hb with hb | hb; exact .inr (.inr hb); exact .inr (.inl (.inl hb)))).setCell (p := ⟨Q, 0, none⟩) (.inl (.inl rfl)) _
  have hE1 : w1.heap[e0.blk]? = some (.cells #[.int .i64 e0.item, .int .i64 e0.key, .int .i64 e0.time, .int .i64 (L.length : Int)] 117 (0, 0)) := by
    rw [hgrow.block e0.blk (by simp; omega) (fun e => hn (.inl e.symm)), Below.heap_alloc _ _ _ (by simpa using lE), blk_set_same he]; rfl
  refine ⟨⟨?_, ?_, ?_⟩, ?_, k2, ?_⟩
  · have := Keeps.ownsRow (S := fun b => b = Q) ((Keeps.refl (fun b => b = Q) w1).setCell (p := ⟨Q, 0, none⟩) (.inl rfl) (.slice (some ⟨g, 0, none⟩) (L.length + 1) cap)) hown (fun k hk => by
      simp [Value.ownBlock] at hk; subst hk; exact fun e => nQg e.symm)
    simpa using this
  · intro i e hi
    by_cases hl : i < L.length
    · rw [List.getElem?_append_left hl] at hi
      have hb := h.ent i e hi
      have hlt := lt_of_heap hb
      have hfe : hfoot v L e.blk := .inr ⟨e, List.mem_of_getElem? hi, rfl⟩
      have : w1.heap[e.blk]? = w.heap[e.blk]? := k1.block _ hlt (by
        rintro (hx | hx)
        · exact hn (hx ▸ hfe)
        · exact h.ne_row hi hx rfl)
      rw [blk_set_ne (fun hx => nQ (by rw [← hx]; exact hfe)), this]
      exact hb
    · have hlen : i < (L ++ [e0]).length := (List.getElem?_eq_some_iff.1 hi).1
      have hi' : i = L.length := by simp at hlen; omega
      subst hi'
      simp at hi
      subst hi
      rw [blk_set_ne (fun e => nQE e.symm)]
      exact hE1
  · simpa using hs
  · unfold QBlk
    have : w1.heap[Q]? = some (.cells #[v, m, .int .i64 t] 113 (0, 0)) := k1.heap hQ (by
      rintro (hx | hx)
      · exact nQE hx
      · exact nQ (.inl hx))
    rw [blk_set_same this]; rfl
  · rintro b (hb | ⟨e, he, rfl⟩)
    · simp [Value.ownBlock] at hb; subst hb
      rcases hat with hat | hat
      · exact .inl (.inl hat)
      · exact .inr (.inr (by omega))
    · rcases List.mem_append.1 he with he | he
      · exact .inl (.inr ⟨e, he, rfl⟩)
      · simp at he; subst he; exact .inr (.inl rfl)

set_option maxRecDepth 100000 in
set_option maxHeartbeats 1000000 in
theorem opush_any (w : World) (Q : Nat) (v m : Value) (t : Int) (L : List Ent) (e0 : Ent) (x : Value) (h : HRep w v L) (hQ : QBlk w Q v m t)
    (he : w.heap[e0.blk]? = some (.cells #[.int .i64 e0.item, .int .i64 e0.key, .int .i64 e0.time, x] 117 (0, 0))) (hn : ¬ hfoot v L e0.blk) (hs : L.length + 1 ≤ 1000000) :
    Calls Try.prog 115 #[.pointer (some ⟨Q, 0, none⟩), .iface 114 (.pointer (some ⟨e0.blk, 0, none⟩))] w fun e w' => e = .returned (.tuple #[]) ∧ ∃ v', PushPost w Q v m t L (L ++ [e0]) e0 w' v' := by
  obtain ⟨i0, hi0, hz0, hz1, hz2⟩ := info_parts Try.infoE
  have c0 := hQ.c0
  have f0 : w.frozen? ⟨Q, 0, none⟩ = false := frozen_of_blk hQ
  have c3 : w.cell? ⟨e0.blk, 3, none⟩ = some x := by rw [cell_of_blk he]; rfl
  have f3 : w.frozen? ⟨e0.blk, 3, none⟩ = false := frozen_of_blk he
  have nQE : ¬ Q = e0.blk := by rintro rfl; unfold QBlk at hQ; rw [hQ] at he; simp at he
  have nQE' : ¬ e0.blk = Q := fun e => nQE e.symm
  have lQ := lt_of_heap hQ
  have lE := lt_of_heap he
  have hrow := Keeps.ownsRow (S := fun b => b = e0.blk) ((Keeps.refl (fun b => b = e0.blk) w).setCell (p := ⟨e0.blk, 3, none⟩) (.inl rfl) (.int .i64 (L.length : Int))) h.row (fun k hk => by rintro rfl; exact hn (.inl hk))
  have hPP := fun w1 g cap => push_post (w1 := w1) (g := g) (cap := cap) h hQ he hn hs
  obtain ⟨ao, cap, rfl⟩ := h.isSlice
  have hrow' := Lib.hid (hrow.alloc (.cells #[e0.ptr] 114))
  have HPP := Lib.hid hPP
  have H0 := Lib.hid h
  have HQ := Lib.hid hQ
  clear h hQ he hn hrow hPP
  have hta := fun w => ta_entry ⟨e0.blk, 0, none⟩ w
  go_enter Try.func115, Try.ntmps115
  go_wp2_with (at_builtin; refine wpList_append_lies _ rfl _ _ _ rfl 0 114 i0 _ 1 8 Try.underlying111 hi0 hz0 hz1 hz2 rfl (by omega) _ L.length _ (by rfl) hrow'.out ⟨w.heap.size, 0, none⟩ 1 1 [e0.ptr] (by rfl) (by rfl) ?hnews ?hone (by omega) (by unfold maxLen; omega) (by omega) (by omega) (w.heap.size + 1) (by simp) ?_)
  case hnews => exact World.news_of_block (cs := #[e0.ptr]) (t := 114) (fr := (0, 0)) (by rw [← World.size_setCell (w := w) (a := ⟨e0.blk, 3, none⟩) (v := .int .i64 (L.length : Int))]; exact heap_alloc_new _ _)
  case hone => simp [Ent.ptr, Value.oneCell']
  intro g cap' w1 hown hgrow hat hlt
  have hq1 := push_q H0.out HQ.out nQE hgrow
  have c0' := hq1.c0
  have f0' : w1.frozen? ⟨Q, 0, none⟩ = false := frozen_of_blk hq1
  have HP := Lib.hid (HPP.out w1 g cap' hown hgrow hat)
  clear hown hgrow hat hq1
  go_wp2_with fail
  go_end0
  exact ⟨rfl, _, HP.out⟩

end Go.Proofs.Ytjcgkmodmjckjaa.V

namespace Go.Proofs.Ytjcgkmodmjckjaa.V
open Go.RowKit

def at' (L : List Ent) (i : Nat) : Ent := L.getD i ⟨0, 0, 0, 0⟩
theorem at_eq {L : List Ent} {i : Nat} {e : Ent} (h : L[i]? = some e) : at' L i = e := by simp [at', h]
theorem get_at {L : List Ent} {i : Nat} (h : i < L.length) : L[i]? = some (at' L i) := by simp [at', h]
theorem at_mem {L : List Ent} {i : Nat} (h : i < L.length) : at' L i ∈ L := List.mem_of_getElem? (get_at h)

def leE (a b : Ent) : Prop := lessE b a = false
theorem leE_iff (a b : Ent) : leE a b ↔ a.key < b.key ∨ (a.key = b.key ∧ a.time ≤ b.time) := by
  unfold leE lessE; simp; omega
theorem leE.refl (a : Ent) : leE a a := by rw [leE_iff]; right; exact ⟨rfl, Int.le_refl _⟩
theorem leE.trans {a b c : Ent} (h : leE a b) (k : leE b c) : leE a c := by rw [leE_iff] at *; omega
theorem leE_of_less {a b : Ent} (h : lessE a b = true) : leE a b := by
  rw [leE_iff]; unfold lessE at h; simp at h; omega

theorem lessAt_at {L : List Ent} {i k : Nat} (hi : i < L.length) (hk : k < L.length) : lessAt L i k = lessE (at' L i) (at' L k) := lessAt_eq (get_at hi) (get_at hk)

theorem at_swp {L : List Ent} {i k : Nat} (hi : i < L.length) (hk : k < L.length) (j : Nat) : at' (swp L i k) j = if j = k then at' L i else if j = i then at' L k else at' L j := by
  have := get_swp (get_at hi) (get_at hk) j
  simp only [at', List.getD, this]
  split
  · rfl
  · split <;> rfl

theorem perm_swp (L : List Ent) (i k : Nat) : (swp L i k).Perm L := by
  cases hi : L[i]? with
  | none => simp [swp, hi]
  | some a =>
    cases hk : L[k]? with
    | none => simp [swp, hi, hk]
    | some b =>
      have li : i < L.length := (List.getElem?_eq_some_iff.1 hi).1
      have lk : k < L.length := (List.getElem?_eq_some_iff.1 hk).1
      have ea := (List.getElem?_eq_some_iff.1 hi).2
      have eb := (List.getElem?_eq_some_iff.1 hk).2
      have hp := Array.swap_perm (xs := L.toArray) (i := i) (j := k) (by simpa using li) (by simpa using lk)
      have := Array.perm_iff_toList_perm.1 hp
      have e : (L.toArray.swap i k (by simpa using li) (by simpa using lk)).toList = swp L i k := by
        rw [swp_eq hi hk]
        simp [Array.swap, ea, eb]
      rw [e] at this
      simpa using this

theorem perm_upL (L : List Ent) (j : Nat) : (upL L j).Perm L := by
  induction j using Nat.strongRecOn generalizing L with
  | _ j ih =>
    rw [upL]
    split
    · exact List.Perm.refl _
    · split
      · exact (ih _ (by omega) _).trans (perm_swp _ _ _)
      · exact List.Perm.refl _

/-- What the sinking does, step by step. -/
theorem downL_ind {P : List Ent → Nat → List Ent × Nat → Prop} {n : Nat} (h1 : ∀ L i, n ≤ 2 * i + 1 → P L i (L, i))
    (h2 : ∀ L i j, ¬ n ≤ 2 * i + 1 → (if (decide (2 * i + 2 < n) && lessAt L (2 * i + 2) (2 * i + 1)) = true then 2 * i + 2 else 2 * i + 1) = j → lessAt L j i = false → P L i (L, i))
    (h3 : ∀ L i j, ¬ n ≤ 2 * i + 1 → (if (decide (2 * i + 2 < n) && lessAt L (2 * i + 2) (2 * i + 1)) = true then 2 * i + 2 else 2 * i + 1) = j → lessAt L j i = true → P (swp L i j) j (downL (swp L i j) n j) → P L i (downL (swp L i j) n j)) :
    ∀ L i, P L i (downL L n i) := by
  intro L i
  induction hm : n - i using Nat.strongRecOn generalizing L i with
  | _ m ih =>
    by_cases h : n ≤ 2 * i + 1
    · rw [downL_stop h]; exact h1 L i h
    · obtain ⟨j, hj⟩ : ∃ j, (if (decide (2 * i + 2 < n) && lessAt L (2 * i + 2) (2 * i + 1)) = true then 2 * i + 2 else 2 * i + 1) = j := ⟨_, rfl⟩
      rw [downL_go h hj]
      have hij : i < j := by subst hj; split <;> omega
      cases hc : lessAt L j i
      · simp only [Bool.false_eq_true, if_false]; exact h2 L i j h hj hc
      · simp only [if_true]; exact h3 L i j h hj hc (ih (n - j) (by omega) _ _ rfl)

theorem child_lt {L : List Ent} {n i j : Nat} (h : ¬ n ≤ 2 * i + 1) (hj : (if (decide (2 * i + 2 < n) && lessAt L (2 * i + 2) (2 * i + 1)) = true then 2 * i + 2 else 2 * i + 1) = j) : j < n ∧ i < j ∧ (j - 1) / 2 = i := by
  subst hj
  split
  · rename_i hc; simp at hc; omega
  · omega

theorem perm_downL (L : List Ent) (n i : Nat) : (downL L n i).1.Perm L :=
  downL_ind (P := fun L _ r => r.1.Perm L) (fun _ _ _ => List.Perm.refl _) (fun _ _ _ _ _ _ => List.Perm.refl _) (fun _ _ _ _ _ _ h => h.trans (perm_swp _ _ _)) L i

theorem downL_beyond (L : List Ent) (n i : Nat) (hn : n ≤ L.length) : ∀ k, n ≤ k → at' (downL L n i).1 k = at' L k :=
  downL_ind (P := fun L _ r => n ≤ L.length → ∀ k, n ≤ k → at' r.1 k = at' L k) (fun _ _ _ _ _ _ => rfl) (fun _ _ _ _ _ _ _ _ _ => rfl)
    (fun L i j h hj _ ih hn k hk => by
      obtain ⟨h1, h2, h3⟩ := child_lt h hj
      rw [ih (by rw [length_swp]; exact hn) k hk, at_swp (by omega) (by omega), if_neg (by omega), if_neg (by omega)]) L i hn

def Heap (L : List Ent) (n : Nat) : Prop := ∀ c, 0 < c → c < n → leE (at' L ((c - 1) / 2)) (at' L c)

theorem heap_downL (L : List Ent) (n i : Nat) (hn : n ≤ L.length) (H1 : ∀ c, 0 < c → c < n → (c - 1) / 2 ≠ i → c ≠ i → leE (at' L ((c - 1) / 2)) (at' L c))
    (H2 : ∀ c, 0 < c → c < n → (c - 1) / 2 = i → 0 < i → leE (at' L ((i - 1) / 2)) (at' L c)) :
    ((downL L n i).2 = i ∧ (downL L n i).1 = L ∧ ∀ c, 0 < c → c < n → (c - 1) / 2 = i → leE (at' L i) (at' L c)) ∨ (i < (downL L n i).2 ∧ Heap (downL L n i).1 n) := by
  refine downL_ind (n := n) (P := fun L i r => n ≤ L.length → (∀ c, 0 < c → c < n → (c - 1) / 2 ≠ i → c ≠ i → leE (at' L ((c - 1) / 2)) (at' L c)) → (∀ c, 0 < c → c < n → (c - 1) / 2 = i → 0 < i → leE (at' L ((i - 1) / 2)) (at' L c)) →
    (r.2 = i ∧ r.1 = L ∧ ∀ c, 0 < c → c < n → (c - 1) / 2 = i → leE (at' L i) (at' L c)) ∨ (i < r.2 ∧ Heap r.1 n)) ?_ ?_ ?_ L i hn H1 H2
  · intro L i h hn H1 H2
    exact .inl ⟨rfl, rfl, fun c h0 hc hp => by omega⟩
  · intro L i j h hj hl hn H1 H2
    obtain ⟨h1, h2, h3⟩ := child_lt h hj
    refine .inl ⟨rfl, rfl, fun c h0 hc hp => ?_⟩
    have hji : leE (at' L i) (at' L j) := by rw [lessAt_at (by omega) (by omega)] at hl; exact hl
    -- c is a child of i: j is the smaller one
    have hcc : c = 2 * i + 1 ∨ c = 2 * i + 2 := by omega
    refine hji.trans ?_
    by_cases hb : (decide (2 * i + 2 < n) && lessAt L (2 * i + 2) (2 * i + 1)) = true
    · rw [if_pos hb] at hj
      subst hj
      simp at hb
      rw [lessAt_at (by omega) (by omega)] at hb
      rcases hcc with rfl | rfl
      · exact leE_of_less hb.2
      · exact leE.refl _
    · rw [if_neg hb] at hj
      subst hj
      simp at hb
      rcases hcc with rfl | rfl
      · exact leE.refl _
      · have := hb (by omega)
        rw [lessAt_at (by omega) (by omega)] at this
        exact this
  · intro L i j h hj hl ih hn H1 H2
    obtain ⟨h1, h2, h3⟩ := child_lt h hj
    have hlt : lessE (at' L j) (at' L i) = true := by rw [lessAt_at (by omega) (by omega)] at hl; exact hl
    have hsw : ∀ k, at' (swp L i j) k = if k = j then at' L i else if k = i then at' L j else at' L k := at_swp (by omega) (by omega)
    have hmin : ∀ c, 0 < c → c < n → (c - 1) / 2 = i → leE (at' L j) (at' L c) := by
      intro c h0 hc hp
      have hcc : c = 2 * i + 1 ∨ c = 2 * i + 2 := by omega
      by_cases hb : (decide (2 * i + 2 < n) && lessAt L (2 * i + 2) (2 * i + 1)) = true
      · rw [if_pos hb] at hj
        subst hj
        simp at hb
        rw [lessAt_at (by omega) (by omega)] at hb
        rcases hcc with rfl | rfl
        · exact leE_of_less hb.2
        · exact leE.refl _
      · rw [if_neg hb] at hj
        subst hj
        simp at hb
        rcases hcc with rfl | rfl
        · exact leE.refl _
        · have := hb (by omega)
          rw [lessAt_at (by omega) (by omega)] at this
          exact this
    have hall : ∀ c, 0 < c → c < n → (c - 1) / 2 ≠ j → c ≠ j → leE (at' (swp L i j) ((c - 1) / 2)) (at' (swp L i j) c) := by
      intro c h0 hc hp hcj
      rw [hsw, hsw, if_neg hp, if_neg hcj]
      by_cases hpi : (c - 1) / 2 = i
      · rw [if_pos hpi, if_neg (by omega)]
        exact hmin c h0 hc hpi
      · rw [if_neg hpi]
        by_cases hci : c = i
        · subst hci
          rw [if_pos rfl]
          exact H2 j (by omega) h1 h3 h0
        · rw [if_neg hci]
          exact H1 c h0 hc hpi hci
    have hih := ih (by rw [length_swp]; exact hn) hall (by
      intro c h0 hc hp hj0
      rw [hsw, hsw, if_neg (by omega), if_pos h3, if_neg (by omega), if_neg (by omega)]
      have := H1 c h0 hc (by omega) (by omega)
      rw [hp] at this
      exact this)
    rcases hih with ⟨e1, e2, e3⟩ | ⟨e1, e2⟩
    · refine .inr ⟨by omega, ?_⟩
      rw [e2]
      intro c h0 hc
      by_cases hp : (c - 1) / 2 = j
      · rw [hp]; exact e3 c h0 hc hp
      · by_cases hcj : c = j
        · subst hcj
          rw [h3, hsw, hsw, if_neg (by omega), if_pos rfl, if_pos rfl]
          exact leE_of_less hlt
        · exact hall c h0 hc hp hcj
    · exact .inr ⟨by omega, e2⟩

theorem heap_upL (L : List Ent) (n j : Nat) (hn : n ≤ L.length) (hj : j < n) (H1 : ∀ c, 0 < c → c < n → c ≠ j → leE (at' L ((c - 1) / 2)) (at' L c))
    (H2 : ∀ c, 0 < c → c < n → (c - 1) / 2 = j → 0 < j → leE (at' L ((j - 1) / 2)) (at' L c)) : Heap (upL L j) n := by
  induction j using Nat.strongRecOn generalizing L with
  | _ j ih =>
    rw [upL]
    split
    · rename_i h0; subst h0; intro c hc hcn; exact H1 c hc hcn (by omega)
    · rename_i h0
      have hlt : (j - 1) / 2 < L.length := by omega
      cases hl : lessAt L j ((j - 1) / 2)
      · simp only [Bool.false_eq_true, if_false]
        rw [lessAt_at (by omega) hlt] at hl
        intro c hc hcn
        by_cases e : c = j
        · subst e; exact hl
        · exact H1 c hc hcn e
      · simp only [if_true]
        rw [lessAt_at (by omega) hlt] at hl
        have hsw : ∀ k, at' (swp L ((j - 1) / 2) j) k = if k = j then at' L ((j - 1) / 2) else if k = (j - 1) / 2 then at' L j else at' L k := at_swp hlt (by omega)
        generalize hi : (j - 1) / 2 = i at *
        refine ih i (by omega) _ (by rw [length_swp]; exact hn) (by omega) ?_ ?_
        · intro c hc hcn hci
          rw [hsw, hsw]
          by_cases hcj : c = j
          · subst hcj
            rw [if_pos rfl, hi, if_neg (by omega), if_pos rfl]
            exact leE_of_less hl
          · rw [if_neg hcj, if_neg hci]
            by_cases hpj : (c - 1) / 2 = j
            · rw [if_pos hpj]; exact H2 c hc hcn hpj (by omega)
            · rw [if_neg hpj]
              by_cases hpi : (c - 1) / 2 = i
              · rw [if_pos hpi]
                have := H1 c hc hcn hcj
                rw [hpi] at this
                exact (leE_of_less hl).trans this
              · rw [if_neg hpi]; exact H1 c hc hcn hcj
        · intro c hc hcn hci hi0
          rw [hsw, hsw, if_neg (by omega), if_neg (by omega)]
          have hpi := H1 i hi0 (by omega) (by omega)
          by_cases hcj : c = j
          · rw [if_pos hcj]; exact hpi
          · rw [if_neg hcj, if_neg (by omega)]
            have := H1 c hc hcn hcj
            rw [hci] at this
            exact hpi.trans this

theorem heap_min {L : List Ent} {n : Nat} (h : Heap L n) : ∀ i, i < n → leE (at' L 0) (at' L i) := by
  intro i
  induction i using Nat.strongRecOn with
  | _ i ih =>
    intro hi
    by_cases h0 : i = 0
    · subst h0; exact leE.refl _
    · exact (ih ((i - 1) / 2) (by omega) (by omega)).trans (h i (by omega) hi)

/-- The list without its last element, and that element. -/
theorem snoc_of {L : List Ent} {n : Nat} (h : L.length = n + 1) : L = L.take n ++ [at' L n] := by
  have : L.drop n = [at' L n] := by
    apply List.ext_getElem?
    intro i
    rw [List.getElem?_drop]
    cases i with
    | zero => simp [get_at (L := L) (i := n) (by omega)]
    | succ i => simp; omega
  rw [← this, List.take_append_drop]

theorem at_take {L : List Ent} {n i : Nat} (h : i < n) : at' (L.take n) i = at' L i := by simp [at', h]

theorem heap_take {L : List Ent} {n : Nat} (h : Heap L n) : Heap (L.take n) n := by
  intro c h0 hc; rw [at_take (by omega), at_take hc]; exact h c h0 hc

theorem popL_law {L : List Ent} {n : Nat} (hl : L.length = n + 1) (h : Heap L (n + 1)) :
    ∃ R, popL L = R ++ [at' L 0] ∧ R.length = n ∧ Heap R n ∧ (R ++ [at' L 0]).Perm L := by
  have hlen : (popL L).length = n + 1 := by rw [length_popL]; exact hl
  have hp : (popL L).Perm L := (perm_downL _ _ _).trans (perm_swp _ _ _)
  have hsw : ∀ k, at' (swp L 0 n) k = if k = n then at' L 0 else if k = 0 then at' L n else at' L k := at_swp (by omega) (by omega)
  have e0 : popL L = (downL (swp L 0 n) n 0).1 := by unfold popL; rw [hl]; rfl
  have hlast : at' (popL L) n = at' L 0 := by
    rw [e0, downL_beyond _ _ _ (by rw [length_swp]; omega) n (Nat.le_refl _), hsw, if_pos rfl]
  have hs := snoc_of hlen
  rw [hlast] at hs
  refine ⟨(popL L).take n, hs, by rw [List.length_take, hlen]; omega, heap_take ?_, by rw [← hs]; exact hp⟩
  have hd := heap_downL (swp L 0 n) n 0 (by rw [length_swp]; omega) (by
    intro c h0 hc hpc hc0
    rw [hsw, hsw, if_neg (by omega), if_neg hpc, if_neg (by omega), if_neg hc0]
    exact h c h0 (by omega)) (by intro c _ _ _ h; omega)
  rw [e0]
  rcases hd with ⟨d1, d2, d3⟩ | ⟨d1, d2⟩
  · rw [d2]
    intro c h0 hc
    by_cases hpc : (c - 1) / 2 = 0
    · rw [hpc]; exact d3 c h0 hc hpc
    · rw [hsw, hsw, if_neg (by omega), if_neg hpc, if_neg (by omega), if_neg (by omega)]
      exact h c h0 (by omega)
  · exact d2

theorem fixL_law {L : List Ent} {i : Nat} {e : Ent} (hi : i < L.length) (h : Heap L L.length) : Heap (fixL (L.set i e) i) L.length ∧ (fixL (L.set i e) i).Perm (L.set i e) := by
  have hat : ∀ k, k ≠ i → at' (L.set i e) k = at' L k := by
    intro k hk; simp only [at', List.getD, List.getElem?_set]; rw [if_neg (fun e => hk e.symm)]
  have hl : (L.set i e).length = L.length := by simp
  unfold fixL
  rw [hl]
  have hd := heap_downL (L.set i e) L.length i (by omega) (by
    intro c h0 hc hp hci
    rw [hat _ hp, hat _ hci]; exact h c h0 hc) (by
    intro c h0 hc hp hi0
    rw [hat _ (by omega), hat _ (by omega)]
    have a := h c h0 hc
    rw [hp] at a
    exact (h i hi0 hi).trans a)
  rcases hd with ⟨d1, d2, d3⟩ | ⟨d1, d2⟩
  · rw [if_neg (by omega), d2]
    refine ⟨heap_upL _ _ i (by omega) hi ?_ ?_, perm_upL _ _⟩
    · intro c h0 hc hci
      by_cases hp : (c - 1) / 2 = i
      · rw [hp]; exact d3 c h0 hc hp
      · rw [hat _ hp, hat _ hci]; exact h c h0 hc
    · intro c h0 hc hp hi0
      rw [hat _ (by omega), hat _ (by omega)]
      have a := h c h0 hc
      rw [hp] at a
      exact (h i hi0 hi).trans a
  · rw [if_pos d1]
    exact ⟨d2, perm_downL _ _ _⟩

theorem push_law {L : List Ent} {e : Ent} (h : Heap L L.length) : Heap (upL (L ++ [e]) L.length) (L.length + 1) ∧ (upL (L ++ [e]) L.length).Perm (L ++ [e]) := by
  have hat : ∀ k, k < L.length → at' (L ++ [e]) k = at' L k := by
    intro k hk; simp [at', List.getElem?_append_left hk]
  refine ⟨heap_upL _ _ _ (by simp) (by omega) ?_ ?_, perm_upL _ _⟩
  · intro c h0 hc hcl
    rw [hat _ (by omega), hat _ (by omega)]; exact h c h0 (by omega)
  · intro c h0 hc hp; omega

end Go.Proofs.Ytjcgkmodmjckjaa.V

namespace Go.Proofs.Ytjcgkmodmjckjaa.V
open Go.RowKit

structure QR (w : World) (Q : Nat) (v : Value) (Mb : Nat) (l : List (Int × Value)) (L E : List Ent) (A : List (Int × Int)) (t : Int) (F : Nat → Prop) : Prop where
  rep : HRep w v L
  q : QBlk w Q v (.map (some Mb)) t
  mp : IMap w Mb .i64 l
  nd : (l.map Prod.fst).Nodup
  mem : ∀ p, p ∈ l ↔ ∃ e ∈ L, p = (e.item, e.ptr)
  heap : Heap L L.length
  perm : L.Perm E
  view : E.map (fun e => (e.item, e.key)) = A
  ord : E.Pairwise (fun a b => a.time < b.time)
  bound : ∀ e ∈ E, e.time ≤ t
  ndA : (A.map Prod.fst).Nodup
  fQ : F Q
  fM : F Mb
  fH : ∀ b, hfoot v L b → F b

/-- The queue at block Q holds the items and keys of A, in the order in which the keys were set; its blocks lie in F. -/
def QRep (w : World) (Q : Nat) (A : List (Int × Int)) (t : Int) (F : Nat → Prop) : Prop := ∃ v Mb l L E, QR w Q v Mb l L E A t F

theorem QR.len {w : World} {Q : Nat} {v : Value} {Mb : Nat} {l : List (Int × Value)} {L E : List Ent} {A : List (Int × Int)} {t : Int} {F : Nat → Prop} (h : QR w Q v Mb l L E A t F) : L.length = A.length := by
  rw [h.perm.length_eq, ← h.view]; simp

theorem QR.lt {w : World} {Q : Nat} {v : Value} {Mb : Nat} {l : List (Int × Value)} {L E : List Ent} {A : List (Int × Int)} {t : Int} {F : Nat → Prop} (h : QR w Q v Mb l L E A t F) : Q < w.heap.size ∧ Mb < w.heap.size ∧ ∀ b, hfoot v L b → b < w.heap.size :=
  ⟨lt_of_heap h.q, h.mp.lt, fun _ hb => h.rep.lt hb⟩

theorem QRep.keeps {S : Nat → Prop} {w w' : World} {Q : Nat} {A : List (Int × Int)} {t : Int} {F : Nat → Prop} (h : QRep w Q A t F) (hk : Keeps S w w') (hs : ∀ b, F b → ¬ S b) : QRep w' Q A t F := by
  obtain ⟨v, Mb, l, L, E, h⟩ := h
  exact ⟨v, Mb, l, L, E, { h with rep := h.rep.keeps hk (fun b hb => hs b (h.fH b hb)), q := hk.heap h.q (hs _ h.fQ), mp := h.mp.keeps hk (hs _ h.fM) }⟩

theorem QRep.mono {w : World} {Q : Nat} {A : List (Int × Int)} {t : Int} {F F' : Nat → Prop} (h : QRep w Q A t F) (hf : ∀ b, b < w.heap.size → F b → F' b) : QRep w Q A t F' := by
  obtain ⟨v, Mb, l, L, E, h⟩ := h
  exact ⟨v, Mb, l, L, E, { h with fQ := hf _ h.lt.1 h.fQ, fM := hf _ h.lt.2.1 h.fM, fH := fun b hb => hf b (h.lt.2.2 b hb) (h.fH b hb) }⟩

/-- A key's entry. -/
theorem QR.find {w : World} {Q : Nat} {v : Value} {Mb : Nat} {l : List (Int × Value)} {L E : List Ent} {A : List (Int × Int)} {t : Int} {F : Nat → Prop} (h : QR w Q v Mb l L E A t F) {x k : Int} (hx : (x, k) ∈ A) :
    ∃ e, e ∈ L ∧ e.item = x ∧ e.key = k ∧ (x, e.ptr) ∈ l := by
  rw [← h.view] at hx
  obtain ⟨e, he, hp⟩ := List.mem_map.1 hx
  simp at hp
  have hL := h.perm.mem_iff.2 he
  exact ⟨e, hL, hp.1, hp.2, (h.mem _).2 ⟨e, hL, by rw [hp.1]⟩⟩

theorem QR.miss {w : World} {Q : Nat} {v : Value} {Mb : Nat} {l : List (Int × Value)} {L E : List Ent} {A : List (Int × Int)} {t : Int} {F : Nat → Prop} (h : QR w Q v Mb l L E A t F) {x : Int} (hx : ∀ p ∈ A, p.1 ≠ x) : ∀ p ∈ l, p.1 ≠ x := by
  intro p hp
  obtain ⟨e, he, rfl⟩ := (h.mem p).1 hp
  have : (e.item, e.key) ∈ A := by rw [← h.view]; exact List.mem_map.2 ⟨e, h.perm.mem_iff.1 he, rfl⟩
  exact hx _ this

set_option maxRecDepth 100000 in
set_option maxHeartbeats 400000 in
theorem new_any (w : World) : Calls Try.prog 25 #[] w fun e w' => e = .returned (.pointer (some ⟨w.heap.size + 1, 0, none⟩)) ∧ QRep w' (w.heap.size + 1) [] 0 (fun b => w.heap.size ≤ b) ∧ Keeps (fun _ => False) w w' := by
  have hmm := @run_makeMap Try.prog
  go_enter Try.func25, Try.ntmps25
  go_wp2
  go_ret
  refine ⟨rfl, ⟨.slice none 0 0, w.heap.size, [], [], [], ?_⟩, ((Keeps.refl _ _).alloc _).alloc _⟩
  refine ⟨⟨World.ownsRow_nil _ _ _ _, by simp, by simp⟩, ?_, (IMap.made w .i64).alloc _, by simp, by simp, fun c _ h => by simp at h, List.Perm.refl _, rfl, List.Pairwise.nil, by simp, by simp, ?_, Nat.le_refl _, ?_⟩
  · unfold QBlk
    have := heap_alloc_new (w.alloc (.map #[] 0)) (.cells #[.slice none 0 0, .map (some w.heap.size), .int .i64 0] 113 (0, 0))
    simpa using this
  · show w.heap.size ≤ w.heap.size + 1; omega
  · rintro b (hb | ⟨e, he, _⟩)
    · simp [Value.ownBlock] at hb
    · simp at he

set_option maxRecDepth 100000 in
set_option maxHeartbeats 400000 in
theorem qlen_any (w : World) (Q : Nat) (A : List (Int × Int)) (t : Int) (F : Nat → Prop) (h : QRep w Q A t F) :
    Calls Try.prog 27 #[.pointer (some ⟨Q, 0, none⟩)] w fun e w' => e = .returned (.int .i64 (A.length : Int)) ∧ w = w' := by
  obtain ⟨v, Mb, l, L, E, h⟩ := h
  obtain ⟨ao, cap, rfl⟩ := h.rep.isSlice
  have c0 := h.q.c0
  have HL := Lib.hid h.len
  clear h
  go_enter Try.func27, Try.ntmps27
  go_wp2
  go_ret
  exact ⟨by rw [← HL.out]; rfl, rfl⟩

theorem zero_entry (w : World) : (zeroValue 114).run Try.prog w = .ok (.pointer none) w := by kernel_rfl

end Go.Proofs.Ytjcgkmodmjckjaa.V

namespace Go.Proofs.Ytjcgkmodmjckjaa.V
open Go.RowKit

def setA (A : List (Int × Int)) (x k : Int) : List (Int × Int) := A.filter (fun p => p.1 != x) ++ [(x, k)]

theorem setA_new {A : List (Int × Int)} {x k : Int} (hx : ∀ p ∈ A, p.1 ≠ x) : setA A x k = A ++ [(x, k)] := by
  unfold setA; congr 1; rw [List.filter_eq_self]; intro p hp; simpa using hx p hp

theorem filter_view (E : List Ent) (x : Int) : (E.filter (fun e => e.item != x)).map (fun e => (e.item, e.key)) = (E.map (fun e => (e.item, e.key))).filter (fun p => p.1 != x) := by
  rw [List.filter_map]; rfl

theorem nodup_setA {A : List (Int × Int)} {x k : Int} (h : (A.map Prod.fst).Nodup) : ((setA A x k).map Prod.fst).Nodup := by
  unfold setA
  rw [List.map_append, List.nodup_append]
  refine ⟨(List.Sublist.map Prod.fst List.filter_sublist).nodup h, by simp, ?_⟩
  intro a ha b hb e
  simp at hb
  subst hb; subst e
  obtain ⟨p, hp, rfl⟩ := List.mem_map.1 ha
  have := (List.mem_filter.1 hp).2
  simp at this

theorem HRep.cells {w : World} {v : Value} {L : List Ent} (h : HRep w v L) {b : Nat} (hb : hfoot v L b) : ∃ cs T fr, w.heap[b]? = some (.cells cs T fr) := by
  rcases hb with hb | ⟨e, he, rfl⟩
  · rcases h.row.2 with ⟨hv, _⟩ | ⟨g, cap, cur, hv, _, hg, _⟩
    · rw [hv] at hb; simp [Value.ownBlock] at hb
    · rw [hv] at hb; simp [Value.ownBlock] at hb
      subst hb; exact ⟨_, _, _, hg⟩
  · obtain ⟨j, hj⟩ := List.mem_iff_getElem?.1 he
    exact ⟨_, _, _, h.ent j e hj⟩

/-- What Set leaves: for a new item. -/
theorem set_new_post {w w1 w2 w3 : World} {Q : Nat} {v : Value} {Mb : Nat} {l : List (Int × Value)} {L E : List Ent} {A : List (Int × Int)} {t : Int} {F : Nat → Prop} (h : QR w Q v Mb l L E A t F) (x k : Int) (hx : ∀ p ∈ A, p.1 ≠ x) (e0 : Ent)
    (he : e0.item = x ∧ e0.key = k ∧ e0.time = t + 1 ∧ e0.blk = w.heap.size)
    (k1 : Keeps (fun b => b = Q) w w1) (q1 : QBlk w1 Q v (.map (some Mb)) (t + 1)) (m2 : IMap w2 Mb .i64 (l ++ [(x, e0.ptr)])) (k2 : Keeps (fun b => b = Mb) w1 w2)
    {v' : Value} (hp : PushPost w2 Q v (.map (some Mb)) (t + 1) L (upL (L ++ [e0]) L.length) e0 w3 v') : QRep w3 Q (setA A x k) (t + 1) (fun b => (F b ∧ ((∃ cs T fr, w3.heap[b]? = some (.cells cs T fr)) ∨ ∃ es c, w.heap[b]? = some (.map es c))) ∨ (w.heap.size ≤ b ∧ ∃ cs T fr, w3.heap[b]? = some (.cells cs T fr))) ∧ Keeps F w w3 := by
  have hlt := h.lt
  have hlaw := push_law (e := e0) h.heap
  have hmL : ∀ e, e ∈ upL (L ++ [e0]) L.length ↔ e ∈ L ∨ e = e0 := fun e => by rw [hlaw.2.mem_iff]; simp
  have hlen : (upL (L ++ [e0]) L.length).length = L.length + 1 := by rw [hlaw.2.length_eq]; simp
  have nM : Mb ≠ Q := by
    rintro rfl
    obtain ⟨es, c, hb, _⟩ := h.mp
    have := h.q; unfold QBlk at this; rw [hb] at this; simp at this
  have nMf : ¬ hfoot v L Mb := by
    intro hb
    obtain ⟨es, c, hbm, _⟩ := h.mp
    rcases hb with hb | ⟨e, he, rfl⟩
    · rcases h.rep.row.2 with ⟨hv, _⟩ | ⟨g, cap, cur, hv, _, hg, _⟩
      · rw [hv] at hb; simp [Value.ownBlock] at hb
      · rw [hv] at hb; simp [Value.ownBlock] at hb
        subst hb; rw [hbm] at hg; simp at hg
    · obtain ⟨j, hj⟩ := List.mem_iff_getElem?.1 he
      rw [h.rep.ent j e hj] at hbm; simp at hbm
  have hk3 : Keeps F w w3 := by
    refine ((k1.mono (S' := F) (fun b _ hb => hb ▸ h.fQ)).trans (k2.mono (S' := F) (fun b _ hb => hb ▸ h.fM))).trans' hp.keeps ?_
    rintro b (hb | hb | hb)
    · exact .inl (hb ▸ h.fQ)
    · exact .inl (h.fH b hb)
    · exact .inr (by rw [hb, he.2.2.2]; exact Nat.le_refl _)
  refine ⟨⟨v', Mb, l ++ [(x, e0.ptr)], upL (L ++ [e0]) L.length, E ++ [e0], ?_⟩, hk3⟩
  refine { rep := hp.rep, q := hp.q, mp := m2.keeps hp.keeps ?_, nd := ?_, mem := ?_, heap := by rw [hlen]; exact hlaw.1, perm := ?_, view := ?_, ord := ?_, bound := ?_, ndA := nodup_setA h.ndA, fQ := .inl ⟨h.fQ, .inl ⟨_, _, _, hp.q⟩⟩, fM := .inl ⟨h.fM, .inr (by obtain ⟨es, c, hb, _⟩ := h.mp; exact ⟨es, c, hb⟩)⟩, fH := ?_ }
  · rintro (hb | hb | hb)
    · exact nM hb
    · exact nMf hb
    · rw [he.2.2.2] at hb; have := hlt.2.1; omega
  · rw [List.map_append, List.nodup_append]
    refine ⟨h.nd, by simp, ?_⟩
    intro a ha b hb e
    simp at hb
    obtain ⟨p, hp', rfl⟩ := List.mem_map.1 ha
    exact h.miss hx p hp' (by rw [e, hb])
  · intro p
    rw [List.mem_append, h.mem]
    constructor
    · rintro (⟨e, he', rfl⟩ | hp')
      · exact ⟨e, (hmL e).2 (.inl he'), rfl⟩
      · simp at hp'; subst hp'; exact ⟨e0, (hmL e0).2 (.inr rfl), by rw [he.1]⟩
    · rintro ⟨e, he', rfl⟩
      rcases (hmL e).1 he' with h' | rfl
      · exact .inl ⟨e, h', rfl⟩
      · right; simp [he.1]
  · exact hlaw.2.trans (h.perm.append_right [e0])
  · rw [setA_new hx, List.map_append, h.view]; simp [he.1, he.2.1]
  · rw [List.pairwise_append]
    refine ⟨h.ord, by simp, ?_⟩
    intro a ha b hb
    simp at hb; subst hb
    have := h.bound a ha
    rw [he.2.2.1]; omega
  · intro e he'
    rcases List.mem_append.1 he' with h' | h'
    · have := h.bound e h'; omega
    · simp at h'; subst h'; rw [he.2.2.1]; exact Int.le_refl _
  · intro b hb
    have hc := hp.rep.cells hb
    rcases hp.sub b hb with hb | hb | hb
    · exact .inl ⟨h.fH b hb, .inl hc⟩
    · exact .inr ⟨by rw [hb, he.2.2.2]; exact Nat.le_refl _, hc⟩
    · exact .inr ⟨Nat.le_trans (Nat.le_trans k1.size k2.size) hb, hc⟩

set_option maxRecDepth 100000 in
set_option maxHeartbeats 1000000 in
theorem hpush_any (w : World) (Q : Nat) (v m : Value) (t : Int) (L : List Ent) (e0 : Ent) (x : Value) (h : HRep w v L) (hQ : QBlk w Q v m t)
    (he : w.heap[e0.blk]? = some (.cells #[.int .i64 e0.item, .int .i64 e0.key, .int .i64 e0.time, x] 117 (0, 0))) (hn : ¬ hfoot v L e0.blk) (hs : L.length + 1 ≤ 1000000) :
    Calls Try.prog 50 #[.iface 119 (.pointer (some ⟨Q, 0, none⟩)), .iface 114 (.pointer (some ⟨e0.blk, 0, none⟩))] w fun e w' => e = .returned (.tuple #[]) ∧ ∃ v', PushPost w Q v m t L (upL (L ++ [e0]) L.length) e0 w' v' := by
  have mP := fun w => method_Push_raw ⟨Q, 0, none⟩ w
  have H0 := Lib.hid h
  have HQ := Lib.hid hQ
  have HE := Lib.hid he
  have HN := Lib.hid hn
  clear h hQ he hn
  go_enter Try.func50, Try.ntmps50
  go_wp2_with fail
  refine (opush_any _ Q v m t L e0 x H0.out HQ.out HE.out HN.out hs).mono ?_; rintro e w1 ⟨rfl, v', hP⟩
  have mN := method_Len hP.q.c0
  have HP := Lib.hid hP
  clear hP
  go_wp2_with fail
  refine (len_any _ v' _ HP.out.rep).mono ?_; rintro e w' ⟨he, rfl⟩; rw [List.length_append, List.length_singleton] at he; subst he
  go_wp2_with fail
  refine (up_any _ Q v' _ HP.out.rep HP.out.q.c0 (HP.out.q.nfoot HP.out.rep) L.length (by simp)).mono ?_; rintro e w2 ⟨rfl, hU⟩
  have hp2 : PushPost w Q v m t L (upL (L ++ [e0]) L.length) e0 w2 v' :=
    ⟨hU.rep, hU.qblk HP.out.q HP.out.rep, HP.out.keeps.trans' hU.keeps (fun b hb => by rcases HP.out.sub b hb with h | h | h; exact .inl (.inr (.inl h)); exact .inl (.inr (.inr h)); exact .inr h),
      fun b hb => HP.out.sub b (hU.sub b hb)⟩
  have HP2 := Lib.hid hp2
  clear hp2 hU
  go_wp2_with fail
  go_end0
  exact ⟨rfl, v', HP2.out⟩

set_option maxRecDepth 100000 in
set_option maxHeartbeats 1000000 in
theorem set_new2 (w : World) (Q : Nat) (A : List (Int × Int)) (t : Int) (F : Nat → Prop) (h : QRep w Q A t F) (x k : Int) (hx : ∀ p ∈ A, p.1 ≠ x) (ht : 0 ≤ t ∧ t ≤ 1000000000000000) (hA : A.length ≤ 999999) :
    Calls Try.prog 26 #[.pointer (some ⟨Q, 0, none⟩), .int .i64 x, .int .i64 k] w fun e w' => e = .returned (.tuple #[]) ∧ QRep w' Q (setA A x k) (t + 1) (fun b => (F b ∧ ((∃ cs T fr, w'.heap[b]? = some (.cells cs T fr)) ∨ ∃ es c, w.heap[b]? = some (.map es c))) ∨ (w.heap.size ≤ b ∧ ∃ cs T fr, w'.heap[b]? = some (.cells cs T fr))) ∧ Keeps F w w' := by
  obtain ⟨v, Mb, l, L, E, h⟩ := h
  have c1 := h.q.c1
  have c2 := h.q.c2
  have f2 : w.frozen? ⟨Q, 2, none⟩ = false := frozen_of_blk h.q
  have lQ := h.lt.1
  have lM := h.lt.2.1
  have nM : Mb ≠ Q := by
    rintro rfl
    obtain ⟨es, c, hb, _⟩ := h.mp
    have := h.q; unfold QBlk at this; rw [hb] at this; simp at this
  have q1 : QBlk (w.setCell ⟨Q, 2, none⟩ (.int .i64 (t + 1))) Q v (.map (some Mb)) (t + 1) := by unfold QBlk; rw [blk_set_same h.q]; rfl
  have k1 : Keeps (fun b => b = Q) w (w.setCell ⟨Q, 2, none⟩ (.int .i64 (t + 1))) := (Keeps.refl (fun b => b = Q) w).setCell (p := ⟨Q, 2, none⟩) (.inl rfl) _
  have m1 := h.mp.keeps k1 nM
  have hmiss := h.miss hx
  have r1 := h.rep.keeps k1 (fun b hb e => h.q.nfoot h.rep (e ▸ hb))
  have sz1 : (w.setCell ⟨Q, 2, none⟩ (.int .i64 (t + 1))).heap.size = w.heap.size := World.size_setCell ..
  have HL := Lib.hid h.len
  have HM := Lib.hid m1
  have HMS := Lib.hid hmiss
  have H0 := Lib.hid h
  have HX := Lib.hid hx
  have Q1 := Lib.hid q1
  have K1 := Lib.hid k1
  have R1 := Lib.hid r1
  have t0 := ht.1
  have t1 := ht.2
  clear h hx hmiss m1 q1 k1 r1 ht
  go_enter Try.func26, Try.ntmps26
  go_wp2_with (first | (at_lookup; refine wpList_ilookup_ok_miss rfl _ _ _ rfl Try.underlying109 Try.underlying3 HM.out (zero_entry _) x rfl rfl HMS.out ?_) | (at_mapUpdate; refine wpList_iupdate_new rfl _ _ _ _ rfl Try.underlying109 Try.underlying3 (HM.out.alloc _) x _ rfl rfl rfl HMS.out ?_))
  intro w2 m2 k2
  have q2 : QBlk w2 Q v (.map (some Mb)) (t + 1) := k2.heap ((Keeps.refl (fun _ => False) _).alloc _ |>.heap Q1.out (fun h => h)) (fun e => nM e.symm)
  have r2 : HRep w2 v L := (R1.out.keeps ((Keeps.refl (fun _ => False) _).alloc _) (fun _ _ h => h)).keeps k2 (fun b hb e => by
    subst e
    obtain ⟨es, c, hbm, _⟩ := H0.out.mp
    rcases hb with hb | ⟨e, he, rfl⟩
    · rcases H0.out.rep.row.2 with ⟨hv, _⟩ | ⟨g, cap, cur, hv, _, hg, _⟩
      · rw [hv] at hb; simp [Value.ownBlock] at hb
      · rw [hv] at hb; simp [Value.ownBlock] at hb
        subst hb; rw [hbm] at hg; simp at hg
    · obtain ⟨j, hj⟩ := List.mem_iff_getElem?.1 he
      rw [H0.out.rep.ent j e hj] at hbm; simp at hbm)
  have e2 : w2.heap[w.heap.size]? = some (.cells #[.int .i64 x, .int .i64 k, .int .i64 (t + 1), .int .i64 0] 117 (0, 0)) := by
    rw [k2.block _ (by simp) (by omega)]
    have := heap_alloc_new (w.setCell ⟨Q, 2, none⟩ (.int .i64 (t + 1))) (.cells #[.int .i64 x, .int .i64 k, .int .i64 (t + 1), .int .i64 0] 117 (0, 0))
    rw [sz1] at this
    exact this
  have n2 : ¬ hfoot v L w.heap.size := fun hb => by have := H0.out.lt.2.2 _ hb; omega
  have c1' := q2.c1
  have M2 := Lib.hid m2
  have K2 := Lib.hid k2
  have Q2 := Lib.hid q2
  have R2 := Lib.hid r2
  have E2 := Lib.hid e2
  have N2 := Lib.hid n2
  clear m2 k2 q2 r2 e2 n2
  go_wp2_with fail
  refine (hpush_any _ Q v _ (t + 1) L ⟨w.heap.size, x, k, t + 1⟩ _ R2.out Q2.out E2.out N2.out (by have := HL.out; omega)).mono ?_; rintro e w3 ⟨rfl, v', hP⟩
  have hpost := set_new_post H0.out x k HX.out ⟨w.heap.size, x, k, t + 1⟩ ⟨rfl, rfl, rfl, rfl⟩ (K1.out.alloc _) (((Keeps.refl (fun _ => False) _).alloc _).heap Q1.out (fun h => h)) M2.out K2.out hP
  have HPO := Lib.hid hpost
  clear hpost hP
  go_wp2_with fail
  go_end0
  exact ⟨rfl, HPO.out⟩
theorem set_new (w : World) (Q : Nat) (A : List (Int × Int)) (t : Int) (F : Nat → Prop) (h : QRep w Q A t F) (x k : Int) (hx : ∀ p ∈ A, p.1 ≠ x) (ht : 0 ≤ t ∧ t ≤ 1000000000000000) (hA : A.length ≤ 999999) :
    Calls Try.prog 26 #[.pointer (some ⟨Q, 0, none⟩), .int .i64 x, .int .i64 k] w fun e w' => e = .returned (.tuple #[]) ∧ QRep w' Q (setA A x k) (t + 1) (fun b => F b ∨ w.heap.size ≤ b) ∧ Keeps F w w' :=
  (set_new2 w Q A t F h x k hx ht hA).mono fun _ _ h => ⟨h.1, h.2.1.mono (fun _ _ hb => hb.imp (fun h => h.1) (fun h => h.1)), h.2.2⟩

end Go.Proofs.Ytjcgkmodmjckjaa.V

namespace Go.Proofs.Ytjcgkmodmjckjaa.V
open Go.RowKit

theorem QR.nM {w : World} {Q : Nat} {v : Value} {Mb : Nat} {l : List (Int × Value)} {L E : List Ent} {A : List (Int × Int)} {t : Int} {F : Nat → Prop} (h : QR w Q v Mb l L E A t F) : Mb ≠ Q := by
  rintro rfl
  obtain ⟨es, c, hb, _⟩ := h.mp
  have := h.q; unfold QBlk at this; rw [hb] at this; simp at this

theorem QR.nMf {w : World} {Q : Nat} {v : Value} {Mb : Nat} {l : List (Int × Value)} {L E : List Ent} {A : List (Int × Int)} {t : Int} {F : Nat → Prop} (h : QR w Q v Mb l L E A t F) : ¬ hfoot v L Mb := by
  intro hb
  obtain ⟨es, c, hbm, _⟩ := h.mp
  rcases hb with hb | ⟨e, he, rfl⟩
  · rcases h.rep.row.2 with ⟨hv, _⟩ | ⟨g, cap, cur, hv, _, hg, _⟩
    · rw [hv] at hb; simp [Value.ownBlock] at hb
    · rw [hv] at hb; simp [Value.ownBlock] at hb
      subst hb; rw [hbm] at hg; simp at hg
  · obtain ⟨j, hj⟩ := List.mem_iff_getElem?.1 he
    rw [h.rep.ent j e hj] at hbm; simp at hbm

theorem QR.itemInj {w : World} {Q : Nat} {v : Value} {Mb : Nat} {l : List (Int × Value)} {L E : List Ent} {A : List (Int × Int)} {t : Int} {F : Nat → Prop} (h : QR w Q v Mb l L E A t F) {i j : Nat} {a b : Ent} (hi : L[i]? = some a) (hj : L[j]? = some b) (e : a.item = b.item) : i = j := by
  have hp : (L.map (fun e => (e.item, e.key))).Perm A := by rw [← h.view]; exact h.perm.map _
  have hn : ((L.map (fun e => (e.item, e.key))).map Prod.fst).Nodup := (hp.map Prod.fst).nodup_iff.2 h.ndA
  rw [List.map_map] at hn
  have h1 : (L.map (Prod.fst ∘ fun e => (e.item, e.key)))[i]? = some a.item := by rw [List.getElem?_map, hi]; rfl
  have h2 : (L.map (Prod.fst ∘ fun e => (e.item, e.key)))[j]? = some a.item := by rw [List.getElem?_map, hj]; simp [e]
  have li : i < (L.map (Prod.fst ∘ fun e => (e.item, e.key))).length := (List.getElem?_eq_some_iff.1 h1).1
  exact (List.getElem?_inj li hn).1 (h1.trans h2.symm)

/-- The entry turned in place. -/
theorem HRep.turn {w : World} {H cap n : Nat} {L : List Ent} (h : HRep w (.slice (some ⟨H, 0, none⟩) n cap) L) {i : Nat} {e : Ent} (hi : L[i]? = some e) (k t : Int) :
    HRep ((w.setCell ⟨e.blk, 1, none⟩ (.int .i64 k)).setCell ⟨e.blk, 2, none⟩ (.int .i64 t)) (.slice (some ⟨H, 0, none⟩) n cap) (L.set i { e with key := k, time := t }) := by
  have hne := h.ne_row hi (g := H) rfl
  have li : i < L.length := (List.getElem?_eq_some_iff.1 hi).1
  refine ⟨?_, ?_, by simpa using h.small⟩
  · have hr := Keeps.ownsRow (S := fun b => b = e.blk) (((Keeps.refl (fun b => b = e.blk) w).setCell (p := ⟨e.blk, 1, none⟩) (.inl rfl) (.int .i64 k)).setCell (p := ⟨e.blk, 2, none⟩) (.inl rfl) (.int .i64 t)) h.row
      (fun b hb => by simp [Value.ownBlock] at hb; subst hb; exact fun e => hne e.symm)
    have e1 : (L.set i { e with key := k, time := t }).map Ent.ptr = L.map Ent.ptr := by
      rw [List.map_set]
      apply List.ext_getElem?
      intro j
      rw [List.getElem?_set]
      split
      · rename_i hj; subst hj
        have := (List.getElem?_eq_some_iff.1 hi).2
        simp [li, Ent.ptr, this]
      · rfl
    rw [e1, List.length_set]; exact hr
  · intro j a hj
    rw [List.getElem?_set] at hj
    by_cases hij : i = j
    · subst hij
      rw [if_pos rfl, if_pos li] at hj
      obtain rfl := Option.some.inj hj
      rw [blk_set_same (blk_set_same (h.ent i e hi) _)]; rfl
    · rw [if_neg hij] at hj
      have : a.blk ≠ e.blk := fun x => hij (h.inj hj hi x).symm
      rw [blk_set_ne this, blk_set_ne this]
      exact h.ent j a hj

theorem set_old_post {w w1 w2 : World} {Q : Nat} {v : Value} {Mb : Nat} {l : List (Int × Value)} {L E : List Ent} {A : List (Int × Int)} {t : Int} {F : Nat → Prop} (h : QR w Q v Mb l L E A t F) {i : Nat} {e : Ent} (hi : L[i]? = some e) (k : Int)
    (k1 : Keeps (fun b => b = Q ∨ b = e.blk) w w1) (q1 : QBlk w1 Q v (.map (some Mb)) (t + 1)) (hp : HPost w1 v (L.set i { e with key := k, time := t + 1 }) (fixL (L.set i { e with key := k, time := t + 1 }) i) w2) :
    QRep w2 Q (setA A e.item k) (t + 1) (fun b => F b ∧ ((∃ cs T fr, w2.heap[b]? = some (.cells cs T fr)) ∨ ∃ es c, w.heap[b]? = some (.map es c))) ∧ Keeps F w w2 := by
  have li : i < L.length := (List.getElem?_eq_some_iff.1 hi).1
  have he : e ∈ L := List.mem_of_getElem? hi
  have hlaw := fixL_law (e := { e with key := k, time := t + 1 }) li h.heap
  have hfe : hfoot v L e.blk := .inr ⟨e, he, rfl⟩
  have hfs : ∀ b, hfoot v (L.set i { e with key := k, time := t + 1 }) b → hfoot v L b := by
    rintro b (hb | ⟨a, ha, rfl⟩)
    · exact .inl hb
    · rcases List.mem_or_eq_of_mem_set ha with ha | rfl
      · exact .inr ⟨a, ha, rfl⟩
      · exact hfe
  have hmset : ∀ a, a ∈ L.set i { e with key := k, time := t + 1 } ↔ (a ∈ L ∧ a.item ≠ e.item) ∨ a = { e with key := k, time := t + 1 } := by
    intro a
    constructor
    · intro ha
      obtain ⟨j, hj⟩ := List.mem_iff_getElem?.1 ha
      rw [List.getElem?_set] at hj
      by_cases hij : i = j
      · subst hij; rw [if_pos rfl, if_pos li] at hj; exact .inr (Option.some.inj hj).symm
      · rw [if_neg hij] at hj
        exact .inl ⟨List.mem_of_getElem? hj, fun x => hij (h.itemInj hj hi x).symm⟩
    · rintro (⟨ha, hne⟩ | rfl)
      · obtain ⟨j, hj⟩ := List.mem_iff_getElem?.1 ha
        refine List.mem_of_getElem? (i := j) ?_
        rw [List.getElem?_set, if_neg]
        · exact hj
        · rintro rfl; rw [hi] at hj; exact hne (by rw [Option.some.inj hj])
      · refine List.mem_of_getElem? (i := i) ?_
        rw [List.getElem?_set, if_pos rfl, if_pos li]
  have hk2 : Keeps F w w2 := (k1.mono (S' := F) (fun b _ hb => by rcases hb with rfl | rfl; exact h.fQ; exact h.fH _ hfe)).trans (hp.keeps.mono (fun b _ hb => h.fH b (hfs b hb)))
  have hperm : (L.set i { e with key := k, time := t + 1 }).Perm (L.filter (fun a => a.item != e.item) ++ [{ e with key := k, time := t + 1 }]) := by
    have hl : L = L.take i ++ e :: L.drop (i + 1) := by
      have := @List.getElem_cons_drop _ L i li
      rw [(List.getElem?_eq_some_iff.1 hi).2] at this
      rw [this, List.take_append_drop]
    have f1 : (L.take i).filter (fun a => a.item != e.item) = L.take i := by
      rw [List.filter_eq_self]; intro a ha
      obtain ⟨j, hj⟩ := List.mem_iff_getElem?.1 ha
      rw [List.getElem?_take] at hj
      split at hj
      · simp; intro x; have := h.itemInj hj hi x; omega
      · cases hj
    have f2 : (L.drop (i + 1)).filter (fun a => a.item != e.item) = L.drop (i + 1) := by
      rw [List.filter_eq_self]; intro a ha
      obtain ⟨j, hj⟩ := List.mem_iff_getElem?.1 ha
      rw [List.getElem?_drop] at hj
      simp; intro x; have := h.itemInj hj hi x; omega
    have e1 : L.filter (fun a => a.item != e.item) = L.take i ++ L.drop (i + 1) := by
      conv => lhs; rw [hl]
      rw [List.filter_append, List.filter_cons, f1, f2]; simp
    rw [e1, List.set_eq_take_append_cons_drop, if_pos li, List.append_assoc]
    exact List.Perm.append_left _ (List.perm_append_singleton _ _).symm
  have hE : (L.filter (fun a => a.item != e.item)).Perm (E.filter (fun a => a.item != e.item)) := h.perm.filter _
  obtain ⟨ao, cap, hv⟩ := h.rep.isSlice
  refine ⟨⟨v, Mb, l, fixL (L.set i { e with key := k, time := t + 1 }) i, E.filter (fun a => a.item != e.item) ++ [{ e with key := k, time := t + 1 }], ?_⟩, hk2⟩
  have nQ := h.q.nfoot h.rep
  refine { rep := hp.rep, q := hp.keeps.heap q1 (fun hb => nQ (hfs _ hb)), mp := ?_, nd := h.nd, mem := ?_, heap := ?_, perm := hlaw.2.trans (hperm.trans (hE.append_right _)), view := ?_, ord := ?_, bound := ?_, ndA := nodup_setA h.ndA, fQ := ⟨h.fQ, .inl ⟨_, _, _, hp.keeps.heap q1 (fun hb => nQ (hfs _ hb))⟩⟩, fM := ⟨h.fM, .inr (by obtain ⟨es, c, hb, _⟩ := h.mp; exact ⟨es, c, hb⟩)⟩, fH := fun b hb => ⟨h.fH b (hfs b (hp.sub b hb)), .inl (hp.rep.cells hb)⟩ }
  · refine (h.mp.keeps k1 ?_).keeps hp.keeps (fun hb => h.nMf (hfs _ hb))
    rintro (hb | hb)
    · exact h.nM hb
    · exact h.nMf (hb ▸ hfe)
  · intro p
    rw [h.mem]
    constructor
    · rintro ⟨a, ha, rfl⟩
      by_cases hae : a.item = e.item
      · refine ⟨{ e with key := k, time := t + 1 }, hlaw.2.mem_iff.2 ((hmset _).2 (.inr rfl)), ?_⟩
        obtain ⟨j, hj⟩ := List.mem_iff_getElem?.1 ha
        have := h.itemInj hj hi hae
        subst this
        rw [hi] at hj
        obtain rfl := Option.some.inj hj
        rfl
      · exact ⟨a, hlaw.2.mem_iff.2 ((hmset _).2 (.inl ⟨ha, hae⟩)), rfl⟩
    · rintro ⟨a, ha, rfl⟩
      rcases (hmset a).1 (hlaw.2.mem_iff.1 ha) with ⟨ha', _⟩ | rfl
      · exact ⟨a, ha', rfl⟩
      · exact ⟨e, he, rfl⟩
  · rw [hp.len, List.length_set]; exact hlaw.1
  · rw [List.map_append, filter_view, h.view]; rfl
  · rw [List.pairwise_append]
    refine ⟨h.ord.filter _, by simp, ?_⟩
    intro a ha b hb
    simp at hb; subst hb
    have := h.bound a (List.mem_filter.1 ha).1
    show a.time < t + 1; omega
  · intro a ha
    rcases List.mem_append.1 ha with ha | ha
    · have := h.bound a (List.mem_filter.1 ha).1; omega
    · simp at ha; subst ha; exact Int.le_refl _

set_option maxRecDepth 100000 in
set_option maxHeartbeats 1000000 in
theorem set_old2 (w : World) (Q : Nat) (A : List (Int × Int)) (t : Int) (F : Nat → Prop) (h : QRep w Q A t F) (x k k0 : Int) (hx : (x, k0) ∈ A) (ht : 0 ≤ t ∧ t ≤ 1000000000000000) :
    Calls Try.prog 26 #[.pointer (some ⟨Q, 0, none⟩), .int .i64 x, .int .i64 k] w fun e w' => e = .returned (.tuple #[]) ∧ QRep w' Q (setA A x k) (t + 1) (fun b => F b ∧ ((∃ cs T fr, w'.heap[b]? = some (.cells cs T fr)) ∨ ∃ es c, w.heap[b]? = some (.map es c))) ∧ Keeps F w w' := by
  obtain ⟨v, Mb, l, L, E, h⟩ := h
  obtain ⟨e, he, rfl, _, h3⟩ := h.find hx
  obtain ⟨i, hi⟩ := List.mem_iff_getElem?.1 he
  have li : i < L.length := (List.getElem?_eq_some_iff.1 hi).1
  obtain ⟨H, cap, cur, hv, -⟩ := h.rep.form (by omega)
  subst hv
  have c1 := h.q.c1
  have c2 := h.q.c2
  have f2 : w.frozen? ⟨Q, 2, none⟩ = false := frozen_of_blk h.q
  have hfe : hfoot (.slice (some ⟨H, 0, none⟩) L.length cap) L e.blk := .inr ⟨e, he, rfl⟩
  have nQE : ¬ Q = e.blk := fun x => h.q.nfoot h.rep (x ▸ hfe)
  have nQE' : ¬ e.blk = Q := fun x => nQE x.symm
  have ce1 := h.rep.e1 hi
  have ce2 := h.rep.e2 hi
  have ce3 := h.rep.e3 hi
  have fe1 : w.frozen? ⟨e.blk, 1, none⟩ = false := frozen_of_blk (h.rep.ent i e hi)
  have fe2 : w.frozen? ⟨e.blk, 2, none⟩ = false := frozen_of_blk (h.rep.ent i e hi)
  have q1 : QBlk (w.setCell ⟨Q, 2, none⟩ (.int .i64 (t + 1))) Q (.slice (some ⟨H, 0, none⟩) L.length cap) (.map (some Mb)) (t + 1) := by unfold QBlk; rw [blk_set_same h.q]; rfl
  have k1 : Keeps (fun b => b = Q) w (w.setCell ⟨Q, 2, none⟩ (.int .i64 (t + 1))) := (Keeps.refl (fun b => b = Q) w).setCell (p := ⟨Q, 2, none⟩) (.inl rfl) _
  have m1 := h.mp.keeps k1 h.nM
  have r1 := h.rep.keeps k1 (fun b hb e => h.q.nfoot h.rep (e ▸ hb))
  have r2 := r1.turn hi k (t + 1)
  have k2 : Keeps (fun b => b = Q ∨ b = e.blk) w (((w.setCell ⟨Q, 2, none⟩ (.int .i64 (t + 1))).setCell ⟨e.blk, 1, none⟩ (.int .i64 k)).setCell ⟨e.blk, 2, none⟩ (.int .i64 (t + 1))) :=
    ((k1.mono (fun b _ hb => .inl hb)).setCell (p := ⟨e.blk, 1, none⟩) (.inl (.inr rfl)) _).setCell (p := ⟨e.blk, 2, none⟩) (.inl (.inr rfl)) _
  have q2 : QBlk (((w.setCell ⟨Q, 2, none⟩ (.int .i64 (t + 1))).setCell ⟨e.blk, 1, none⟩ (.int .i64 k)).setCell ⟨e.blk, 2, none⟩ (.int .i64 (t + 1))) Q (.slice (some ⟨H, 0, none⟩) L.length cap) (.map (some Mb)) (t + 1) := by
    unfold QBlk; rw [blk_set_ne nQE, blk_set_ne nQE]; exact q1
  have HM := Lib.hid m1
  have HN := Lib.hid h.nd
  have H3 := Lib.hid h3
  have H0 := Lib.hid h
  have HI := Lib.hid hi
  have R2 := Lib.hid r2
  have K2 := Lib.hid k2
  have Q2 := Lib.hid q2
  have t0 := ht.1
  have t1 := ht.2
  clear h hx m1 q1 k1 r1 r2 k2 q2 ht h3 hi he hfe
  go_enter Try.func26, Try.ntmps26
  go_wp2_with (at_lookup; refine wpList_ilookup_ok_hit rfl _ _ _ rfl Try.underlying109 Try.underlying3 HM.out HN.out e.item _ rfl rfl H3.out ?_; simp only [Ent.ptr])
  go_region_with (go_at_call 49; refine (fix_any _ Q _ _ (t + 1) _ (R2.out.drewN 1) Q2.out _ i (by rw [List.length_set]; exact li) rfl).mono ?_; rintro e' w2 ⟨rfl, hP⟩)
  have hpost := set_old_post H0.out HI.out k (K2.out.drewN 1) Q2.out hP
  have HPO := Lib.hid hpost
  clear hpost hP
  go_wp2
  refine bodyPost_ret (results_none rfl _ _ _) rfl ?_
  exact ⟨rfl, HPO.out⟩
theorem set_old (w : World) (Q : Nat) (A : List (Int × Int)) (t : Int) (F : Nat → Prop) (h : QRep w Q A t F) (x k k0 : Int) (hx : (x, k0) ∈ A) (ht : 0 ≤ t ∧ t ≤ 1000000000000000) :
    Calls Try.prog 26 #[.pointer (some ⟨Q, 0, none⟩), .int .i64 x, .int .i64 k] w fun e w' => e = .returned (.tuple #[]) ∧ QRep w' Q (setA A x k) (t + 1) F ∧ Keeps F w w' :=
  (set_old2 w Q A t F h x k k0 hx ht).mono fun _ _ h => ⟨h.1, h.2.1.mono (fun _ _ hb => hb.1), h.2.2⟩

end Go.Proofs.Ytjcgkmodmjckjaa.V

namespace Go.Proofs.Ytjcgkmodmjckjaa.V
open Go.RowKit

theorem step_idelete {P : Program} {ops : Array Oper} {o : Oper} {a : Act} {w : World} {K : Act → World → Prop} {Q : Exit → Act → World → Prop} {E : Prop} {k e : TypeId} {kd : IntKind} {b : Nat} {l : List (Int × Value)}
    (hg : o.guard = none) (m x : Operand) (t t2 : TypeId) (hop : o.op = Op.call { callee := Callee.builtin Builtin.delete, args := #[m, x], argTypes := #[t, t2] }) (ht : P.underlying t = some (.map k e)) (hk : P.underlying k = some (.int kd))
    (h : IMap w b kd l) (hn : (l.map Prod.fst).Nodup) (n : Int) (hm : a.eval m = .map (some b)) (hx : a.eval x = .int kd n)
    (hK : ∀ w', IMap w' b kd (l.filter fun p => p.1 != n) → Keeps (fun k => k = b) w w' → K (a.put o.dst (.tuple #[])) w') :
    if Region.wanted o (yielded ops a.tmps) = true then Oper.wp P o a w K Q else E := by
  have hw : Region.wanted o (yielded ops a.tmps) = true := by simp [Region.wanted, hg]
  rw [if_pos hw]
  obtain ⟨w', hrun, r1, r2⟩ := h.run_delete ht hk hn o.type t2 n
  unfold Oper.wp
  simp [execOp, hop, resolve, invoke, builtin, hm, hx, hrun, Result.andThen]
  exact hK w' r1 r2

def firstMin : List (Int × Int) → Option (Int × Int)
  | [] => none
  | p :: r => match firstMin r with
    | none => some p
    | some q => if q.2 < p.2 then some q else some p

theorem firstMin_none {A : List (Int × Int)} : firstMin A = none ↔ A = [] := by
  cases A with
  | nil => simp [firstMin]
  | cons p r => simp [firstMin]; split <;> (try split) <;> simp

theorem firstMin_mem {A : List (Int × Int)} {q : Int × Int} (h : firstMin A = some q) : q ∈ A := by
  induction A generalizing q with
  | nil => simp [firstMin] at h
  | cons p r ih =>
    simp only [firstMin] at h
    split at h
    · simp at h; subst h; simp
    · rename_i q' hq'
      split at h
      · simp at h; subst h; exact List.mem_cons_of_mem _ (ih hq')
      · simp at h; subst h; simp

theorem firstMin_of {E : List Ent} (ho : E.Pairwise (fun a b => a.time < b.time)) {e0 : Ent} (he : e0 ∈ E) (hm : ∀ e ∈ E, leE e0 e) : firstMin (E.map fun e => (e.item, e.key)) = some (e0.item, e0.key) := by
  induction E with
  | nil => simp at he
  | cons a r ih =>
    obtain ⟨h1, h2⟩ := List.pairwise_cons.1 ho
    simp only [List.map_cons, firstMin]
    rcases List.mem_cons.1 he with rfl | he'
    · cases hf : firstMin (r.map fun e => (e.item, e.key)) with
      | none => rfl
      | some q =>
        obtain ⟨e, he2, hq⟩ := List.mem_map.1 (firstMin_mem hf)
        have := (leE_iff _ _).1 (hm e (by simp [he2]))
        subst hq
        simp only
        rw [if_neg (by simp; omega)]
    · rw [ih h2 he' (fun e h => hm e (by simp [h]))]
      have := (leE_iff _ _).1 (hm a (by simp))
      have := h1 e0 he'
      show (if e0.key < a.key then some (e0.item, e0.key) else some (a.item, a.key)) = _
      rw [if_pos (by omega)]

/-- What a call that takes one entry out leaves. -/
theorem took_queue {w w1 w2 : World} {Q : Nat} {v v' : Value} {Mb : Nat} {l : List (Int × Value)} {L E R : List Ent} {A : List (Int × Int)} {t : Int} {F : Nat → Prop} (h : QR w Q v Mb l L E A t F) {e0 : Ent}
    (hT : TookPost w Q v (.map (some Mb)) t L R e0 w1 v') (hp : (R ++ [e0]).Perm L) (hH : Heap R R.length) (hm : IMap w2 Mb .i64 (l.filter fun p => p.1 != e0.item)) (k2 : Keeps (fun b => b = Mb) w1 w2) :
    QRep w2 Q (A.filter fun p => p.1 != e0.item) t F ∧ Keeps F w w2 := by
  have he0 : e0 ∈ L := hp.mem_iff.1 (by simp)
  have nMf := h.nMf
  have hne : ∀ a ∈ R, a.item ≠ e0.item := by
    intro a ha e
    have hn : ((R ++ [e0]).map Ent.item).Nodup := by
      have hpv : (L.map (fun e => (e.item, e.key))).Perm A := by rw [← h.view]; exact h.perm.map _
      have : ((L.map (fun e => (e.item, e.key))).map Prod.fst).Nodup := (hpv.map Prod.fst).nodup_iff.2 h.ndA
      rw [List.map_map] at this
      exact (hp.map Ent.item).nodup_iff.2 this
    rw [List.map_append, List.nodup_append] at hn
    exact hn.2.2 _ (List.mem_map.2 ⟨a, ha, rfl⟩) _ (by simp : e0.item ∈ [e0].map Ent.item) e
  have hRL : ∀ a, a ∈ R ↔ a ∈ L ∧ a.item ≠ e0.item := by
    intro a
    constructor
    · intro ha; exact ⟨hp.mem_iff.1 (by simp [ha]), hne a ha⟩
    · rintro ⟨ha, hn⟩
      have := hp.mem_iff.2 ha
      simp at this
      rcases this with h' | rfl
      · exact h'
      · exact absurd rfl hn
  have hk : Keeps F w w2 := (hT.keeps.mono (S' := F) (fun b _ hb => by rcases hb with rfl | hb; exact h.fQ; exact h.fH b hb)).trans (k2.mono (fun b _ hb => hb ▸ h.fM))
  have hperm : R.Perm (E.filter fun a => a.item != e0.item) := by
    have := ((hp.trans h.perm).filter (fun a => a.item != e0.item))
    rw [List.filter_append] at this
    have f1 : R.filter (fun a => a.item != e0.item) = R := by rw [List.filter_eq_self]; intro a ha; simpa using hne a ha
    rw [f1] at this
    simpa using this
  refine ⟨⟨v', Mb, l.filter (fun p => p.1 != e0.item), R, E.filter (fun a => a.item != e0.item), ?_⟩, hk⟩
  refine { rep := hT.rep.keeps k2 (fun b hb e => nMf (hT.sub _ (e ▸ hb))), q := k2.heap hT.q (fun e => h.nM e.symm), mp := hm, nd := (List.Sublist.map Prod.fst List.filter_sublist).nodup h.nd, mem := ?_, heap := hH, perm := hperm, view := by rw [filter_view, h.view], ord := h.ord.filter _, bound := fun a ha => h.bound a (List.mem_filter.1 ha).1, ndA := (List.Sublist.map Prod.fst List.filter_sublist).nodup h.ndA, fQ := h.fQ, fM := h.fM, fH := fun b hb => h.fH b (hT.sub b hb) }
  intro p
  rw [List.mem_filter, h.mem]
  constructor
  · rintro ⟨⟨a, ha, rfl⟩, hn⟩
    exact ⟨a, (hRL a).2 ⟨ha, by simpa using hn⟩, rfl⟩
  · rintro ⟨a, ha, rfl⟩
    obtain ⟨h1, h2⟩ := (hRL a).1 ha
    exact ⟨⟨a, h1, rfl⟩, by simpa using h2⟩

set_option maxRecDepth 100000 in
set_option maxHeartbeats 1000000 in
theorem take_some (w : World) (Q : Nat) (A : List (Int × Int)) (t : Int) (F : Nat → Prop) (h : QRep w Q A t F) (x k : Int) (hx : firstMin A = some (x, k)) :
    Calls Try.prog 28 #[.pointer (some ⟨Q, 0, none⟩)] w fun e w' => e = .returned (.tuple #[.int .i64 x, .int .i64 k, .bool true]) ∧ QRep w' Q (A.filter fun p => p.1 != x) t F ∧ Keeps F w w' := by
  obtain ⟨v, Mb, l, L, E, h⟩ := h
  have hA : A ≠ [] := fun e => by rw [e] at hx; simp [firstMin] at hx
  have hl := h.len
  have hpos : 0 < A.length := List.length_pos_iff.2 hA
  obtain ⟨n, hn⟩ : ∃ n, L.length = n + 1 := ⟨L.length - 1, by omega⟩
  have hH := h.heap
  rw [hn] at hH
  obtain ⟨R, hpop, hRl, hRH, hRp⟩ := popL_law hn hH
  have hmin := heap_min hH
  have h0 : at' L 0 ∈ L := at_mem (by omega)
  have hfm := firstMin_of h.ord (h.perm.mem_iff.1 h0) (fun e he => by
    obtain ⟨j, hj⟩ := List.mem_iff_getElem?.1 (h.perm.mem_iff.2 he)
    have lj : j < L.length := (List.getElem?_eq_some_iff.1 hj).1
    rw [← at_eq hj]
    exact hmin j (by omega))
  rw [h.view, hx] at hfm
  generalize at' L 0 = e0 at *
  simp only [Option.some.injEq, Prod.mk.injEq] at hfm
  obtain ⟨rfl, rfl⟩ := hfm
  obtain ⟨ao, cap, hv⟩ := h.rep.isSlice
  subst hv
  rw [hn] at h
  have c0 := h.q.c0
  have hz : (((n + 1 : Nat) : Int) == 0) = false := by simp; omega
  rw [← hRl] at hRH
  have HH := Lib.hid hRH
  have HP := Lib.hid hRp
  have HPOP := Lib.hid hpop
  have H0 := Lib.hid h
  have hta := fun w => ta_entry ⟨e0.blk, 0, none⟩ w
  clear h hx hH hmin h0 hpop hRl hRH hRp hl hn hA hpos
  go_enter Try.func28, Try.ntmps28
  go_wp2_with fail
  refine (hpop_any _ Q _ _ t L H0.out.rep H0.out.q R e0 HPOP.out).mono ?_; rintro e w1 ⟨rfl, v', hT⟩
  obtain ⟨xx, hent⟩ := hT.ent0
  have d0 : w1.cell? ⟨e0.blk, 0, none⟩ = some (.int .i64 e0.item) := by rw [cell_of_blk hent]; rfl
  have d1 : w1.cell? ⟨e0.blk, 1, none⟩ = some (.int .i64 e0.key) := by rw [cell_of_blk hent]; rfl
  have g1 := hT.q.c1
  have m1 := H0.out.mp.keeps hT.keeps (by rintro (hb | hb); exact H0.out.nM hb; exact H0.out.nMf hb)
  have nEM : e0.blk ≠ Mb := fun e => by obtain ⟨es, c, hbm, _⟩ := m1; rw [← e, hent] at hbm; simp at hbm
  have M1 := Lib.hid m1
  have HT := Lib.hid hT
  have HE := Lib.hid hent
  clear m1 hT hent
  go_wp2_with fail
  go_region_law ((refine step_idelete (by rfl) _ _ _ _ (by rfl) Try.underlying109 Try.underlying3 (M1.out.drewN 1) H0.out.nd e0.item (by rfl) (by rfl) ?_; intro w2 m2 k2))
  all_goals
    have hE2 := k2.heap (w := w1.drew) HE.out nEM
    have d0' : w2.cell? ⟨e0.blk, 0, none⟩ = some (.int .i64 e0.item) := by rw [cell_of_blk hE2]; rfl
    have d1' : w2.cell? ⟨e0.blk, 1, none⟩ = some (.int .i64 e0.key) := by rw [cell_of_blk hE2]; rfl
    have hpost := took_queue H0.out HT.out HP.out HH.out m2 (show Keeps (fun b => b = Mb) w1 w2 from ⟨k2.os, k2.tape, k2.output, k2.size, k2.block⟩)
    have HPO := Lib.hid hpost
    clear hpost m2 k2 hE2
    go_wp2
    go_quiet (fail)
    go_wp2
    go_ret3
    exact ⟨rfl, HPO.out.1.keeps ((Keeps.refl (fun _ => False) _).drewN nq) (fun _ _ h => h), HPO.out.2.drewN nq⟩

end Go.Proofs.Ytjcgkmodmjckjaa.V

namespace Go.Proofs.Ytjcgkmodmjckjaa.V
open Go.RowKit

theorem firstMin_least {A : List (Int × Int)} : ∀ {p : Int × Int}, firstMin A = some p → ∀ a ∈ A, p.2 ≤ a.2 := by
  induction A with
  | nil => intro p h; cases h
  | cons q r ih =>
    intro p h a ha
    simp only [firstMin] at h
    split at h
    · rename_i hr
      simp at h; subst h
      rw [firstMin_none.1 hr] at ha
      simp at ha; subst ha; exact Int.le_refl _
    · rename_i q' hq'
      have hi := ih hq'
      split at h
      · simp at h; subst h
        rcases List.mem_cons.1 ha with rfl | h2
        · omega
        · exact hi a h2
      · simp at h; subst h
        rcases List.mem_cons.1 ha with rfl | h2
        · exact Int.le_refl _
        · have := hi a h2; omega
theorem set_both (w : World) (Q : Nat) (A : List (Int × Int)) (t : Int) (F : Nat → Prop) (h : QRep w Q A t F) (x k : Int) (ht : 0 ≤ t ∧ t ≤ 1000000000000000) (hA : A.length ≤ 999999) :
    Calls Try.prog 26 #[.pointer (some ⟨Q, 0, none⟩), .int .i64 x, .int .i64 k] w fun e w' => e = .returned (.tuple #[]) ∧ ∃ F2, QRep w' Q (setA A x k) (t + 1) F2 ∧ (∀ b, F2 b → F b ∨ w.heap.size ≤ b) ∧ Keeps F w w' := by
  by_cases hm : ∃ p ∈ A, p.1 = x
  · obtain ⟨⟨x', k0⟩, hp, rfl⟩ := hm
    exact (set_old w Q A t F h x' k k0 hp ht).mono fun e w' ⟨h1, h2, h3⟩ => ⟨h1, F, h2, fun b hb => .inl hb, h3⟩
  · exact (set_new w Q A t F h x k (fun p hp e => hm ⟨p, hp, e⟩) ht hA).mono fun e w' ⟨h1, h2, h3⟩ => ⟨h1, _, h2, fun b hb => hb, h3⟩
/-- The queue's length, as its memory says. -/
def qlen (w : World) (Q : Nat) : Nat := match w.cell? ⟨Q, 0, none⟩ with
  | some (.slice _ n _) => n
  | _ => 0
theorem QRep.qlen_is {w : World} {Q : Nat} {A : List (Int × Int)} {t : Int} {F : Nat → Prop} (h : QRep w Q A t F) : qlen w Q = A.length := by
  obtain ⟨v, Mb, l, L, E, h⟩ := h
  obtain ⟨ao, cap, hv⟩ := h.rep.isSlice
  subst hv
  have c0 := h.q.c0
  unfold qlen
  rw [c0]
  exact h.len
theorem QRep.nd {w : World} {Q : Nat} {A : List (Int × Int)} {t : Int} {F : Nat → Prop} (h : QRep w Q A t F) : (A.map Prod.fst).Nodup := by
  obtain ⟨v, Mb, l, L, E, h⟩ := h
  exact h.ndA
theorem setA_len (A : List (Int × Int)) (x k : Int) : (setA A x k).length ≤ A.length + 1 := by
  unfold setA
  rw [List.length_append]
  have := List.length_filter_le (fun p : Int × Int => p.1 != x) A
  simp only [List.length_singleton]; omega
theorem mem_setA {A : List (Int × Int)} {x k : Int} {a : Int × Int} : a ∈ setA A x k ↔ (a ∈ A ∧ a.1 ≠ x) ∨ a = (x, k) := by
  unfold setA
  rw [List.mem_append, List.mem_filter]; simp
theorem filter_len {A : List (Int × Int)} (hn : (A.map Prod.fst).Nodup) {x : Int} (hx : ∃ a ∈ A, a.1 = x) : (A.filter fun a => a.1 != x).length + 1 = A.length := by
  induction A with
  | nil => obtain ⟨a, ha, _⟩ := hx; cases ha
  | cons p r ih =>
    simp only [List.map_cons, List.nodup_cons] at hn
    by_cases hp : p.1 = x
    · subst hp
      have e : r.filter (fun a => a.1 != p.1) = r := List.filter_eq_self.2 (fun a ha => by
        simp only [bne_iff_ne, ne_eq]
        exact fun e => hn.1 (by rw [← e]; exact List.mem_map.2 ⟨a, ha, rfl⟩))
      rw [List.filter_cons_of_neg (by simp), e]; rfl
    · obtain ⟨a, ha, hax⟩ := hx
      rcases List.mem_cons.1 ha with rfl | h2
      · exact absurd hax hp
      · rw [List.filter_cons_of_pos (by simpa using hp), List.length_cons, List.length_cons, ih hn.2 ⟨a, h2, hax⟩]

end Go.Proofs.Ytjcgkmodmjckjaa.V

namespace Go.Proofs.Ytjcgkmodmjckjaa
open Go.RowKit

theorem reach_path {ops : List Wop} {s x : Nat} (h : Reach ops s x) : ∃ q, runOps ops s q = some x := by
  induction h with
  | refl => exact ⟨[], rfl⟩
  | step _ hy ih =>
    obtain ⟨q, hq⟩ := ih
    obtain ⟨o, ho, rfl⟩ := List.mem_map.1 hy
    obtain ⟨ho, hc⟩ := List.mem_filter.1 ho
    obtain ⟨k, hk⟩ := List.mem_iff_getElem?.1 ho
    exact ⟨q ++ [k], runOps_snoc' hq hk hc⟩
section
variable {w : World} {vi vg vo vs : Value} {t : Tsk}
end

end Go.Proofs.Ytjcgkmodmjckjaa

namespace Go.Proofs.Ytjcgkmodmjckjaa
open Go.RowKit

/-- The least price of a plan of the task. -/
def BestT (t : Tsk) (b : Int) : Prop := LeastOf 4096 1 (wordsOf t.ops) (wd t.init) (goalB (wd t.goal)) b
end Go.Proofs.Ytjcgkmodmjckjaa

namespace Go.Proofs.Ytjcgkmodmjckjaa
open Go.RowKit

/-- The steps of a best plan with the least price b. -/
def stepsB (b : Int) : Int := if b < 0 then 0 else b % 4096
end Go.Proofs.Ytjcgkmodmjckjaa

namespace Go.Proofs.Ytjcgkmodmjckjaa
open Go.RowKit

/-- What a search hands back whose plans are best, where b is the least price. -/
structure BPlanG (t : Tsk) (l : List Nat) (b : Int) (fnd : Bool) (lp : List Int) (c n : Int) : Prop where
  n : 0 ≤ n ∧ n ≤ (l.length : Int)
  none_ : b < 0 → fnd = false ∧ lp = [] ∧ c = 0
  some_ : 0 ≤ b → fnd = true ∧ ∃ q y, lp = intsP q ∧ runOps (wordsOf t.ops) (wd t.init) q = some y ∧ goalB (wd t.goal) y = true ∧ (q.length : Int) = b % 4096 ∧ costN (wordsOf t.ops) q = b / 4096 ∧ c = costL t lp

def BPlanIs (t : Tsk) (fnd : Bool) (lp : List Int) (c n fc fi : Int) : Prop :=
  (fc ≠ 0 ∧ expF t = (fc, fi) ∧ fnd = false ∧ lp = [] ∧ c = 0 ∧ n = 0) ∨
  (expF t = (0, 0) ∧ t.Ok ∧ ∃ l b, explored t = some l ∧ BestT t b ∧ ((60 < stepsB b ∧ fc = 10 ∧ fi = -9 ∧ fnd = false ∧ lp = [] ∧ c = 0 ∧ n = 0) ∨ (stepsB b ≤ 60 ∧ fc = 0 ∧ fi = 0 ∧ BPlanG t l b fnd lp c n)))
theorem expF_bad {t : Tsk} (h : (taskFault t).1 ≠ 0) : expF t = taskFault t := by unfold expF; rw [if_neg h]
theorem expF_many {t : Tsk} (ok : t.Ok) (h : explored t = none) : expF t = (10, -7) := by unfold expF; rw [if_pos (taskFault_zero.2 ok), h]
theorem expF_ok {t : Tsk} (ok : t.Ok) {l : List Nat} (h : explored t = some l) : expF t = (0, 0) := by unfold expF; rw [if_pos (taskFault_zero.2 ok), h]

/-- No plan is found. -/
theorem bplan_none {t : Tsk} (ok : t.Ok) {l : List Nat} (hx : explored t = some l) (hb : BestT t (-1)) {n : Int} (hn : 0 ≤ n ∧ n ≤ (l.length : Int)) : BPlanIs t false [] 0 n 0 0 :=
  .inr ⟨expF_ok ok hx, ok, l, -1, hx, hb, .inr ⟨by decide, rfl, rfl, hn, fun _ => ⟨rfl, rfl, rfl⟩, fun h => absurd h (by decide)⟩⟩
/-- A plan q is found. -/
theorem bplan_short {t : Tsk} (ok : t.Ok) {l : List Nat} (hx : explored t = some l) {b : Int} (hb : BestT t b) (h0 : 0 ≤ b) {q : List Nat} {y : Nat} (hr : runOps (wordsOf t.ops) (wd t.init) q = some y) (ha : goalB (wd t.goal) y = true) (hl : (q.length : Int) = b % 4096) (hc : costN (wordsOf t.ops) q = b / 4096) (h60 : q.length ≤ 60) {n : Int} (hn : 0 ≤ n ∧ n ≤ (l.length : Int)) :
    BPlanIs t true (intsP q) (costL t (intsP q)) n 0 0 :=
  .inr ⟨expF_ok ok hx, ok, l, b, hx, hb, .inr ⟨by unfold stepsB; rw [if_neg (by omega)]; omega, rfl, rfl, hn, fun h => absurd h (by omega), fun _ => ⟨rfl, q, y, rfl, hr, ha, hl, hc, rfl⟩⟩⟩
theorem bplan_long {t : Tsk} (ok : t.Ok) {l : List Nat} (hx : explored t = some l) {b : Int} (hb : BestT t b) (h0 : 0 ≤ b) {q : List Nat} (hl : (q.length : Int) = b % 4096) (h60 : 60 < q.length) : BPlanIs t false [] 0 0 10 (-9) :=
  .inr ⟨expF_ok ok hx, ok, l, b, hx, hb, .inl ⟨by unfold stepsB; rw [if_neg (by omega)]; omega, rfl, rfl, rfl, rfl, rfl, rfl⟩⟩

end Go.Proofs.Ytjcgkmodmjckjaa

namespace Go.Proofs.Ytjcgkmodmjckjaa
open Go.RowKit

/-- The sets, the two maps and the queue. -/
structure PlM (w0 w : World) (ss sb L : Nat) (n : Int) (vi vg vo : Value) (gk : Nat) (N : List Dn) (G : Nat → Prop) (wb db Q : Nat) (W D : Nat → Option Nat) (A : List (Int × Int)) (t : Int) (F : Nat → Prop) : Prop where
  st : StS w0 w ss sb L N G n vi vg vo gk
  wm : DmS w wb W G
  dm : DmS w db D G
  ne : wb ≠ db
  q : V.QRep w Q A t F
  qf : ∀ k, F k → w0.heap.size ≤ k ∧ k < w.heap.size ∧ ¬ G k ∧ k ≠ wb ∧ k ≠ db ∧ k ≠ ss
  lo : w0.heap.size ≤ wb ∧ w0.heap.size ≤ db
section
variable {w0 w w' : World} {ss sb L : Nat} {n : Int} {vi vg vo : Value} {gk : Nat} {N N' : List Dn} {G G' : Nat → Prop} {wb db Q : Nat} {W D W' D' : Nat → Option Nat} {A A' : List (Int × Int)} {t t' : Int} {F F' : Nat → Prop}
theorem PlM.opS (h : PlM w0 w ss sb L n vi vg vo gk N G wb db Q W D A t F) (hs : StS w0 w' ss sb L N' G' n vi vg vo gk) (hk : Keeps G w w') (hn : ∀ q, G' q → G q ∨ w.heap.size ≤ q) : PlM w0 w' ss sb L n vi vg vo gk N' G' wb db Q W D A t F :=
  ⟨hs, h.wm.op hk hn, h.dm.op hk hn, h.ne, h.q.keeps hk (fun b hb => (h.qf b hb).2.2.1), fun k hF => by
    obtain ⟨h1, h2, h3, h4⟩ := h.qf k hF
    exact ⟨h1, Nat.lt_of_lt_of_le h2 hk.size, fun hg => (hn k hg).elim h3 (fun hs => by omega), h4⟩, h.lo⟩
theorem PlM.op (h : PlM w0 w ss sb L n vi vg vo gk N G wb db Q W D A t F) (hd : Dg w' sb L N' G') (hk : Keeps G w w') (hn : ∀ q, G' q → G q ∨ w.heap.size ≤ q) : PlM w0 w' ss sb L n vi vg vo gk N' G' wb db Q W D A t F := h.opS (h.st.op hd hk hn) hk hn
theorem PlM.keeps0 (h : PlM w0 w ss sb L n vi vg vo gk N G wb db Q W D A t F) (hk : Keeps (fun _ => False) w w') : PlM w0 w' ss sb L n vi vg vo gk N G wb db Q W D A t F :=
  ⟨h.st.keeps0 hk, h.wm.keeps0 hk, h.dm.keeps0 hk, h.ne, h.q.keeps hk (fun _ _ h => h), fun k hF => by
    obtain ⟨h1, h2, h3⟩ := h.qf k hF
    exact ⟨h1, Nat.lt_of_lt_of_le h2 hk.size, h3⟩, h.lo⟩
/-- The sets stay where a block that is none of theirs, and newer than w0, has changed. -/
theorem StS.other {S : Nat → Prop} (h : StS w0 w ss sb L N G n vi vg vo gk) (hk : Keeps S w w') (h1 : ∀ k, S k → w0.heap.size ≤ k ∧ ¬ G k ∧ k ≠ ss) : StS w0 w' ss sb L N G n vi vg vo gk :=
  ⟨hk.heap h.blk (fun e => (h1 _ e).2.2 rfl), h.dg.keeps hk (fun k e => (h1 k e).2.1), h.sep, h.k0.trans' hk (fun i hi => .inr (h1 i hi).1), h.gb⟩
theorem PlM.nss (h : PlM w0 w ss sb L n vi vg vo gk N G wb db Q W D A t F) : wb ≠ ss ∧ db ≠ ss := ⟨h.wm.1.ne_cells h.st.blk, h.dm.1.ne_cells h.st.blk⟩
theorem PlM.putW (h : PlM w0 w ss sb L n vi vg vo gk N G wb db Q W D A t F) (hm : NMap w' wb natV W') (hk : Keeps (fun j => j = wb) w w') : PlM w0 w' ss sb L n vi vg vo gk N G wb db Q W' D A t F :=
  ⟨h.st.other hk (fun k e => by subst e; exact ⟨h.lo.1, h.wm.2, h.nss.1⟩), ⟨hm, h.wm.2⟩, h.dm.keeps hk (fun e => h.ne e.symm), h.ne, h.q.keeps hk (fun b hb e => (h.qf b hb).2.2.2.1 e), fun k hF => by
    obtain ⟨h1, h2, h3⟩ := h.qf k hF
    exact ⟨h1, Nat.lt_of_lt_of_le h2 hk.size, h3⟩, h.lo⟩
theorem PlM.putD (h : PlM w0 w ss sb L n vi vg vo gk N G wb db Q W D A t F) (hm : NMap w' db natV D') (hk : Keeps (fun j => j = db) w w') : PlM w0 w' ss sb L n vi vg vo gk N G wb db Q W D' A t F :=
  ⟨h.st.other hk (fun k e => by subst e; exact ⟨h.lo.2, h.dm.2, h.nss.2⟩), h.wm.keeps hk (fun e => h.ne e), ⟨hm, h.dm.2⟩, h.ne, h.q.keeps hk (fun b hb e => (h.qf b hb).2.2.2.2.1 e), fun k hF => by
    obtain ⟨h1, h2, h3⟩ := h.qf k hF
    exact ⟨h1, Nat.lt_of_lt_of_le h2 hk.size, h3⟩, h.lo⟩
theorem PlM.queue (h : PlM w0 w ss sb L n vi vg vo gk N G wb db Q W D A t F) (hq : V.QRep w' Q A' t' F') (hF : ∀ b, F' b → F b ∨ w.heap.size ≤ b) (hk : Keeps F w w') : PlM w0 w' ss sb L n vi vg vo gk N G wb db Q W D A' t' (fun k => F' k ∧ k < w'.heap.size) :=
  ⟨h.st.other hk (fun k e => ⟨(h.qf k e).1, (h.qf k e).2.2.1, (h.qf k e).2.2.2.2.2⟩), h.wm.keeps hk (fun e => (h.qf _ e).2.2.2.1 rfl), h.dm.keeps hk (fun e => (h.qf _ e).2.2.2.2.1 rfl), h.ne, hq.mono (fun b h1 h2 => ⟨h2, h1⟩), fun k hk' => by
    rcases hF k hk'.1 with h1 | h1
    · obtain ⟨g1, g2, g3⟩ := h.qf k h1
      exact ⟨g1, hk'.2, g3⟩
    · have h2 := h.st.k0.size
      have h3 := h.wm.1.lt
      have h4 := h.dm.1.lt
      have h5 := lt_of_heap h.st.blk
      exact ⟨by omega, hk'.2, fun hg => by have := h.st.dg.bnd k hg; omega, by omega, by omega, by omega⟩, h.lo⟩
end

/-- What a map of nodes says at a price. -/
def mapS (N : List Dn) (W : Nat → Option Nat) (p m : Nat) : Bool := dv N ((W p).getD 0) m
theorem mapS_le {L : Nat} {N N' : List Dn} {W : Nat → Option Nat} (hw : ∀ p k, W p = some k → k < N.length + 2) (ok : DgOk L N) (hl : DgLe N N') : mapS N' W = mapS N W := by
  funext p m
  unfold mapS
  refine hl.dv ok ?_ m
  cases h : W p with
  | none => simp
  | some k => simp only [Option.getD_some]; exact hw p k h
theorem mapS_put {N : List Dn} {W : Nat → Option Nat} {x k : Nat} : mapS N (putP W x k) x = dv N k := by
  funext m; unfold mapS; rw [putP_same]; rfl
theorem mapS_put_ne {N : List Dn} {W : Nat → Option Nat} {x k p : Nat} (h : p ≠ x) : mapS N (putP W x k) p = mapS N W p := by
  funext m; unfold mapS; rw [putP_other _ _ h]
theorem mapS_look {N : List Dn} {W : Nat → Option Nat} {p k : Nat} (h : LookIs W (p : Int) k) : dv N k = mapS N W p := by
  funext m
  unfold mapS
  rcases h with ⟨p', h1, h2⟩ | ⟨rfl, h2⟩
  · have : p' = p := by omega
    subst this
    rw [h2]; rfl
  · rw [h2 p rfl]; rfl
/-- What the maps, the closed states and the queue say. -/
structure PlG (L : Nat) (N : List Dn) (ops : List Wop) (s : Nat) (ob : Nat → Nat → Prop) (W D : Nat → Option Nat) (c : Nat) (A : List (Int × Int)) : Prop where
  wl : ∀ p k, W p = some k → k < N.length + 2
  dl : ∀ p k, D p = some k → k < N.length + 2
  cl : c < N.length + 2
  i : PlI L ops s (fun p => ∃ k, D p = some k) ob (mapS N D) (mapS N W) (dv N c) A
section
variable {L : Nat} {N N' : List Dn} {ops : List Wop} {s : Nat} {ob : Nat → Nat → Prop} {W D : Nat → Option Nat} {c : Nat} {A : List (Int × Int)}
theorem PlG.le (h : PlG L N ops s ob W D c A) (ok : DgOk L N) (hl : DgLe N N') : PlG L N' ops s ob W D c A := by
  have := hl.len
  have h1 := h.cl
  refine ⟨fun p k e => by have := h.wl p k e; omega, fun p k e => by have := h.dl p k e; omega, by omega, ?_⟩
  rw [mapS_le h.wl ok hl, mapS_le h.dl ok hl, show dv N' c = dv N c from funext fun m => hl.dv ok h.cl m]
  exact h.i
theorem PlG.look (h : PlG L N ops s ob W D c A) {x : Int} {k : Nat} (hk : LookIs W x k) : k < N.length + 2 := by
  rcases hk with ⟨p, _, hp⟩ | ⟨rfl, _⟩
  · exact h.wl p k hp
  · omega
end
/-- The number of the states whose price has been worked on. -/
def CntIs (ops : List Wop) (s : Nat) (P : Nat → Prop) (n : Nat) : Prop := ∃ S : List Nat, S.Nodup ∧ (∀ x, x ∈ S ↔ ∃ p, P p ∧ Pd ops s x p) ∧ S.length = n
section
variable {ops : List Wop} {s : Nat} {P : Nat → Prop} {n : Nat}
theorem CntIs.le (h : CntIs ops s P n) {l : List Nat} (hl : ∀ q y, runOps ops s q = some y → y ∈ l) : n ≤ l.length := by
  obtain ⟨S, h1, h2, h3⟩ := h
  rw [← h3]
  exact nodup_sub h1 (fun x hx => by
    obtain ⟨p, _, ⟨q, hq, _⟩, _⟩ := (h2 x).1 hx
    exact hl q x hq)
theorem CntIs.start (h : ∀ p, ¬ P p) : CntIs ops s P 0 := ⟨[], List.nodup_nil, fun x => ⟨fun hx => by simp at hx, fun ⟨p, hp, _⟩ => absurd hp (h p)⟩, rfl⟩
/-- The states S of a price more. -/
theorem CntIs.more (h : CntIs ops s P n) {p : Nat} {P' : Nat → Prop} (hP : ∀ k, P' k ↔ P k ∨ k = p) (hp : ¬ P p) {S : List Nat} (hS : S.Nodup) (hs : ∀ x, x ∈ S ↔ Pd ops s x p) : CntIs ops s P' (n + S.length) := by
  obtain ⟨U, h1, h2, h3⟩ := h
  refine ⟨U ++ S, List.nodup_append.2 ⟨h1, hS, fun a ha b hb e => ?_⟩, fun x => ?_, by rw [List.length_append, h3]⟩
  · subst e
    obtain ⟨k, hk, hd⟩ := (h2 a).1 ha
    have := hd.unique ((hs a).1 hb)
    subst this; exact hp hk
  · rw [List.mem_append, h2, hs]
    constructor
    · rintro (⟨k, hk, hd⟩ | hd)
      · exact ⟨k, (hP k).2 (.inl hk), hd⟩
      · exact ⟨p, (hP p).2 (.inr rfl), hd⟩
    · rintro ⟨k, hk, hd⟩
      rcases (hP k).1 hk with h | rfl
      · exact .inl ⟨k, h, hd⟩
      · exact .inr hd
theorem CntIs.congr {P' : Nat → Prop} (h : CntIs ops s P n) (he : ∀ k x, Pd ops s x k → (P k ↔ P' k)) : CntIs ops s P' n := by
  obtain ⟨U, h1, h2, h3⟩ := h
  refine ⟨U, h1, fun x => ?_, h3⟩
  rw [h2]
  constructor
  · rintro ⟨k, hk, hd⟩; exact ⟨k, (he k x hd).1 hk, hd⟩
  · rintro ⟨k, hk, hd⟩; exact ⟨k, (he k x hd).2 hk, hd⟩
end

/-- What symbolic.Plan hands back. -/
def SPlanIs (t : Tsk) (fnd : Bool) (lp : List Int) (c n fc fi : Int) : Prop :=
  BPlanIs t fnd lp c n fc fi ∧ (fc = 0 → ∀ b, BestT t b → ∃ k : Nat, n = (k : Int) ∧ CntIs (wordsOf t.ops) (wd t.init) (fun p => b < 0 ∨ (p : Int) < b) k)
def SPlanPost (t : Tsk) (w : World) (e : Ending) (w' : World) : Prop := Keeps (fun _ => False) w w' ∧ ∃ fnd vp lp c n fc fi, e = .returned (.tuple #[resV fnd vp c n, fltV fc fi]) ∧ Ints w' vp lp ∧ SPlanIs t fnd lp c n fc fi

end Go.Proofs.Ytjcgkmodmjckjaa

namespace Go.Proofs.Ytjcgkmodmjckjaa
open Go.RowKit

theorem goal_lit {g : List Int} {n : Int} (hg : isSetB g n = true) (x : Nat) : litS true g (fun _ => true) x = goalB (wd g) x := by
  have hp := (isSet_iff.1 hg).1
  rw [Bool.eq_iff_iff, litS_iff]
  unfold goalB
  simp only [beq_iff_eq, true_and]
  constructor
  · intro h
    apply Nat.eq_of_testBit_eq
    intro i
    rw [Nat.testBit_and, testBit_wd (fun x hx => (hp x hx).1)]
    by_cases hi : (i : Int) ∈ g
    · have := h _ hi
      simp at this
      simp [hi, this]
    · simp [hi]
  · intro h p hpp
    have h1 := congrArg (fun w => w.testBit p.toNat) h
    have e : ((p.toNat : Nat) : Int) = p := by have := (hp p hpp).1; omega
    simp only [Nat.testBit_and] at h1
    rw [testBit_wd (fun x hx => (hp x hx).1), e] at h1
    simpa [hpp] using h1
/-- What an operator's image costs, where the set is empty and where it is not. -/
def icost (ly : Nat) : Nat := if ly = 0 then 48 else 38273023
def jz (ly j : Nat) : Nat := if ly = 0 then 0 else j
theorem img_pay {p q ly : Nat} (hp : p ≤ 24) (hq : q ≤ 24) : p * (1 + opC ly) + (q * opC ly + q * (1 + opC ly)) ≤ if ly = 0 then 48 else 37748736 := by
  by_cases h : ly = 0
  · subst h
    have e : opC 0 = 0 := by unfold opC; rw [if_pos rfl]
    rw [e, if_pos rfl]; omega
  · rw [if_neg h]; exact img_cost hp hq (opC_le ly)
/-- What the images cost, up to an operator. -/
def ipay (ly j : Nat) : Nat := if ly = 0 then 48 * j else 38273023 * j
theorem ipay_succ (ly j : Nat) : ipay ly (j + 1) = ipay ly j + icost ly := by unfold ipay icost; split <;> omega
theorem ipay_zero (ly : Nat) : ipay ly 0 = 0 := by unfold ipay; split <;> omega
theorem ipay_le {ly j : Nat} (hj : j ≤ 40) : ipay ly j ≤ 1530920920 := by unfold ipay; split <;> omega
theorem jz_zero (ly : Nat) : jz ly 0 = 0 := by unfold jz; split <;> rfl
theorem jz_succ (ly j : Nat) : jz ly j ≤ jz ly (j + 1) := by unfold jz; split <;> omega
theorem jz_step {ly j : Nat} (h : ly ≠ 0) : jz ly (j + 1) = jz ly j + 1 := by unfold jz; rw [if_neg h, if_neg h]
theorem jz_le {ly j : Nat} (hj : j ≤ 40) : jz ly j ≤ 40 := by unfold jz; split <;> omega
/-- The account of a round: b nodes, a waiting prices, n states; sl states more. -/
theorem round_pays {b b2 b3 b4 b5 a a1 a5 n sl j ly wk : Nat} {t t5 : Int} (h : b + 1600000 * a ≤ 14600000 + n * 1597100000) (h2 : b2 ≤ b + (524287 + opC wk)) (h3 : b3 ≤ b2 + opC ly) (h4 : b4 ≤ b3 + 524287) (h5 : b5 ≤ b4 + ipay ly j) (hj : j ≤ 40) (ha : a1 + 1 = a) (ha5 : a5 ≤ a1 + jz ly j) (hsl : ly ≠ 0 → 1 ≤ sl) (han : a ≤ 1 + 40 * n) (ht : t ≤ 1 + 40 * (n : Int)) (ht5 : t5 ≤ t + (jz ly j : Int)) :
    b5 + 1600000 * a5 ≤ 14600000 + (n + sl) * 1597100000 ∧ a5 ≤ 1 + 40 * (n + sl) ∧ t5 ≤ 1 + 40 * ((n + sl : Nat) : Int) ∧ (n + sl ≤ 2000 → 41 * (2000 - (n + sl)) + a5 < 41 * (2000 - n) + a) := by
  have h6 := opC_le wk
  by_cases h0 : ly = 0
  · subst h0
    have e1 : opC 0 = 0 := by unfold opC; rw [if_pos rfl]
    have e2 : ipay 0 j = 48 * j := by unfold ipay; rw [if_pos rfl]
    have e3 : jz 0 j = 0 := by unfold jz; rw [if_pos rfl]
    rw [e1] at h3; rw [e2] at h5; rw [e3] at ha5 ht5
    refine ⟨?_, ?_, ?_, fun _ => ?_⟩ <;> omega
  · have h7 := opC_le ly
    have h8 := hsl h0
    have h9 := ipay_le (ly := ly) hj
    have h10 := jz_le (ly := ly) hj
    refine ⟨?_, ?_, ?_, fun _ => ?_⟩ <;> omega
theorem put_has {D : Nat → Option Nat} {p ly : Nat} (k : Nat) : (∃ v, putP D p ly k = some v) ↔ (∃ v, D k = some v) ∨ k = p := by
  by_cases h : k = p
  · subst h; rw [putP_same]; exact ⟨fun _ => .inr rfl, fun _ => ⟨ly, rfl⟩⟩
  · rw [putP_other _ _ h]; exact ⟨.inl, fun h' => h'.resolve_right h⟩
section
variable {L : Nat} {N N' : List Dn} {os : List Opr} {s : Nat} {W D : Nat → Option Nat} {c : Nat} {A : List (Int × Int)} {p : Nat}
theorem PlG.start {ops : List Wop} {k1 : Nat} (hk : k1 < N.length + 2) (hv : ∀ m, dv N k1 m = cubeS L s 0 m) (hs : s < 2 ^ L) : PlG L N ops s (fun _ _ => True) (putP (fun _ => none) 0 k1) (fun _ => none) 0 [(0, 0)] := by
  refine ⟨fun p k h => ?_, fun p k h => ?_, by omega, PlI.start (fun m hm => ?_) hs (fun p hp m => ?_) (fun m => dv_zero m) (fun p ⟨k, h⟩ => ?_)⟩
  · by_cases e : p = 0
    · subst e; rw [putP_same] at h; cases h; exact hk
    · rw [putP_other _ _ e] at h; cases h
  · cases h
  · rw [mapS_put, hv]; exact cube_iff hs hm
  · rw [mapS_put_ne hp]; exact dv_zero m
  · cases h
theorem PlG.taken (h : PlG L N (wordsOf os) s (fun _ _ => True) W D c A) (ok : DgOk L N) (hle : DgLe N N') {ly c' : Nat} (hly : ly < N'.length + 2) (hc' : c' < N'.length + 2) (hlv : ∀ m, m < 2 ^ L → (dv N' ly m = true ↔ Pd (wordsOf os) s m p)) (hcv : ∀ m, dv N' c' m = (dv N' c m || dv N' ly m)) (hm : ∀ a ∈ A, (p : Int) ≤ a.1) :
    PlG L N' (wordsOf os) s (fun k i => k = p → i < 0) W (putP D p ly) c' (A.filter fun a => a.1 != (p : Int)) := by
  have g := h.le ok hle
  refine ⟨g.wl, fun k v hv => ?_, hc', g.i.take hm (fun k => put_has k) (fun k hk => mapS_put_ne hk) (fun m hml => by rw [mapS_put]; exact hlv m hml) (fun m _ => by rw [hcv m, mapS_put, Bool.or_eq_true])⟩
  by_cases e : k = p
  · subst e; rw [putP_same] at hv; cases hv; exact hly
  · rw [putP_other _ _ e] at hv; exact g.dl k v hv
theorem PlG.dead (hL : L ≤ 24) (hst : ∀ q y, runOps (wordsOf os) s q = some y → y < 2 ^ L) {j : Nat} {o : Opr} {ly : Nat} (h : PlG L N (wordsOf os) s (fun k i => k = p → i < j) W D c A) (hj : os[j]? = some o) (ho : o.Ok (L : Int)) (hD : D p = some ly) (hv : ∀ m, imgB o (dv N ly) m = false) : PlG L N (wordsOf os) s (fun k i => k = p → i < j + 1) W D c A :=
  ⟨h.wl, h.dl, h.cl, h.i.dead (words_of hj) (fun x hx hc => by
    obtain ⟨⟨q, g1, _⟩, _⟩ := id hx
    have hxl := hst q x g1
    have h1 := (h.i.dn p x ⟨ly, hD⟩ hxl).2 hx
    unfold mapS at h1
    rw [hD] at h1
    have h2 : imgB o (dv N ly) (o.word.next x) = true := (img_iff hL ho (symNextLt ho hxl)).2 ⟨x, hxl, h1, hc, rfl⟩
    rw [hv] at h2; cases h2)⟩
theorem PlG.grow (hL : L ≤ 24) (h0 : CostsOk (wordsOf os)) (hst : ∀ q y, runOps (wordsOf os) s q = some y → y < 2 ^ L) {j : Nat} {o : Opr} {ly k nx r to : Nat} (h : PlG L N (wordsOf os) s (fun k i => k = p → i < j) W D c A) (hj : os[j]? = some o) (ho : o.Ok (L : Int)) (hD : D p = some ly) (hmx : ∀ k, (∃ v, D k = some v) → k ≤ p) (hto : to = p + prcN o.word) (hk : LookIs W (to : Int) k) (hr : r < N.length + 2)
    (hx : ∀ m, dv N nx m = imgB o (dv N ly) m) (hv : ∀ m, dv N r m = (dv N k m || dv N nx m)) : PlG L N (wordsOf os) s (fun k i => k = p → i < j + 1) (putP W to r) D c (V.setA A (to : Int) (to : Int)) := by
  subst hto
  refine ⟨fun k' v hv' => ?_, h.dl, h.cl, h.i.grow h0 hst (words_of hj) ⟨ly, hD⟩ hmx (fun k' hk' => mapS_put_ne hk') (fun m hm => ?_) (V.mem_setA.2 (.inr rfl)) (fun a ha => ?_) (fun a ha => ?_)⟩
  · by_cases e : k' = p + prcN o.word
    · subst e; rw [putP_same] at hv'; cases hv'; exact hr
    · rw [putP_other _ _ e] at hv'; exact h.wl k' v hv'
  · rw [mapS_put, hv, hx, Bool.or_eq_true, img_iff hL ho hm, mapS_look hk]
    constructor
    · rintro (h1 | ⟨x, h1, h2, h3, h4⟩)
      · exact .inl h1
      · refine .inr ⟨x, h1, ?_, h3, h4⟩
        unfold mapS; rw [hD]; exact h2
    · rintro (h1 | ⟨x, h1, h2, h3, h4⟩)
      · exact .inl h1
      · refine .inr ⟨x, h1, ?_, h3, h4⟩
        unfold mapS at h2; rw [hD] at h2; exact h2
  · by_cases e : a.1 = ((p + prcN o.word : Nat) : Int)
    · have h1 := (h.i.it a ha).1
      refine V.mem_setA.2 (.inr ?_)
      obtain ⟨x, y⟩ := a
      simp only at e h1
      rw [← h1, e]
    · exact V.mem_setA.2 (.inl ⟨ha, e⟩)
  · rcases V.mem_setA.1 ha with h1 | h1
    · exact .inl h1.1
    · exact .inr h1
theorem PlG.final {j : Nat} (h : PlG L N (wordsOf os) s (fun k i => k = p → i < j) W D c A) (hj : j = os.length) : PlG L N (wordsOf os) s (fun _ _ => True) W D c A :=
  ⟨h.wl, h.dl, h.cl, PlI.done (p := p) (by rw [show (wordsOf os).length = j from by unfold wordsOf; rw [List.length_map, hj]]; exact h.i)⟩
theorem PlG.doneI (h : PlG L N (wordsOf os) s (fun _ _ => True) W D c A) (ok : DgOk L N) (hle : DgLe N N') {ly : Nat} (hly : ly < N'.length + 2) (hlv : ∀ m, m < 2 ^ L → (dv N' ly m = true ↔ Pd (wordsOf os) s m p)) (hlow : ∀ k x, Pd (wordsOf os) s x k → k < p → ∃ v, D k = some v) : DoneI L N' (wordsOf os) s (putP D p ly) p := by
  have g := h.le ok hle
  refine ⟨fun k v hv => ?_, fun k v hv m hm => ?_, fun x k hx hk => ?_⟩
  · by_cases e : k = p
    · subst e; rw [putP_same] at hv; cases hv; exact hly
    · rw [putP_other _ _ e] at hv; exact g.dl k v hv
  · by_cases e : k = p
    · subst e; rw [putP_same] at hv; cases hv; exact hlv m hm
    · rw [putP_other _ _ e] at hv
      have h1 := g.i.dn k m ⟨v, hv⟩ hm
      unfold mapS at h1
      rw [hv] at h1; exact h1
  · rw [putP_other _ _ (by omega)]
    exact hlow k x hx hk
end
/-- No state of a price that has been worked on is a goal. -/
def NoGoal (ops : List Wop) (s g : Nat) (P : Nat → Prop) : Prop := ∀ p x, P p → Pd ops s x p → goalB g x = false
section
variable {t : Tsk} {P : Nat → Prop}
theorem NoGoal.start {ops : List Wop} {s g : Nat} (h : ∀ p, ¬ P p) : NoGoal ops s g P := fun p _ hp => absurd hp (h p)
theorem best_none (h0 : CostsOk (wordsOf t.ops)) (h : NoGoal (wordsOf t.ops) (wd t.init) (wd t.goal) P) (hall : ∀ p x, Pd (wordsOf t.ops) (wd t.init) x p → P p) : BestT t (-1) :=
  .inl ⟨rfl, fun q y hq => by
    obtain ⟨k, _, hk⟩ := Pd.of_run h0 hq
    exact h k y (hall k y hk) hk⟩
theorem best_some (h0 : CostsOk (wordsOf t.ops)) (h : NoGoal (wordsOf t.ops) (wd t.init) (wd t.goal) P) {p : Nat} (hlow : ∀ k x, Pd (wordsOf t.ops) (wd t.init) x k → k < p → P k) {y : Nat} (hy : Pd (wordsOf t.ops) (wd t.init) y p) (hg : goalB (wd t.goal) y = true) : BestT t (p : Int) := by
  obtain ⟨q, hq, hw⟩ := hy.1
  refine .inr ⟨by omega, ⟨q, y, hq, hg, hw⟩, fun q' y' hq' hg' => ?_⟩
  obtain ⟨k, hk1, hk⟩ := Pd.of_run h0 hq'
  by_cases hkp : k < p
  · rw [h k y' (hlow k y' hk hkp) hk] at hg'; cases hg'
  · omega
theorem cnt_best {n : Nat} (h : CntIs (wordsOf t.ops) (wd t.init) P n) {b : Int} (hb : BestT t b) (he : ∀ k x, Pd (wordsOf t.ops) (wd t.init) x k → (P k ↔ b < 0 ∨ (k : Int) < b)) : ∀ b', BestT t b' → ∃ k : Nat, (n : Int) = (k : Int) ∧ CntIs (wordsOf t.ops) (wd t.init) (fun p => b' < 0 ∨ (p : Int) < b') k := fun b' hb' => by
  have := LeastOf.unique hb hb'
  subst this
  exact ⟨n, rfl, h.congr he⟩
end
theorem plan_len {ops : List Wop} {s : Nat} (h0 : CostsOk ops) {l : List Nat} (hl : ∀ q y, runOps ops s q = some y → y ∈ l) (hfew : l.length ≤ 2000) {y p : Nat} (h : Pd ops s y p) {q : List Nat} (hr : runOps ops s q = some y) (hw : wayN 4096 1 ops q = (p : Int)) : q.length = p % 4096 ∧ (q.length : Int) = (p : Int) % 4096 ∧ costN ops q = (p : Int) / 4096 := by
  have h1 := h.short h0 hl hfew hr hw
  have h2 := wayN_split ops q
  have h3 := (costN_bound h0 q).1
  omega
theorem sresult_long (w : World) (vi vg vo vp : Value) (t : Tsk) (p : List Int) (found : Bool) (n : Int) (h : TaskAt w vi vg vo t) (ok : t.Ok) (hp : Ints w vp p) (hin : PlanIn t p) (hl : 60 < p.length) :
    Calls Try.prog 30 #[.agg #[.int .i64 t.n, vi, vg, vo], vp, .bool found, .int .i64 n] w fun e w' => e = .returned (.tuple #[.agg #[.bool false, .slice none 0 0, .int .i64 0, .int .i64 0], .agg #[.int .i64 10, .int .i64 (-9)]]) ∧ Keeps (fun _ => False) w w' :=
  (result_any w vi vg vo vp t p found n h ok hp hin).mono fun e w' hr => by
    rcases hr.2 with ⟨_, he⟩ | ⟨h2, _⟩
    · exact ⟨he, hr.1⟩
    · omega
theorem sresult_fit (w : World) (vi vg vo vp : Value) (t : Tsk) (p : List Int) (found : Bool) (n : Int) (h : TaskAt w vi vg vo t) (ok : t.Ok) (hp : Ints w vp p) (hin : PlanIn t p) (hl : p.length ≤ 60) :
    Calls Try.prog 30 #[.agg #[.int .i64 t.n, vi, vg, vo], vp, .bool found, .int .i64 n] w fun e w' => e = .returned (.tuple #[.agg #[.bool found, vp, .int .i64 (costL t p), .int .i64 n], .agg #[.int .i64 0, .int .i64 0]]) ∧ Keeps (fun _ => False) w w' :=
  (result_any w vi vg vo vp t p found n h ok hp hin).mono fun e w' hr => by
    rcases hr.2 with ⟨h2, _⟩ | ⟨_, he⟩
    · omega
    · exact ⟨he, hr.1⟩

end Go.Proofs.Ytjcgkmodmjckjaa
