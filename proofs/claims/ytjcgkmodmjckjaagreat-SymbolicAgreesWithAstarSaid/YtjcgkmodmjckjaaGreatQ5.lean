/- The slice's own Push, and heap.Push. The plain laws of the heap: sifting up and down keep the entries, and make a heap; the first entry is a least one. No program in sight but for the entries' type. The queue: what it holds as a list of items and keys in the order in which the keys were set; New, Len, Key walked. The queue: Set walked, for a new item and for one that is there. The queue: Set of an item that is there, Take, Drop. The queue: Take and Drop. Costs in plain words: two solutions agree; the search that corrects costs. breadth.limited and breadth.Plan. The example task of the laws; breadth's example. breadth: the law that Plan is the reference's. space.Distances, space.Optimal. Plans and the table of costs, in plain words. The least price of a plan, in plain Lean: what a search for best plans must find. A search from both ends, in plain Lean: what its two sides know, and that they have met on a best way when it ends. A map with whole numbers as keys, as a function that is not defined everywhere. What the walks of Not and Exists share: boxes, a map of the nodes that are done, and a store. No condition beyond what each theorem says. -/
import Derived.Test.YtjcgkmodmjckjaaGreatQ4
import Derived.Test.YtjcgkmodmjckjaaGreatQ1
import Derived.Deep.RegionLaw
import Derived.Sort.LoopGhostIn
import Derived.IntWalk
import Derived.Lib.SlicesCompact
import Derived.Test.YtjcgkmodmjckjaaGreatQ3

namespace Go.Proofs.YtjcgkmodmjckjaaGreat.U
open Go.RowKit

theorem Tryz.infoE : (Tryz.prog.info? 179).map (fun i => (i.zero, i.size, i.bytes)) = some (some (.pointer none), 1, 8) := by kernel_rfl

theorem ta_entry (a : Addr) (w : World) : (Instr.typeAssert (.iface 179 (.pointer (some a))) 20 179 false).run Tryz.prog w = .ok (.pointer (some a)) w := by kernel_rfl

structure PushPost (w : World) (Q : Nat) (v m : Value) (t : Int) (L L' : List Ent) (e0 : Ent) (w' : World) (v' : Value) : Prop where
  rep : HRep w' v' L'
  q : QBlk w' Q v' m t
  keeps : Keeps (fun b => b = Q ∨ hfoot v L b ∨ b = e0.blk) w w'
  sub : ∀ b, hfoot v' L' b → hfoot v L b ∨ b = e0.blk ∨ w.heap.size ≤ b

theorem push_q {w w1 : World} {Q : Nat} {v m : Value} {t : Int} {L : List Ent} {e0 : Ent} (h : HRep w v L) (hQ : QBlk w Q v m t) (nQE : ¬ Q = e0.blk) {o : Obj}
    (hgrow : ((w.setCell ⟨e0.blk, 3, none⟩ (.int .i64 (L.length : Int))).alloc o).grownBy w1 v.ownBlock) : QBlk w1 Q v m t := by
  have lQ := lt_of_heap hQ
  have nQ := hQ.nfoot h
  unfold QBlk
  rw [hgrow.block Q (by simp; omega) (fun e => nQ (.inl e.symm)), Below.heap_alloc _ _ _ (by simpa using lQ), blk_set_ne nQE]
  exact hQ

theorem push_post {w w1 : World} {Q : Nat} {v m : Value} {t : Int} {L : List Ent} {e0 : Ent} {x : Value} {g cap : Nat} (h : HRep w v L) (hQ : QBlk w Q v m t)
    (he : w.heap[e0.blk]? = some (.cells #[.int .u32 e0.item, .int .i64 e0.key, .int .i64 e0.time, x] 182 (0, 0))) (hn : ¬ hfoot v L e0.blk) (hs : L.length + 1 ≤ 1000000)
    (hown : w1.ownsRow 0 179 1 (.slice (some ⟨g, 0, none⟩) (L.length + 1) cap) (L.length + 1) ((L.map Ent.ptr) ++ [e0.ptr]))
    (hgrow : ((w.setCell ⟨e0.blk, 3, none⟩ (.int .i64 (L.length : Int))).alloc (.cells #[e0.ptr] 179)).grownBy w1 v.ownBlock)
    (hat : v.ownBlock = some g ∨ g = w.heap.size + 1) :
    PushPost w Q v m t L (L ++ [e0]) e0 (w1.setCell ⟨Q, 0, none⟩ (.slice (some ⟨g, 0, none⟩) (L.length + 1) cap)) (.slice (some ⟨g, 0, none⟩) (L.length + 1) cap) := by
  have lQ := lt_of_heap hQ
  have lE := lt_of_heap he
  have nQ := hQ.nfoot h
  have nQE : Q ≠ e0.blk := by rintro rfl; unfold QBlk at hQ; rw [hQ] at he; simp at he
  have nQg : Q ≠ g := by
    rintro rfl
    rcases hat with hat | hat
    · exact nQ (.inl hat)
    · omega
  -- the world ahead of the append
  have k0 : Keeps (fun b => b = e0.blk) w ((w.setCell ⟨e0.blk, 3, none⟩ (.int .i64 (L.length : Int))).alloc (.cells #[e0.ptr] 179)) :=
    ((Keeps.refl (fun b => b = e0.blk) w).setCell (p := ⟨e0.blk, 3, none⟩) (.inl rfl) _).alloc _
  have k1 : Keeps (fun b => b = e0.blk ∨ v.ownBlock = some b) w w1 := (k0.mono (fun b _ hb => .inl hb)).grown hgrow (fun k hk => .inl (.inr hk))
  have k2 : Keeps (fun b => b = Q ∨ hfoot v L b ∨ b = e0.blk) w (w1.setCell ⟨Q, 0, none⟩ (.slice (some ⟨g, 0, none⟩) (L.length + 1) cap)) :=
    (k1.mono (fun b _ hb => by rcases hb with hb | hb; exact .inr (.inr hb); exact .inr (.inl (.inl hb)))).setCell (p := ⟨Q, 0, none⟩) (.inl (.inl rfl)) _
  have hE1 : w1.heap[e0.blk]? = some (.cells #[.int .u32 e0.item, .int .i64 e0.key, .int .i64 e0.time, .int .i64 (L.length : Int)] 182 (0, 0)) := by
    rw [hgrow.block e0.blk (by simp; omega) (fun e => hn (.inl e.symm)), Below.heap_alloc _ _ _ (by simpa using lE), blk_set_same he]; rfl
  refine ⟨⟨?_, ?_, ?_⟩, ?_, k2, ?_⟩
  · have := Keeps.ownsRow (S := fun b => b = Q) ((Keeps.refl (fun b => b = Q) w1).setCell (p := ⟨Q, 0, none⟩) (.inl rfl) (.slice (some ⟨g, 0, none⟩) (L.length + 1) cap)) hown (fun k hk => by
      simp [Value.ownBlock] at hk; subst hk; exact fun e => nQg e.symm)
    simpa using this
  · intro i e hi
    by_cases hl : i < L.length
    · rw [List.getElem?_append_left hl] at hi
      have hb := h.ent i e hi
      have hlt := lt_of_heap hb
      have hfe : hfoot v L e.blk := .inr ⟨e, List.mem_of_getElem? hi, rfl⟩
      have : w1.heap[e.blk]? = w.heap[e.blk]? := k1.block _ hlt (by
        rintro (hx | hx)
        · exact hn (hx ▸ hfe)
        · exact h.ne_row hi hx rfl)
      rw [blk_set_ne (fun hx => nQ (by rw [← hx]; exact hfe)), this]
      exact hb
    · have hlen : i < (L ++ [e0]).length := (List.getElem?_eq_some_iff.1 hi).1
      have hi' : i = L.length := by simp at hlen; omega
      subst hi'
      simp at hi
      subst hi
      rw [blk_set_ne (fun e => nQE e.symm)]
      exact hE1
  · simpa using hs
  · unfold QBlk
    have : w1.heap[Q]? = some (.cells #[v, m, .int .i64 t] 178 (0, 0)) := k1.heap hQ (by
      rintro (hx | hx)
      · exact nQE hx
      · exact nQ (.inl hx))
    rw [blk_set_same this]; rfl
  · rintro b (hb | ⟨e, he, rfl⟩)
    · simp [Value.ownBlock] at hb; subst hb
      rcases hat with hat | hat
      · exact .inl (.inl hat)
      · exact .inr (.inr (by omega))
    · rcases List.mem_append.1 he with he | he
      · exact .inl (.inr ⟨e, he, rfl⟩)
      · simp at he; subst he; exact .inr (.inl rfl)

set_option maxRecDepth 100000 in
set_option maxHeartbeats 1000000 in
theorem opush_any (w : World) (Q : Nat) (v m : Value) (t : Int) (L : List Ent) (e0 : Ent) (x : Value) (h : HRep w v L) (hQ : QBlk w Q v m t)
    (he : w.heap[e0.blk]? = some (.cells #[.int .u32 e0.item, .int .i64 e0.key, .int .i64 e0.time, x] 182 (0, 0))) (hn : ¬ hfoot v L e0.blk) (hs : L.length + 1 ≤ 1000000) :
    Calls Tryz.prog 200 #[.pointer (some ⟨Q, 0, none⟩), .iface 179 (.pointer (some ⟨e0.blk, 0, none⟩))] w fun e w' => e = .returned (.tuple #[]) ∧ ∃ v', PushPost w Q v m t L (L ++ [e0]) e0 w' v' := by
  obtain ⟨i0, hi0, hz0, hz1, hz2⟩ := info_parts Tryz.infoE
  have c0 := hQ.c0
  have f0 : w.frozen? ⟨Q, 0, none⟩ = false := frozen_of_blk hQ
  have c3 : w.cell? ⟨e0.blk, 3, none⟩ = some x := by rw [cell_of_blk he]; rfl
  have f3 : w.frozen? ⟨e0.blk, 3, none⟩ = false := frozen_of_blk he
  have nQE : ¬ Q = e0.blk := by rintro rfl; unfold QBlk at hQ; rw [hQ] at he; simp at he
  have nQE' : ¬ e0.blk = Q := fun e => nQE e.symm
  have lQ := lt_of_heap hQ
  have lE := lt_of_heap he
  have hrow := Keeps.ownsRow (S := fun b => b = e0.blk) ((Keeps.refl (fun b => b = e0.blk) w).setCell (p := ⟨e0.blk, 3, none⟩) (.inl rfl) (.int .i64 (L.length : Int))) h.row (fun k hk => by rintro rfl; exact hn (.inl hk))
  have hPP := fun w1 g cap => push_post (w1 := w1) (g := g) (cap := cap) h hQ he hn hs
  obtain ⟨ao, cap, rfl⟩ := h.isSlice
  have hrow' := Lib.hid (hrow.alloc (.cells #[e0.ptr] 179))
  have HPP := Lib.hid hPP
  have H0 := Lib.hid h
  have HQ := Lib.hid hQ
  clear h hQ he hn hrow hPP
  have hta := fun w => ta_entry ⟨e0.blk, 0, none⟩ w
  go_enter Tryz.func200, Tryz.ntmps200
  go_wp2_with (at_builtin; refine wpList_append_lies _ rfl _ _ _ rfl 0 179 i0 _ 1 8 Tryz.underlying176 hi0 hz0 hz1 hz2 rfl (by omega) _ L.length _ (by rfl) hrow'.out ⟨w.heap.size, 0, none⟩ 1 1 [e0.ptr] (by rfl) (by rfl) ?hnews ?hone (by omega) (by unfold maxLen; omega) (by omega) (by omega) (w.heap.size + 1) (by simp) ?_)
  case hnews => exact World.news_of_block (cs := #[e0.ptr]) (t := 179) (fr := (0, 0)) (by rw [← World.size_setCell (w := w) (a := ⟨e0.blk, 3, none⟩) (v := .int .i64 (L.length : Int))]; exact heap_alloc_new _ _)
  case hone => simp [Ent.ptr, Value.oneCell']
  intro g cap' w1 hown hgrow hat hlt
  have hq1 := push_q H0.out HQ.out nQE hgrow
  have c0' := hq1.c0
  have f0' : w1.frozen? ⟨Q, 0, none⟩ = false := frozen_of_blk hq1
  have HP := Lib.hid (HPP.out w1 g cap' hown hgrow hat)
  clear hown hgrow hat hq1
  go_wp2_with fail
  go_end0
  exact ⟨rfl, _, HP.out⟩

end Go.Proofs.YtjcgkmodmjckjaaGreat.U

namespace Go.Proofs.YtjcgkmodmjckjaaGreat.U
open Go.RowKit

def at' (L : List Ent) (i : Nat) : Ent := L.getD i ⟨0, 0, 0, 0⟩
theorem at_eq {L : List Ent} {i : Nat} {e : Ent} (h : L[i]? = some e) : at' L i = e := by simp [at', h]
theorem get_at {L : List Ent} {i : Nat} (h : i < L.length) : L[i]? = some (at' L i) := by simp [at', h]
theorem at_mem {L : List Ent} {i : Nat} (h : i < L.length) : at' L i ∈ L := List.mem_of_getElem? (get_at h)

def leE (a b : Ent) : Prop := lessE b a = false
theorem leE_iff (a b : Ent) : leE a b ↔ a.key < b.key ∨ (a.key = b.key ∧ a.time ≤ b.time) := by
  unfold leE lessE; simp; omega
theorem leE.refl (a : Ent) : leE a a := by rw [leE_iff]; right; exact ⟨rfl, Int.le_refl _⟩
theorem leE.trans {a b c : Ent} (h : leE a b) (k : leE b c) : leE a c := by rw [leE_iff] at *; omega
theorem leE_of_less {a b : Ent} (h : lessE a b = true) : leE a b := by
  rw [leE_iff]; unfold lessE at h; simp at h; omega

theorem lessAt_at {L : List Ent} {i k : Nat} (hi : i < L.length) (hk : k < L.length) : lessAt L i k = lessE (at' L i) (at' L k) := lessAt_eq (get_at hi) (get_at hk)

theorem at_swp {L : List Ent} {i k : Nat} (hi : i < L.length) (hk : k < L.length) (j : Nat) : at' (swp L i k) j = if j = k then at' L i else if j = i then at' L k else at' L j := by
  have := get_swp (get_at hi) (get_at hk) j
  simp only [at', List.getD, this]
  split
  · rfl
  · split <;> rfl

theorem perm_swp (L : List Ent) (i k : Nat) : (swp L i k).Perm L := by
  cases hi : L[i]? with
  | none => simp [swp, hi]
  | some a =>
    cases hk : L[k]? with
    | none => simp [swp, hi, hk]
    | some b =>
      have li : i < L.length := (List.getElem?_eq_some_iff.1 hi).1
      have lk : k < L.length := (List.getElem?_eq_some_iff.1 hk).1
      have ea := (List.getElem?_eq_some_iff.1 hi).2
      have eb := (List.getElem?_eq_some_iff.1 hk).2
      have hp := Array.swap_perm (xs := L.toArray) (i := i) (j := k) (by simpa using li) (by simpa using lk)
      have := Array.perm_iff_toList_perm.1 hp
      have e : (L.toArray.swap i k (by simpa using li) (by simpa using lk)).toList = swp L i k := by
        rw [swp_eq hi hk]
        simp [Array.swap, ea, eb]
      rw [e] at this
      simpa using this

theorem perm_upL (L : List Ent) (j : Nat) : (upL L j).Perm L := by
  induction j using Nat.strongRecOn generalizing L with
  | _ j ih =>
    rw [upL]
    split
    · exact List.Perm.refl _
    · split
      · exact (ih _ (by omega) _).trans (perm_swp _ _ _)
      · exact List.Perm.refl _

/-- What the sinking does, step by step. -/
theorem downL_ind {P : List Ent → Nat → List Ent × Nat → Prop} {n : Nat} (h1 : ∀ L i, n ≤ 2 * i + 1 → P L i (L, i))
    (h2 : ∀ L i j, ¬ n ≤ 2 * i + 1 → (if (decide (2 * i + 2 < n) && lessAt L (2 * i + 2) (2 * i + 1)) = true then 2 * i + 2 else 2 * i + 1) = j → lessAt L j i = false → P L i (L, i))
    (h3 : ∀ L i j, ¬ n ≤ 2 * i + 1 → (if (decide (2 * i + 2 < n) && lessAt L (2 * i + 2) (2 * i + 1)) = true then 2 * i + 2 else 2 * i + 1) = j → lessAt L j i = true → P (swp L i j) j (downL (swp L i j) n j) → P L i (downL (swp L i j) n j)) :
    ∀ L i, P L i (downL L n i) := by
  intro L i
  induction hm : n - i using Nat.strongRecOn generalizing L i with
  | _ m ih =>
    by_cases h : n ≤ 2 * i + 1
    · rw [downL_stop h]; exact h1 L i h
    · obtain ⟨j, hj⟩ : ∃ j, (if (decide (2 * i + 2 < n) && lessAt L (2 * i + 2) (2 * i + 1)) = true then 2 * i + 2 else 2 * i + 1) = j := ⟨_, rfl⟩
      rw [downL_go h hj]
      have hij : i < j := by subst hj; split <;> omega
      cases hc : lessAt L j i
      · simp only [Bool.false_eq_true, if_false]; exact h2 L i j h hj hc
      · simp only [if_true]; exact h3 L i j h hj hc (ih (n - j) (by omega) _ _ rfl)

theorem child_lt {L : List Ent} {n i j : Nat} (h : ¬ n ≤ 2 * i + 1) (hj : (if (decide (2 * i + 2 < n) && lessAt L (2 * i + 2) (2 * i + 1)) = true then 2 * i + 2 else 2 * i + 1) = j) : j < n ∧ i < j ∧ (j - 1) / 2 = i := by
  subst hj
  split
  · rename_i hc; simp at hc; omega
  · omega

theorem perm_downL (L : List Ent) (n i : Nat) : (downL L n i).1.Perm L :=
  downL_ind (P := fun L _ r => r.1.Perm L) (fun _ _ _ => List.Perm.refl _) (fun _ _ _ _ _ _ => List.Perm.refl _) (fun _ _ _ _ _ _ h => h.trans (perm_swp _ _ _)) L i

theorem downL_beyond (L : List Ent) (n i : Nat) (hn : n ≤ L.length) : ∀ k, n ≤ k → at' (downL L n i).1 k = at' L k :=
  downL_ind (P := fun L _ r => n ≤ L.length → ∀ k, n ≤ k → at' r.1 k = at' L k) (fun _ _ _ _ _ _ => rfl) (fun _ _ _ _ _ _ _ _ _ => rfl)
    (fun L i j h hj _ ih hn k hk => by
      obtain ⟨h1, h2, h3⟩ := child_lt h hj
      rw [ih (by rw [length_swp]; exact hn) k hk, at_swp (by omega) (by omega), if_neg (by omega), if_neg (by omega)]) L i hn

def Heap (L : List Ent) (n : Nat) : Prop := ∀ c, 0 < c → c < n → leE (at' L ((c - 1) / 2)) (at' L c)

theorem heap_downL (L : List Ent) (n i : Nat) (hn : n ≤ L.length) (H1 : ∀ c, 0 < c → c < n → (c - 1) / 2 ≠ i → c ≠ i → leE (at' L ((c - 1) / 2)) (at' L c))
    (H2 : ∀ c, 0 < c → c < n → (c - 1) / 2 = i → 0 < i → leE (at' L ((i - 1) / 2)) (at' L c)) :
    ((downL L n i).2 = i ∧ (downL L n i).1 = L ∧ ∀ c, 0 < c → c < n → (c - 1) / 2 = i → leE (at' L i) (at' L c)) ∨ (i < (downL L n i).2 ∧ Heap (downL L n i).1 n) := by
  refine downL_ind (n := n) (P := fun L i r => n ≤ L.length → (∀ c, 0 < c → c < n → (c - 1) / 2 ≠ i → c ≠ i → leE (at' L ((c - 1) / 2)) (at' L c)) → (∀ c, 0 < c → c < n → (c - 1) / 2 = i → 0 < i → leE (at' L ((i - 1) / 2)) (at' L c)) →
    (r.2 = i ∧ r.1 = L ∧ ∀ c, 0 < c → c < n → (c - 1) / 2 = i → leE (at' L i) (at' L c)) ∨ (i < r.2 ∧ Heap r.1 n)) ?_ ?_ ?_ L i hn H1 H2
  · intro L i h hn H1 H2
    exact .inl ⟨rfl, rfl, fun c h0 hc hp => by omega⟩
  · intro L i j h hj hl hn H1 H2
    obtain ⟨h1, h2, h3⟩ := child_lt h hj
    refine .inl ⟨rfl, rfl, fun c h0 hc hp => ?_⟩
    have hji : leE (at' L i) (at' L j) := by rw [lessAt_at (by omega) (by omega)] at hl; exact hl
    -- c is a child of i: j is the smaller one
    have hcc : c = 2 * i + 1 ∨ c = 2 * i + 2 := by omega
    refine hji.trans ?_
    by_cases hb : (decide (2 * i + 2 < n) && lessAt L (2 * i + 2) (2 * i + 1)) = true
    · rw [if_pos hb] at hj
      subst hj
      simp at hb
      rw [lessAt_at (by omega) (by omega)] at hb
      rcases hcc with rfl | rfl
      · exact leE_of_less hb.2
      · exact leE.refl _
    · rw [if_neg hb] at hj
      subst hj
      simp at hb
      rcases hcc with rfl | rfl
      · exact leE.refl _
      · have := hb (by omega)
        rw [lessAt_at (by omega) (by omega)] at this
        exact this
  · intro L i j h hj hl ih hn H1 H2
    obtain ⟨h1, h2, h3⟩ := child_lt h hj
    have hlt : lessE (at' L j) (at' L i) = true := by rw [lessAt_at (by omega) (by omega)] at hl; exact hl
    have hsw : ∀ k, at' (swp L i j) k = if k = j then at' L i else if k = i then at' L j else at' L k := at_swp (by omega) (by omega)
    have hmin : ∀ c, 0 < c → c < n → (c - 1) / 2 = i → leE (at' L j) (at' L c) := by
      intro c h0 hc hp
      have hcc : c = 2 * i + 1 ∨ c = 2 * i + 2 := by omega
      by_cases hb : (decide (2 * i + 2 < n) && lessAt L (2 * i + 2) (2 * i + 1)) = true
      · rw [if_pos hb] at hj
        subst hj
        simp at hb
        rw [lessAt_at (by omega) (by omega)] at hb
        rcases hcc with rfl | rfl
        · exact leE_of_less hb.2
        · exact leE.refl _
      · rw [if_neg hb] at hj
        subst hj
        simp at hb
        rcases hcc with rfl | rfl
        · exact leE.refl _
        · have := hb (by omega)
          rw [lessAt_at (by omega) (by omega)] at this
          exact this
    have hall : ∀ c, 0 < c → c < n → (c - 1) / 2 ≠ j → c ≠ j → leE (at' (swp L i j) ((c - 1) / 2)) (at' (swp L i j) c) := by
      intro c h0 hc hp hcj
      rw [hsw, hsw, if_neg hp, if_neg hcj]
      by_cases hpi : (c - 1) / 2 = i
      · rw [if_pos hpi, if_neg (by omega)]
        exact hmin c h0 hc hpi
      · rw [if_neg hpi]
        by_cases hci : c = i
        · subst hci
          rw [if_pos rfl]
          exact H2 j (by omega) h1 h3 h0
        · rw [if_neg hci]
          exact H1 c h0 hc hpi hci
    have hih := ih (by rw [length_swp]; exact hn) hall (by
      intro c h0 hc hp hj0
      rw [hsw, hsw, if_neg (by omega), if_pos h3, if_neg (by omega), if_neg (by omega)]
      have := H1 c h0 hc (by omega) (by omega)
      rw [hp] at this
      exact this)
    rcases hih with ⟨e1, e2, e3⟩ | ⟨e1, e2⟩
    · refine .inr ⟨by omega, ?_⟩
      rw [e2]
      intro c h0 hc
      by_cases hp : (c - 1) / 2 = j
      · rw [hp]; exact e3 c h0 hc hp
      · by_cases hcj : c = j
        · subst hcj
          rw [h3, hsw, hsw, if_neg (by omega), if_pos rfl, if_pos rfl]
          exact leE_of_less hlt
        · exact hall c h0 hc hp hcj
    · exact .inr ⟨by omega, e2⟩

theorem heap_upL (L : List Ent) (n j : Nat) (hn : n ≤ L.length) (hj : j < n) (H1 : ∀ c, 0 < c → c < n → c ≠ j → leE (at' L ((c - 1) / 2)) (at' L c))
    (H2 : ∀ c, 0 < c → c < n → (c - 1) / 2 = j → 0 < j → leE (at' L ((j - 1) / 2)) (at' L c)) : Heap (upL L j) n := by
  induction j using Nat.strongRecOn generalizing L with
  | _ j ih =>
    rw [upL]
    split
    · rename_i h0; subst h0; intro c hc hcn; exact H1 c hc hcn (by omega)
    · rename_i h0
      have hlt : (j - 1) / 2 < L.length := by omega
      cases hl : lessAt L j ((j - 1) / 2)
      · simp only [Bool.false_eq_true, if_false]
        rw [lessAt_at (by omega) hlt] at hl
        intro c hc hcn
        by_cases e : c = j
        · subst e; exact hl
        · exact H1 c hc hcn e
      · simp only [if_true]
        rw [lessAt_at (by omega) hlt] at hl
        have hsw : ∀ k, at' (swp L ((j - 1) / 2) j) k = if k = j then at' L ((j - 1) / 2) else if k = (j - 1) / 2 then at' L j else at' L k := at_swp hlt (by omega)
        generalize hi : (j - 1) / 2 = i at *
        refine ih i (by omega) _ (by rw [length_swp]; exact hn) (by omega) ?_ ?_
        · intro c hc hcn hci
          rw [hsw, hsw]
          by_cases hcj : c = j
          · subst hcj
            rw [if_pos rfl, hi, if_neg (by omega), if_pos rfl]
            exact leE_of_less hl
          · rw [if_neg hcj, if_neg hci]
            by_cases hpj : (c - 1) / 2 = j
            · rw [if_pos hpj]; exact H2 c hc hcn hpj (by omega)
            · rw [if_neg hpj]
              by_cases hpi : (c - 1) / 2 = i
              · rw [if_pos hpi]
                have := H1 c hc hcn hcj
                rw [hpi] at this
                exact (leE_of_less hl).trans this
              · rw [if_neg hpi]; exact H1 c hc hcn hcj
        · intro c hc hcn hci hi0
          rw [hsw, hsw, if_neg (by omega), if_neg (by omega)]
          have hpi := H1 i hi0 (by omega) (by omega)
          by_cases hcj : c = j
          · rw [if_pos hcj]; exact hpi
          · rw [if_neg hcj, if_neg (by omega)]
            have := H1 c hc hcn hcj
            rw [hci] at this
            exact hpi.trans this

theorem heap_min {L : List Ent} {n : Nat} (h : Heap L n) : ∀ i, i < n → leE (at' L 0) (at' L i) := by
  intro i
  induction i using Nat.strongRecOn with
  | _ i ih =>
    intro hi
    by_cases h0 : i = 0
    · subst h0; exact leE.refl _
    · exact (ih ((i - 1) / 2) (by omega) (by omega)).trans (h i (by omega) hi)

/-- The list without its last element, and that element. -/
theorem snoc_of {L : List Ent} {n : Nat} (h : L.length = n + 1) : L = L.take n ++ [at' L n] := by
  have : L.drop n = [at' L n] := by
    apply List.ext_getElem?
    intro i
    rw [List.getElem?_drop]
    cases i with
    | zero => simp [get_at (L := L) (i := n) (by omega)]
    | succ i => simp; omega
  rw [← this, List.take_append_drop]

theorem at_take {L : List Ent} {n i : Nat} (h : i < n) : at' (L.take n) i = at' L i := by simp [at', h]

theorem heap_take {L : List Ent} {n : Nat} (h : Heap L n) : Heap (L.take n) n := by
  intro c h0 hc; rw [at_take (by omega), at_take hc]; exact h c h0 hc

theorem popL_law {L : List Ent} {n : Nat} (hl : L.length = n + 1) (h : Heap L (n + 1)) :
    ∃ R, popL L = R ++ [at' L 0] ∧ R.length = n ∧ Heap R n ∧ (R ++ [at' L 0]).Perm L := by
  have hlen : (popL L).length = n + 1 := by rw [length_popL]; exact hl
  have hp : (popL L).Perm L := (perm_downL _ _ _).trans (perm_swp _ _ _)
  have hsw : ∀ k, at' (swp L 0 n) k = if k = n then at' L 0 else if k = 0 then at' L n else at' L k := at_swp (by omega) (by omega)
  have e0 : popL L = (downL (swp L 0 n) n 0).1 := by unfold popL; rw [hl]; rfl
  have hlast : at' (popL L) n = at' L 0 := by
    rw [e0, downL_beyond _ _ _ (by rw [length_swp]; omega) n (Nat.le_refl _), hsw, if_pos rfl]
  have hs := snoc_of hlen
  rw [hlast] at hs
  refine ⟨(popL L).take n, hs, by rw [List.length_take, hlen]; omega, heap_take ?_, by rw [← hs]; exact hp⟩
  have hd := heap_downL (swp L 0 n) n 0 (by rw [length_swp]; omega) (by
    intro c h0 hc hpc hc0
    rw [hsw, hsw, if_neg (by omega), if_neg hpc, if_neg (by omega), if_neg hc0]
    exact h c h0 (by omega)) (by intro c _ _ _ h; omega)
  rw [e0]
  rcases hd with ⟨d1, d2, d3⟩ | ⟨d1, d2⟩
  · rw [d2]
    intro c h0 hc
    by_cases hpc : (c - 1) / 2 = 0
    · rw [hpc]; exact d3 c h0 hc hpc
    · rw [hsw, hsw, if_neg (by omega), if_neg hpc, if_neg (by omega), if_neg (by omega)]
      exact h c h0 (by omega)
  · exact d2

theorem fixL_law {L : List Ent} {i : Nat} {e : Ent} (hi : i < L.length) (h : Heap L L.length) : Heap (fixL (L.set i e) i) L.length ∧ (fixL (L.set i e) i).Perm (L.set i e) := by
  have hat : ∀ k, k ≠ i → at' (L.set i e) k = at' L k := by
    intro k hk; simp only [at', List.getD, List.getElem?_set]; rw [if_neg (fun e => hk e.symm)]
  have hl : (L.set i e).length = L.length := by simp
  unfold fixL
  rw [hl]
  have hd := heap_downL (L.set i e) L.length i (by omega) (by
    intro c h0 hc hp hci
    rw [hat _ hp, hat _ hci]; exact h c h0 hc) (by
    intro c h0 hc hp hi0
    rw [hat _ (by omega), hat _ (by omega)]
    have a := h c h0 hc
    rw [hp] at a
    exact (h i hi0 hi).trans a)
  rcases hd with ⟨d1, d2, d3⟩ | ⟨d1, d2⟩
  · rw [if_neg (by omega), d2]
    refine ⟨heap_upL _ _ i (by omega) hi ?_ ?_, perm_upL _ _⟩
    · intro c h0 hc hci
      by_cases hp : (c - 1) / 2 = i
      · rw [hp]; exact d3 c h0 hc hp
      · rw [hat _ hp, hat _ hci]; exact h c h0 hc
    · intro c h0 hc hp hi0
      rw [hat _ (by omega), hat _ (by omega)]
      have a := h c h0 hc
      rw [hp] at a
      exact (h i hi0 hi).trans a
  · rw [if_pos d1]
    exact ⟨d2, perm_downL _ _ _⟩

theorem push_law {L : List Ent} {e : Ent} (h : Heap L L.length) : Heap (upL (L ++ [e]) L.length) (L.length + 1) ∧ (upL (L ++ [e]) L.length).Perm (L ++ [e]) := by
  have hat : ∀ k, k < L.length → at' (L ++ [e]) k = at' L k := by
    intro k hk; simp [at', List.getElem?_append_left hk]
  refine ⟨heap_upL _ _ _ (by simp) (by omega) ?_ ?_, perm_upL _ _⟩
  · intro c h0 hc hcl
    rw [hat _ (by omega), hat _ (by omega)]; exact h c h0 (by omega)
  · intro c h0 hc hp; omega

end Go.Proofs.YtjcgkmodmjckjaaGreat.U

namespace Go.Proofs.YtjcgkmodmjckjaaGreat.U
open Go.RowKit

structure QR (w : World) (Q : Nat) (v : Value) (Mb : Nat) (l : List (Int × Value)) (L E : List Ent) (A : List (Int × Int)) (t : Int) (F : Nat → Prop) : Prop where
  rep : HRep w v L
  q : QBlk w Q v (.map (some Mb)) t
  mp : IMap w Mb .u32 l
  nd : (l.map Prod.fst).Nodup
  mem : ∀ p, p ∈ l ↔ ∃ e ∈ L, p = (e.item, e.ptr)
  heap : Heap L L.length
  perm : L.Perm E
  view : E.map (fun e => (e.item, e.key)) = A
  ord : E.Pairwise (fun a b => a.time < b.time)
  bound : ∀ e ∈ E, e.time ≤ t
  ndA : (A.map Prod.fst).Nodup
  fQ : F Q
  fM : F Mb
  fH : ∀ b, hfoot v L b → F b

/-- The queue at block Q holds the items and keys of A, in the order in which the keys were set; its blocks lie in F. -/
def QRep (w : World) (Q : Nat) (A : List (Int × Int)) (t : Int) (F : Nat → Prop) : Prop := ∃ v Mb l L E, QR w Q v Mb l L E A t F

theorem QR.len {w : World} {Q : Nat} {v : Value} {Mb : Nat} {l : List (Int × Value)} {L E : List Ent} {A : List (Int × Int)} {t : Int} {F : Nat → Prop} (h : QR w Q v Mb l L E A t F) : L.length = A.length := by
  rw [h.perm.length_eq, ← h.view]; simp

theorem QR.lt {w : World} {Q : Nat} {v : Value} {Mb : Nat} {l : List (Int × Value)} {L E : List Ent} {A : List (Int × Int)} {t : Int} {F : Nat → Prop} (h : QR w Q v Mb l L E A t F) : Q < w.heap.size ∧ Mb < w.heap.size ∧ ∀ b, hfoot v L b → b < w.heap.size :=
  ⟨lt_of_heap h.q, h.mp.lt, fun _ hb => h.rep.lt hb⟩

theorem QRep.keeps {S : Nat → Prop} {w w' : World} {Q : Nat} {A : List (Int × Int)} {t : Int} {F : Nat → Prop} (h : QRep w Q A t F) (hk : Keeps S w w') (hs : ∀ b, F b → ¬ S b) : QRep w' Q A t F := by
  obtain ⟨v, Mb, l, L, E, h⟩ := h
  exact ⟨v, Mb, l, L, E, { h with rep := h.rep.keeps hk (fun b hb => hs b (h.fH b hb)), q := hk.heap h.q (hs _ h.fQ), mp := h.mp.keeps hk (hs _ h.fM) }⟩

theorem QRep.mono {w : World} {Q : Nat} {A : List (Int × Int)} {t : Int} {F F' : Nat → Prop} (h : QRep w Q A t F) (hf : ∀ b, b < w.heap.size → F b → F' b) : QRep w Q A t F' := by
  obtain ⟨v, Mb, l, L, E, h⟩ := h
  exact ⟨v, Mb, l, L, E, { h with fQ := hf _ h.lt.1 h.fQ, fM := hf _ h.lt.2.1 h.fM, fH := fun b hb => hf b (h.lt.2.2 b hb) (h.fH b hb) }⟩

/-- A key's entry. -/
theorem QR.find {w : World} {Q : Nat} {v : Value} {Mb : Nat} {l : List (Int × Value)} {L E : List Ent} {A : List (Int × Int)} {t : Int} {F : Nat → Prop} (h : QR w Q v Mb l L E A t F) {x k : Int} (hx : (x, k) ∈ A) :
    ∃ e, e ∈ L ∧ e.item = x ∧ e.key = k ∧ (x, e.ptr) ∈ l := by
  rw [← h.view] at hx
  obtain ⟨e, he, hp⟩ := List.mem_map.1 hx
  simp at hp
  have hL := h.perm.mem_iff.2 he
  exact ⟨e, hL, hp.1, hp.2, (h.mem _).2 ⟨e, hL, by rw [hp.1]⟩⟩

theorem QR.miss {w : World} {Q : Nat} {v : Value} {Mb : Nat} {l : List (Int × Value)} {L E : List Ent} {A : List (Int × Int)} {t : Int} {F : Nat → Prop} (h : QR w Q v Mb l L E A t F) {x : Int} (hx : ∀ p ∈ A, p.1 ≠ x) : ∀ p ∈ l, p.1 ≠ x := by
  intro p hp
  obtain ⟨e, he, rfl⟩ := (h.mem p).1 hp
  have : (e.item, e.key) ∈ A := by rw [← h.view]; exact List.mem_map.2 ⟨e, h.perm.mem_iff.1 he, rfl⟩
  exact hx _ this

set_option maxRecDepth 100000 in
set_option maxHeartbeats 400000 in
theorem new_any (w : World) : Calls Tryz.prog 82 #[] w fun e w' => e = .returned (.pointer (some ⟨w.heap.size + 1, 0, none⟩)) ∧ QRep w' (w.heap.size + 1) [] 0 (fun b => w.heap.size ≤ b) ∧ Keeps (fun _ => False) w w' := by
  have hmm := @run_makeMap Tryz.prog
  go_enter Tryz.func82, Tryz.ntmps82
  go_wp2
  go_ret
  refine ⟨rfl, ⟨.slice none 0 0, w.heap.size, [], [], [], ?_⟩, ((Keeps.refl _ _).alloc _).alloc _⟩
  refine ⟨⟨World.ownsRow_nil _ _ _ _, by simp, by simp⟩, ?_, (IMap.made w .u32).alloc _, by simp, by simp, fun c _ h => by simp at h, List.Perm.refl _, rfl, List.Pairwise.nil, by simp, by simp, ?_, Nat.le_refl _, ?_⟩
  · unfold QBlk
    have := heap_alloc_new (w.alloc (.map #[] 0)) (.cells #[.slice none 0 0, .map (some w.heap.size), .int .i64 0] 178 (0, 0))
    simpa using this
  · show w.heap.size ≤ w.heap.size + 1; omega
  · rintro b (hb | ⟨e, he, _⟩)
    · simp [Value.ownBlock] at hb
    · simp at he

set_option maxRecDepth 100000 in
set_option maxHeartbeats 400000 in
theorem qlen_any (w : World) (Q : Nat) (A : List (Int × Int)) (t : Int) (F : Nat → Prop) (h : QRep w Q A t F) :
    Calls Tryz.prog 84 #[.pointer (some ⟨Q, 0, none⟩)] w fun e w' => e = .returned (.int .i64 (A.length : Int)) ∧ w = w' := by
  obtain ⟨v, Mb, l, L, E, h⟩ := h
  obtain ⟨ao, cap, rfl⟩ := h.rep.isSlice
  have c0 := h.q.c0
  have HL := Lib.hid h.len
  clear h
  go_enter Tryz.func84, Tryz.ntmps84
  go_wp2
  go_ret
  exact ⟨by rw [← HL.out]; rfl, rfl⟩

theorem zero_entry (w : World) : (zeroValue 179).run Tryz.prog w = .ok (.pointer none) w := by kernel_rfl

end Go.Proofs.YtjcgkmodmjckjaaGreat.U

namespace Go.Proofs.YtjcgkmodmjckjaaGreat.U
open Go.RowKit

def setA (A : List (Int × Int)) (x k : Int) : List (Int × Int) := A.filter (fun p => p.1 != x) ++ [(x, k)]

theorem setA_new {A : List (Int × Int)} {x k : Int} (hx : ∀ p ∈ A, p.1 ≠ x) : setA A x k = A ++ [(x, k)] := by
  unfold setA; congr 1; rw [List.filter_eq_self]; intro p hp; simpa using hx p hp

theorem filter_view (E : List Ent) (x : Int) : (E.filter (fun e => e.item != x)).map (fun e => (e.item, e.key)) = (E.map (fun e => (e.item, e.key))).filter (fun p => p.1 != x) := by
  rw [List.filter_map]; rfl

theorem nodup_setA {A : List (Int × Int)} {x k : Int} (h : (A.map Prod.fst).Nodup) : ((setA A x k).map Prod.fst).Nodup := by
  unfold setA
  rw [List.map_append, List.nodup_append]
  refine ⟨(List.Sublist.map Prod.fst List.filter_sublist).nodup h, by simp, ?_⟩
  intro a ha b hb e
  simp at hb
  subst hb; subst e
  obtain ⟨p, hp, rfl⟩ := List.mem_map.1 ha
  have := (List.mem_filter.1 hp).2
  simp at this

theorem HRep.cells {w : World} {v : Value} {L : List Ent} (h : HRep w v L) {b : Nat} (hb : hfoot v L b) : ∃ cs T fr, w.heap[b]? = some (.cells cs T fr) := by
  rcases hb with hb | ⟨e, he, rfl⟩
  · rcases h.row.2 with ⟨hv, _⟩ | ⟨g, cap, cur, hv, _, hg, _⟩
    · rw [hv] at hb; simp [Value.ownBlock] at hb
    · rw [hv] at hb; simp [Value.ownBlock] at hb
      subst hb; exact ⟨_, _, _, hg⟩
  · obtain ⟨j, hj⟩ := List.mem_iff_getElem?.1 he
    exact ⟨_, _, _, h.ent j e hj⟩

/-- What Set leaves: for a new item. -/
theorem set_new_post {w w1 w2 w3 : World} {Q : Nat} {v : Value} {Mb : Nat} {l : List (Int × Value)} {L E : List Ent} {A : List (Int × Int)} {t : Int} {F : Nat → Prop} (h : QR w Q v Mb l L E A t F) (x k : Int) (hx : ∀ p ∈ A, p.1 ≠ x) (e0 : Ent)
    (he : e0.item = x ∧ e0.key = k ∧ e0.time = t + 1 ∧ e0.blk = w.heap.size)
    (k1 : Keeps (fun b => b = Q) w w1) (q1 : QBlk w1 Q v (.map (some Mb)) (t + 1)) (m2 : IMap w2 Mb .u32 (l ++ [(x, e0.ptr)])) (k2 : Keeps (fun b => b = Mb) w1 w2)
    {v' : Value} (hp : PushPost w2 Q v (.map (some Mb)) (t + 1) L (upL (L ++ [e0]) L.length) e0 w3 v') : QRep w3 Q (setA A x k) (t + 1) (fun b => (F b ∧ ((∃ cs T fr, w3.heap[b]? = some (.cells cs T fr)) ∨ ∃ es c, w.heap[b]? = some (.map es c))) ∨ (w.heap.size ≤ b ∧ ∃ cs T fr, w3.heap[b]? = some (.cells cs T fr))) ∧ Keeps F w w3 := by
  have hlt := h.lt
  have hlaw := push_law (e := e0) h.heap
  have hmL : ∀ e, e ∈ upL (L ++ [e0]) L.length ↔ e ∈ L ∨ e = e0 := fun e => by rw [hlaw.2.mem_iff]; simp
  have hlen : (upL (L ++ [e0]) L.length).length = L.length + 1 := by rw [hlaw.2.length_eq]; simp
  have nM : Mb ≠ Q := by
    rintro rfl
    obtain ⟨es, c, hb, _⟩ := h.mp
    have := h.q; unfold QBlk at this; rw [hb] at this; simp at this
  have nMf : ¬ hfoot v L Mb := by
    intro hb
    obtain ⟨es, c, hbm, _⟩ := h.mp
    rcases hb with hb | ⟨e, he, rfl⟩
    · rcases h.rep.row.2 with ⟨hv, _⟩ | ⟨g, cap, cur, hv, _, hg, _⟩
      · rw [hv] at hb; simp [Value.ownBlock] at hb
      · rw [hv] at hb; simp [Value.ownBlock] at hb
        subst hb; rw [hbm] at hg; simp at hg
    · obtain ⟨j, hj⟩ := List.mem_iff_getElem?.1 he
      rw [h.rep.ent j e hj] at hbm; simp at hbm
  have hk3 : Keeps F w w3 := by
    refine ((k1.mono (S' := F) (fun b _ hb => hb ▸ h.fQ)).trans (k2.mono (S' := F) (fun b _ hb => hb ▸ h.fM))).trans' hp.keeps ?_
    rintro b (hb | hb | hb)
    · exact .inl (hb ▸ h.fQ)
    · exact .inl (h.fH b hb)
    · exact .inr (by rw [hb, he.2.2.2]; exact Nat.le_refl _)
  refine ⟨⟨v', Mb, l ++ [(x, e0.ptr)], upL (L ++ [e0]) L.length, E ++ [e0], ?_⟩, hk3⟩
  refine { rep := hp.rep, q := hp.q, mp := m2.keeps hp.keeps ?_, nd := ?_, mem := ?_, heap := by rw [hlen]; exact hlaw.1, perm := ?_, view := ?_, ord := ?_, bound := ?_, ndA := nodup_setA h.ndA, fQ := .inl ⟨h.fQ, .inl ⟨_, _, _, hp.q⟩⟩, fM := .inl ⟨h.fM, .inr (by obtain ⟨es, c, hb, _⟩ := h.mp; exact ⟨es, c, hb⟩)⟩, fH := ?_ }
  · rintro (hb | hb | hb)
    · exact nM hb
    · exact nMf hb
    · rw [he.2.2.2] at hb; have := hlt.2.1; omega
  · rw [List.map_append, List.nodup_append]
    refine ⟨h.nd, by simp, ?_⟩
    intro a ha b hb e
    simp at hb
    obtain ⟨p, hp', rfl⟩ := List.mem_map.1 ha
    exact h.miss hx p hp' (by rw [e, hb])
  · intro p
    rw [List.mem_append, h.mem]
    constructor
    · rintro (⟨e, he', rfl⟩ | hp')
      · exact ⟨e, (hmL e).2 (.inl he'), rfl⟩
      · simp at hp'; subst hp'; exact ⟨e0, (hmL e0).2 (.inr rfl), by rw [he.1]⟩
    · rintro ⟨e, he', rfl⟩
      rcases (hmL e).1 he' with h' | rfl
      · exact .inl ⟨e, h', rfl⟩
      · right; simp [he.1]
  · exact hlaw.2.trans (h.perm.append_right [e0])
  · rw [setA_new hx, List.map_append, h.view]; simp [he.1, he.2.1]
  · rw [List.pairwise_append]
    refine ⟨h.ord, by simp, ?_⟩
    intro a ha b hb
    simp at hb; subst hb
    have := h.bound a ha
    rw [he.2.2.1]; omega
  · intro e he'
    rcases List.mem_append.1 he' with h' | h'
    · have := h.bound e h'; omega
    · simp at h'; subst h'; rw [he.2.2.1]; exact Int.le_refl _
  · intro b hb
    have hc := hp.rep.cells hb
    rcases hp.sub b hb with hb | hb | hb
    · exact .inl ⟨h.fH b hb, .inl hc⟩
    · exact .inr ⟨by rw [hb, he.2.2.2]; exact Nat.le_refl _, hc⟩
    · exact .inr ⟨Nat.le_trans (Nat.le_trans k1.size k2.size) hb, hc⟩

set_option maxRecDepth 100000 in
set_option maxHeartbeats 1000000 in
theorem hpush_any (w : World) (Q : Nat) (v m : Value) (t : Int) (L : List Ent) (e0 : Ent) (x : Value) (h : HRep w v L) (hQ : QBlk w Q v m t)
    (he : w.heap[e0.blk]? = some (.cells #[.int .u32 e0.item, .int .i64 e0.key, .int .i64 e0.time, x] 182 (0, 0))) (hn : ¬ hfoot v L e0.blk) (hs : L.length + 1 ≤ 1000000) :
    Calls Tryz.prog 74 #[.iface 183 (.pointer (some ⟨Q, 0, none⟩)), .iface 179 (.pointer (some ⟨e0.blk, 0, none⟩))] w fun e w' => e = .returned (.tuple #[]) ∧ ∃ v', PushPost w Q v m t L (upL (L ++ [e0]) L.length) e0 w' v' := by
  have mP := fun w => method_Push_raw ⟨Q, 0, none⟩ w
  have H0 := Lib.hid h
  have HQ := Lib.hid hQ
  have HE := Lib.hid he
  have HN := Lib.hid hn
  clear h hQ he hn
  go_enter Tryz.func74, Tryz.ntmps74
  go_wp2_with fail
  refine (opush_any _ Q v m t L e0 x H0.out HQ.out HE.out HN.out hs).mono ?_; rintro e w1 ⟨rfl, v', hP⟩
  have mN := method_Len hP.q.c0
  have HP := Lib.hid hP
  clear hP
  go_wp2_with fail
  refine (len_any _ v' _ HP.out.rep).mono ?_; rintro e w' ⟨he, rfl⟩; rw [List.length_append, List.length_singleton] at he; subst he
  go_wp2_with fail
  refine (up_any _ Q v' _ HP.out.rep HP.out.q.c0 (HP.out.q.nfoot HP.out.rep) L.length (by simp)).mono ?_; rintro e w2 ⟨rfl, hU⟩
  have hp2 : PushPost w Q v m t L (upL (L ++ [e0]) L.length) e0 w2 v' :=
    ⟨hU.rep, hU.qblk HP.out.q HP.out.rep, HP.out.keeps.trans' hU.keeps (fun b hb => by rcases HP.out.sub b hb with h | h | h; exact .inl (.inr (.inl h)); exact .inl (.inr (.inr h)); exact .inr h),
      fun b hb => HP.out.sub b (hU.sub b hb)⟩
  have HP2 := Lib.hid hp2
  clear hp2 hU
  go_wp2_with fail
  go_end0
  exact ⟨rfl, v', HP2.out⟩

set_option maxRecDepth 100000 in
set_option maxHeartbeats 1000000 in
theorem set_new2 (w : World) (Q : Nat) (A : List (Int × Int)) (t : Int) (F : Nat → Prop) (h : QRep w Q A t F) (x k : Int) (hx : ∀ p ∈ A, p.1 ≠ x) (ht : 0 ≤ t ∧ t ≤ 1000000000000000) (hA : A.length ≤ 999999) :
    Calls Tryz.prog 83 #[.pointer (some ⟨Q, 0, none⟩), .int .u32 x, .int .i64 k] w fun e w' => e = .returned (.tuple #[]) ∧ QRep w' Q (setA A x k) (t + 1) (fun b => (F b ∧ ((∃ cs T fr, w'.heap[b]? = some (.cells cs T fr)) ∨ ∃ es c, w.heap[b]? = some (.map es c))) ∨ (w.heap.size ≤ b ∧ ∃ cs T fr, w'.heap[b]? = some (.cells cs T fr))) ∧ Keeps F w w' := by
  obtain ⟨v, Mb, l, L, E, h⟩ := h
  have c1 := h.q.c1
  have c2 := h.q.c2
  have f2 : w.frozen? ⟨Q, 2, none⟩ = false := frozen_of_blk h.q
  have lQ := h.lt.1
  have lM := h.lt.2.1
  have nM : Mb ≠ Q := by
    rintro rfl
    obtain ⟨es, c, hb, _⟩ := h.mp
    have := h.q; unfold QBlk at this; rw [hb] at this; simp at this
  have q1 : QBlk (w.setCell ⟨Q, 2, none⟩ (.int .i64 (t + 1))) Q v (.map (some Mb)) (t + 1) := by unfold QBlk; rw [blk_set_same h.q]; rfl
  have k1 : Keeps (fun b => b = Q) w (w.setCell ⟨Q, 2, none⟩ (.int .i64 (t + 1))) := (Keeps.refl (fun b => b = Q) w).setCell (p := ⟨Q, 2, none⟩) (.inl rfl) _
  have m1 := h.mp.keeps k1 nM
  have hmiss := h.miss hx
  have r1 := h.rep.keeps k1 (fun b hb e => h.q.nfoot h.rep (e ▸ hb))
  have sz1 : (w.setCell ⟨Q, 2, none⟩ (.int .i64 (t + 1))).heap.size = w.heap.size := World.size_setCell ..
  have HL := Lib.hid h.len
  have HM := Lib.hid m1
  have HMS := Lib.hid hmiss
  have H0 := Lib.hid h
  have HX := Lib.hid hx
  have Q1 := Lib.hid q1
  have K1 := Lib.hid k1
  have R1 := Lib.hid r1
  have t0 := ht.1
  have t1 := ht.2
  clear h hx hmiss m1 q1 k1 r1 ht
  go_enter Tryz.func83, Tryz.ntmps83
  go_wp2_with (first | (at_lookup; refine wpList_ilookup_ok_miss rfl _ _ _ rfl Tryz.underlying174 Tryz.underlying60 HM.out (zero_entry _) x rfl rfl HMS.out ?_) | (at_mapUpdate; refine wpList_iupdate_new rfl _ _ _ _ rfl Tryz.underlying174 Tryz.underlying60 (HM.out.alloc _) x _ rfl rfl rfl HMS.out ?_))
  intro w2 m2 k2
  have q2 : QBlk w2 Q v (.map (some Mb)) (t + 1) := k2.heap ((Keeps.refl (fun _ => False) _).alloc _ |>.heap Q1.out (fun h => h)) (fun e => nM e.symm)
  have r2 : HRep w2 v L := (R1.out.keeps ((Keeps.refl (fun _ => False) _).alloc _) (fun _ _ h => h)).keeps k2 (fun b hb e => by
    subst e
    obtain ⟨es, c, hbm, _⟩ := H0.out.mp
    rcases hb with hb | ⟨e, he, rfl⟩
    · rcases H0.out.rep.row.2 with ⟨hv, _⟩ | ⟨g, cap, cur, hv, _, hg, _⟩
      · rw [hv] at hb; simp [Value.ownBlock] at hb
      · rw [hv] at hb; simp [Value.ownBlock] at hb
        subst hb; rw [hbm] at hg; simp at hg
    · obtain ⟨j, hj⟩ := List.mem_iff_getElem?.1 he
      rw [H0.out.rep.ent j e hj] at hbm; simp at hbm)
  have e2 : w2.heap[w.heap.size]? = some (.cells #[.int .u32 x, .int .i64 k, .int .i64 (t + 1), .int .i64 0] 182 (0, 0)) := by
    rw [k2.block _ (by simp) (by omega)]
    have := heap_alloc_new (w.setCell ⟨Q, 2, none⟩ (.int .i64 (t + 1))) (.cells #[.int .u32 x, .int .i64 k, .int .i64 (t + 1), .int .i64 0] 182 (0, 0))
    rw [sz1] at this
    exact this
  have n2 : ¬ hfoot v L w.heap.size := fun hb => by have := H0.out.lt.2.2 _ hb; omega
  have c1' := q2.c1
  have M2 := Lib.hid m2
  have K2 := Lib.hid k2
  have Q2 := Lib.hid q2
  have R2 := Lib.hid r2
  have E2 := Lib.hid e2
  have N2 := Lib.hid n2
  clear m2 k2 q2 r2 e2 n2
  go_wp2_with fail
  refine (hpush_any _ Q v _ (t + 1) L ⟨w.heap.size, x, k, t + 1⟩ _ R2.out Q2.out E2.out N2.out (by have := HL.out; omega)).mono ?_; rintro e w3 ⟨rfl, v', hP⟩
  have hpost := set_new_post H0.out x k HX.out ⟨w.heap.size, x, k, t + 1⟩ ⟨rfl, rfl, rfl, rfl⟩ (K1.out.alloc _) (((Keeps.refl (fun _ => False) _).alloc _).heap Q1.out (fun h => h)) M2.out K2.out hP
  have HPO := Lib.hid hpost
  clear hpost hP
  go_wp2_with fail
  go_end0
  exact ⟨rfl, HPO.out⟩
theorem set_new (w : World) (Q : Nat) (A : List (Int × Int)) (t : Int) (F : Nat → Prop) (h : QRep w Q A t F) (x k : Int) (hx : ∀ p ∈ A, p.1 ≠ x) (ht : 0 ≤ t ∧ t ≤ 1000000000000000) (hA : A.length ≤ 999999) :
    Calls Tryz.prog 83 #[.pointer (some ⟨Q, 0, none⟩), .int .u32 x, .int .i64 k] w fun e w' => e = .returned (.tuple #[]) ∧ QRep w' Q (setA A x k) (t + 1) (fun b => F b ∨ w.heap.size ≤ b) ∧ Keeps F w w' :=
  (set_new2 w Q A t F h x k hx ht hA).mono fun _ _ h => ⟨h.1, h.2.1.mono (fun _ _ hb => hb.imp (fun h => h.1) (fun h => h.1)), h.2.2⟩

end Go.Proofs.YtjcgkmodmjckjaaGreat.U

namespace Go.Proofs.YtjcgkmodmjckjaaGreat.U
open Go.RowKit

theorem QR.nM {w : World} {Q : Nat} {v : Value} {Mb : Nat} {l : List (Int × Value)} {L E : List Ent} {A : List (Int × Int)} {t : Int} {F : Nat → Prop} (h : QR w Q v Mb l L E A t F) : Mb ≠ Q := by
  rintro rfl
  obtain ⟨es, c, hb, _⟩ := h.mp
  have := h.q; unfold QBlk at this; rw [hb] at this; simp at this

theorem QR.nMf {w : World} {Q : Nat} {v : Value} {Mb : Nat} {l : List (Int × Value)} {L E : List Ent} {A : List (Int × Int)} {t : Int} {F : Nat → Prop} (h : QR w Q v Mb l L E A t F) : ¬ hfoot v L Mb := by
  intro hb
  obtain ⟨es, c, hbm, _⟩ := h.mp
  rcases hb with hb | ⟨e, he, rfl⟩
  · rcases h.rep.row.2 with ⟨hv, _⟩ | ⟨g, cap, cur, hv, _, hg, _⟩
    · rw [hv] at hb; simp [Value.ownBlock] at hb
    · rw [hv] at hb; simp [Value.ownBlock] at hb
      subst hb; rw [hbm] at hg; simp at hg
  · obtain ⟨j, hj⟩ := List.mem_iff_getElem?.1 he
    rw [h.rep.ent j e hj] at hbm; simp at hbm

theorem QR.itemInj {w : World} {Q : Nat} {v : Value} {Mb : Nat} {l : List (Int × Value)} {L E : List Ent} {A : List (Int × Int)} {t : Int} {F : Nat → Prop} (h : QR w Q v Mb l L E A t F) {i j : Nat} {a b : Ent} (hi : L[i]? = some a) (hj : L[j]? = some b) (e : a.item = b.item) : i = j := by
  have hp : (L.map (fun e => (e.item, e.key))).Perm A := by rw [← h.view]; exact h.perm.map _
  have hn : ((L.map (fun e => (e.item, e.key))).map Prod.fst).Nodup := (hp.map Prod.fst).nodup_iff.2 h.ndA
  rw [List.map_map] at hn
  have h1 : (L.map (Prod.fst ∘ fun e => (e.item, e.key)))[i]? = some a.item := by rw [List.getElem?_map, hi]; rfl
  have h2 : (L.map (Prod.fst ∘ fun e => (e.item, e.key)))[j]? = some a.item := by rw [List.getElem?_map, hj]; simp [e]
  have li : i < (L.map (Prod.fst ∘ fun e => (e.item, e.key))).length := (List.getElem?_eq_some_iff.1 h1).1
  exact (List.getElem?_inj li hn).1 (h1.trans h2.symm)

/-- The entry turned in place. -/
theorem HRep.turn {w : World} {H cap n : Nat} {L : List Ent} (h : HRep w (.slice (some ⟨H, 0, none⟩) n cap) L) {i : Nat} {e : Ent} (hi : L[i]? = some e) (k t : Int) :
    HRep ((w.setCell ⟨e.blk, 1, none⟩ (.int .i64 k)).setCell ⟨e.blk, 2, none⟩ (.int .i64 t)) (.slice (some ⟨H, 0, none⟩) n cap) (L.set i { e with key := k, time := t }) := by
  have hne := h.ne_row hi (g := H) rfl
  have li : i < L.length := (List.getElem?_eq_some_iff.1 hi).1
  refine ⟨?_, ?_, by simpa using h.small⟩
  · have hr := Keeps.ownsRow (S := fun b => b = e.blk) (((Keeps.refl (fun b => b = e.blk) w).setCell (p := ⟨e.blk, 1, none⟩) (.inl rfl) (.int .i64 k)).setCell (p := ⟨e.blk, 2, none⟩) (.inl rfl) (.int .i64 t)) h.row
      (fun b hb => by simp [Value.ownBlock] at hb; subst hb; exact fun e => hne e.symm)
    have e1 : (L.set i { e with key := k, time := t }).map Ent.ptr = L.map Ent.ptr := by
      rw [List.map_set]
      apply List.ext_getElem?
      intro j
      rw [List.getElem?_set]
      split
      · rename_i hj; subst hj
        have := (List.getElem?_eq_some_iff.1 hi).2
        simp [li, Ent.ptr, this]
      · rfl
    rw [e1, List.length_set]; exact hr
  · intro j a hj
    rw [List.getElem?_set] at hj
    by_cases hij : i = j
    · subst hij
      rw [if_pos rfl, if_pos li] at hj
      obtain rfl := Option.some.inj hj
      rw [blk_set_same (blk_set_same (h.ent i e hi) _)]; rfl
    · rw [if_neg hij] at hj
      have : a.blk ≠ e.blk := fun x => hij (h.inj hj hi x).symm
      rw [blk_set_ne this, blk_set_ne this]
      exact h.ent j a hj

theorem set_old_post {w w1 w2 : World} {Q : Nat} {v : Value} {Mb : Nat} {l : List (Int × Value)} {L E : List Ent} {A : List (Int × Int)} {t : Int} {F : Nat → Prop} (h : QR w Q v Mb l L E A t F) {i : Nat} {e : Ent} (hi : L[i]? = some e) (k : Int)
    (k1 : Keeps (fun b => b = Q ∨ b = e.blk) w w1) (q1 : QBlk w1 Q v (.map (some Mb)) (t + 1)) (hp : HPost w1 v (L.set i { e with key := k, time := t + 1 }) (fixL (L.set i { e with key := k, time := t + 1 }) i) w2) :
    QRep w2 Q (setA A e.item k) (t + 1) (fun b => F b ∧ ((∃ cs T fr, w2.heap[b]? = some (.cells cs T fr)) ∨ ∃ es c, w.heap[b]? = some (.map es c))) ∧ Keeps F w w2 := by
  have li : i < L.length := (List.getElem?_eq_some_iff.1 hi).1
  have he : e ∈ L := List.mem_of_getElem? hi
  have hlaw := fixL_law (e := { e with key := k, time := t + 1 }) li h.heap
  have hfe : hfoot v L e.blk := .inr ⟨e, he, rfl⟩
  have hfs : ∀ b, hfoot v (L.set i { e with key := k, time := t + 1 }) b → hfoot v L b := by
    rintro b (hb | ⟨a, ha, rfl⟩)
    · exact .inl hb
    · rcases List.mem_or_eq_of_mem_set ha with ha | rfl
      · exact .inr ⟨a, ha, rfl⟩
      · exact hfe
  have hmset : ∀ a, a ∈ L.set i { e with key := k, time := t + 1 } ↔ (a ∈ L ∧ a.item ≠ e.item) ∨ a = { e with key := k, time := t + 1 } := by
    intro a
    constructor
    · intro ha
      obtain ⟨j, hj⟩ := List.mem_iff_getElem?.1 ha
      rw [List.getElem?_set] at hj
      by_cases hij : i = j
      · subst hij; rw [if_pos rfl, if_pos li] at hj; exact .inr (Option.some.inj hj).symm
      · rw [if_neg hij] at hj
        exact .inl ⟨List.mem_of_getElem? hj, fun x => hij (h.itemInj hj hi x).symm⟩
    · rintro (⟨ha, hne⟩ | rfl)
      · obtain ⟨j, hj⟩ := List.mem_iff_getElem?.1 ha
        refine List.mem_of_getElem? (i := j) ?_
        rw [List.getElem?_set, if_neg]
        · exact hj
        · rintro rfl; rw [hi] at hj; exact hne (by rw [Option.some.inj hj])
      · refine List.mem_of_getElem? (i := i) ?_
        rw [List.getElem?_set, if_pos rfl, if_pos li]
  have hk2 : Keeps F w w2 := (k1.mono (S' := F) (fun b _ hb => by rcases hb with rfl | rfl; exact h.fQ; exact h.fH _ hfe)).trans (hp.keeps.mono (fun b _ hb => h.fH b (hfs b hb)))
  have hperm : (L.set i { e with key := k, time := t + 1 }).Perm (L.filter (fun a => a.item != e.item) ++ [{ e with key := k, time := t + 1 }]) := by
    have hl : L = L.take i ++ e :: L.drop (i + 1) := by
      have := @List.getElem_cons_drop _ L i li
      rw [(List.getElem?_eq_some_iff.1 hi).2] at this
      rw [this, List.take_append_drop]
    have f1 : (L.take i).filter (fun a => a.item != e.item) = L.take i := by
      rw [List.filter_eq_self]; intro a ha
      obtain ⟨j, hj⟩ := List.mem_iff_getElem?.1 ha
      rw [List.getElem?_take] at hj
      split at hj
      · simp; intro x; have := h.itemInj hj hi x; omega
      · cases hj
    have f2 : (L.drop (i + 1)).filter (fun a => a.item != e.item) = L.drop (i + 1) := by
      rw [List.filter_eq_self]; intro a ha
      obtain ⟨j, hj⟩ := List.mem_iff_getElem?.1 ha
      rw [List.getElem?_drop] at hj
      simp; intro x; have := h.itemInj hj hi x; omega
    have e1 : L.filter (fun a => a.item != e.item) = L.take i ++ L.drop (i + 1) := by
      conv => lhs; rw [hl]
      rw [List.filter_append, List.filter_cons, f1, f2]; simp
    rw [e1, List.set_eq_take_append_cons_drop, if_pos li, List.append_assoc]
    exact List.Perm.append_left _ (List.perm_append_singleton _ _).symm
  have hE : (L.filter (fun a => a.item != e.item)).Perm (E.filter (fun a => a.item != e.item)) := h.perm.filter _
  obtain ⟨ao, cap, hv⟩ := h.rep.isSlice
  refine ⟨⟨v, Mb, l, fixL (L.set i { e with key := k, time := t + 1 }) i, E.filter (fun a => a.item != e.item) ++ [{ e with key := k, time := t + 1 }], ?_⟩, hk2⟩
  have nQ := h.q.nfoot h.rep
  refine { rep := hp.rep, q := hp.keeps.heap q1 (fun hb => nQ (hfs _ hb)), mp := ?_, nd := h.nd, mem := ?_, heap := ?_, perm := hlaw.2.trans (hperm.trans (hE.append_right _)), view := ?_, ord := ?_, bound := ?_, ndA := nodup_setA h.ndA, fQ := ⟨h.fQ, .inl ⟨_, _, _, hp.keeps.heap q1 (fun hb => nQ (hfs _ hb))⟩⟩, fM := ⟨h.fM, .inr (by obtain ⟨es, c, hb, _⟩ := h.mp; exact ⟨es, c, hb⟩)⟩, fH := fun b hb => ⟨h.fH b (hfs b (hp.sub b hb)), .inl (hp.rep.cells hb)⟩ }
  · refine (h.mp.keeps k1 ?_).keeps hp.keeps (fun hb => h.nMf (hfs _ hb))
    rintro (hb | hb)
    · exact h.nM hb
    · exact h.nMf (hb ▸ hfe)
  · intro p
    rw [h.mem]
    constructor
    · rintro ⟨a, ha, rfl⟩
      by_cases hae : a.item = e.item
      · refine ⟨{ e with key := k, time := t + 1 }, hlaw.2.mem_iff.2 ((hmset _).2 (.inr rfl)), ?_⟩
        obtain ⟨j, hj⟩ := List.mem_iff_getElem?.1 ha
        have := h.itemInj hj hi hae
        subst this
        rw [hi] at hj
        obtain rfl := Option.some.inj hj
        rfl
      · exact ⟨a, hlaw.2.mem_iff.2 ((hmset _).2 (.inl ⟨ha, hae⟩)), rfl⟩
    · rintro ⟨a, ha, rfl⟩
      rcases (hmset a).1 (hlaw.2.mem_iff.1 ha) with ⟨ha', _⟩ | rfl
      · exact ⟨a, ha', rfl⟩
      · exact ⟨e, he, rfl⟩
  · rw [hp.len, List.length_set]; exact hlaw.1
  · rw [List.map_append, filter_view, h.view]; rfl
  · rw [List.pairwise_append]
    refine ⟨h.ord.filter _, by simp, ?_⟩
    intro a ha b hb
    simp at hb; subst hb
    have := h.bound a (List.mem_filter.1 ha).1
    show a.time < t + 1; omega
  · intro a ha
    rcases List.mem_append.1 ha with ha | ha
    · have := h.bound a (List.mem_filter.1 ha).1; omega
    · simp at ha; subst ha; exact Int.le_refl _

set_option maxRecDepth 100000 in
set_option maxHeartbeats 1000000 in
theorem set_old2 (w : World) (Q : Nat) (A : List (Int × Int)) (t : Int) (F : Nat → Prop) (h : QRep w Q A t F) (x k k0 : Int) (hx : (x, k0) ∈ A) (ht : 0 ≤ t ∧ t ≤ 1000000000000000) :
    Calls Tryz.prog 83 #[.pointer (some ⟨Q, 0, none⟩), .int .u32 x, .int .i64 k] w fun e w' => e = .returned (.tuple #[]) ∧ QRep w' Q (setA A x k) (t + 1) (fun b => F b ∧ ((∃ cs T fr, w'.heap[b]? = some (.cells cs T fr)) ∨ ∃ es c, w.heap[b]? = some (.map es c))) ∧ Keeps F w w' := by
  obtain ⟨v, Mb, l, L, E, h⟩ := h
  obtain ⟨e, he, rfl, _, h3⟩ := h.find hx
  obtain ⟨i, hi⟩ := List.mem_iff_getElem?.1 he
  have li : i < L.length := (List.getElem?_eq_some_iff.1 hi).1
  obtain ⟨H, cap, cur, hv, -⟩ := h.rep.form (by omega)
  subst hv
  have c1 := h.q.c1
  have c2 := h.q.c2
  have f2 : w.frozen? ⟨Q, 2, none⟩ = false := frozen_of_blk h.q
  have hfe : hfoot (.slice (some ⟨H, 0, none⟩) L.length cap) L e.blk := .inr ⟨e, he, rfl⟩
  have nQE : ¬ Q = e.blk := fun x => h.q.nfoot h.rep (x ▸ hfe)
  have nQE' : ¬ e.blk = Q := fun x => nQE x.symm
  have ce1 := h.rep.e1 hi
  have ce2 := h.rep.e2 hi
  have ce3 := h.rep.e3 hi
  have fe1 : w.frozen? ⟨e.blk, 1, none⟩ = false := frozen_of_blk (h.rep.ent i e hi)
  have fe2 : w.frozen? ⟨e.blk, 2, none⟩ = false := frozen_of_blk (h.rep.ent i e hi)
  have q1 : QBlk (w.setCell ⟨Q, 2, none⟩ (.int .i64 (t + 1))) Q (.slice (some ⟨H, 0, none⟩) L.length cap) (.map (some Mb)) (t + 1) := by unfold QBlk; rw [blk_set_same h.q]; rfl
  have k1 : Keeps (fun b => b = Q) w (w.setCell ⟨Q, 2, none⟩ (.int .i64 (t + 1))) := (Keeps.refl (fun b => b = Q) w).setCell (p := ⟨Q, 2, none⟩) (.inl rfl) _
  have m1 := h.mp.keeps k1 h.nM
  have r1 := h.rep.keeps k1 (fun b hb e => h.q.nfoot h.rep (e ▸ hb))
  have r2 := r1.turn hi k (t + 1)
  have k2 : Keeps (fun b => b = Q ∨ b = e.blk) w (((w.setCell ⟨Q, 2, none⟩ (.int .i64 (t + 1))).setCell ⟨e.blk, 1, none⟩ (.int .i64 k)).setCell ⟨e.blk, 2, none⟩ (.int .i64 (t + 1))) :=
    ((k1.mono (fun b _ hb => .inl hb)).setCell (p := ⟨e.blk, 1, none⟩) (.inl (.inr rfl)) _).setCell (p := ⟨e.blk, 2, none⟩) (.inl (.inr rfl)) _
  have q2 : QBlk (((w.setCell ⟨Q, 2, none⟩ (.int .i64 (t + 1))).setCell ⟨e.blk, 1, none⟩ (.int .i64 k)).setCell ⟨e.blk, 2, none⟩ (.int .i64 (t + 1))) Q (.slice (some ⟨H, 0, none⟩) L.length cap) (.map (some Mb)) (t + 1) := by
    unfold QBlk; rw [blk_set_ne nQE, blk_set_ne nQE]; exact q1
  have HM := Lib.hid m1
  have HN := Lib.hid h.nd
  have H3 := Lib.hid h3
  have H0 := Lib.hid h
  have HI := Lib.hid hi
  have R2 := Lib.hid r2
  have K2 := Lib.hid k2
  have Q2 := Lib.hid q2
  have t0 := ht.1
  have t1 := ht.2
  clear h hx m1 q1 k1 r1 r2 k2 q2 ht h3 hi he hfe
  go_enter Tryz.func83, Tryz.ntmps83
  go_wp2_with (at_lookup; refine wpList_ilookup_ok_hit rfl _ _ _ rfl Tryz.underlying174 Tryz.underlying60 HM.out HN.out e.item _ rfl rfl H3.out ?_; simp only [Ent.ptr])
  go_region_with (go_at_call 73; refine (fix_any _ Q _ _ (t + 1) _ (R2.out.drewN 1) Q2.out _ i (by rw [List.length_set]; exact li) rfl).mono ?_; rintro e' w2 ⟨rfl, hP⟩)
  have hpost := set_old_post H0.out HI.out k (K2.out.drewN 1) Q2.out hP
  have HPO := Lib.hid hpost
  clear hpost hP
  go_wp2
  refine bodyPost_ret (results_none rfl _ _ _) rfl ?_
  exact ⟨rfl, HPO.out⟩
theorem set_old (w : World) (Q : Nat) (A : List (Int × Int)) (t : Int) (F : Nat → Prop) (h : QRep w Q A t F) (x k k0 : Int) (hx : (x, k0) ∈ A) (ht : 0 ≤ t ∧ t ≤ 1000000000000000) :
    Calls Tryz.prog 83 #[.pointer (some ⟨Q, 0, none⟩), .int .u32 x, .int .i64 k] w fun e w' => e = .returned (.tuple #[]) ∧ QRep w' Q (setA A x k) (t + 1) F ∧ Keeps F w w' :=
  (set_old2 w Q A t F h x k k0 hx ht).mono fun _ _ h => ⟨h.1, h.2.1.mono (fun _ _ hb => hb.1), h.2.2⟩

end Go.Proofs.YtjcgkmodmjckjaaGreat.U

namespace Go.Proofs.YtjcgkmodmjckjaaGreat.U
open Go.RowKit

theorem step_idelete {P : Program} {ops : Array Oper} {o : Oper} {a : Act} {w : World} {K : Act → World → Prop} {Q : Exit → Act → World → Prop} {E : Prop} {k e : TypeId} {kd : IntKind} {b : Nat} {l : List (Int × Value)}
    (hg : o.guard = none) (m x : Operand) (t t2 : TypeId) (hop : o.op = Op.call { callee := Callee.builtin Builtin.delete, args := #[m, x], argTypes := #[t, t2] }) (ht : P.underlying t = some (.map k e)) (hk : P.underlying k = some (.int kd))
    (h : IMap w b kd l) (hn : (l.map Prod.fst).Nodup) (n : Int) (hm : a.eval m = .map (some b)) (hx : a.eval x = .int kd n)
    (hK : ∀ w', IMap w' b kd (l.filter fun p => p.1 != n) → Keeps (fun k => k = b) w w' → K (a.put o.dst (.tuple #[])) w') :
    if Region.wanted o (yielded ops a.tmps) = true then Oper.wp P o a w K Q else E := by
  have hw : Region.wanted o (yielded ops a.tmps) = true := by simp [Region.wanted, hg]
  rw [if_pos hw]
  obtain ⟨w', hrun, r1, r2⟩ := h.run_delete ht hk hn o.type t2 n
  unfold Oper.wp
  simp [execOp, hop, resolve, invoke, builtin, hm, hx, hrun, Result.andThen]
  exact hK w' r1 r2

def firstMin : List (Int × Int) → Option (Int × Int)
  | [] => none
  | p :: r => match firstMin r with
    | none => some p
    | some q => if q.2 < p.2 then some q else some p

theorem firstMin_none {A : List (Int × Int)} : firstMin A = none ↔ A = [] := by
  cases A with
  | nil => simp [firstMin]
  | cons p r => simp [firstMin]; split <;> (try split) <;> simp

theorem firstMin_mem {A : List (Int × Int)} {q : Int × Int} (h : firstMin A = some q) : q ∈ A := by
  induction A generalizing q with
  | nil => simp [firstMin] at h
  | cons p r ih =>
    simp only [firstMin] at h
    split at h
    · simp at h; subst h; simp
    · rename_i q' hq'
      split at h
      · simp at h; subst h; exact List.mem_cons_of_mem _ (ih hq')
      · simp at h; subst h; simp

theorem firstMin_of {E : List Ent} (ho : E.Pairwise (fun a b => a.time < b.time)) {e0 : Ent} (he : e0 ∈ E) (hm : ∀ e ∈ E, leE e0 e) : firstMin (E.map fun e => (e.item, e.key)) = some (e0.item, e0.key) := by
  induction E with
  | nil => simp at he
  | cons a r ih =>
    obtain ⟨h1, h2⟩ := List.pairwise_cons.1 ho
    simp only [List.map_cons, firstMin]
    rcases List.mem_cons.1 he with rfl | he'
    · cases hf : firstMin (r.map fun e => (e.item, e.key)) with
      | none => rfl
      | some q =>
        obtain ⟨e, he2, hq⟩ := List.mem_map.1 (firstMin_mem hf)
        have := (leE_iff _ _).1 (hm e (by simp [he2]))
        subst hq
        simp only
        rw [if_neg (by simp; omega)]
    · rw [ih h2 he' (fun e h => hm e (by simp [h]))]
      have := (leE_iff _ _).1 (hm a (by simp))
      have := h1 e0 he'
      show (if e0.key < a.key then some (e0.item, e0.key) else some (a.item, a.key)) = _
      rw [if_pos (by omega)]

/-- What a call that takes one entry out leaves. -/
theorem took_queue {w w1 w2 : World} {Q : Nat} {v v' : Value} {Mb : Nat} {l : List (Int × Value)} {L E R : List Ent} {A : List (Int × Int)} {t : Int} {F : Nat → Prop} (h : QR w Q v Mb l L E A t F) {e0 : Ent}
    (hT : TookPost w Q v (.map (some Mb)) t L R e0 w1 v') (hp : (R ++ [e0]).Perm L) (hH : Heap R R.length) (hm : IMap w2 Mb .u32 (l.filter fun p => p.1 != e0.item)) (k2 : Keeps (fun b => b = Mb) w1 w2) :
    QRep w2 Q (A.filter fun p => p.1 != e0.item) t F ∧ Keeps F w w2 := by
  have he0 : e0 ∈ L := hp.mem_iff.1 (by simp)
  have nMf := h.nMf
  have hne : ∀ a ∈ R, a.item ≠ e0.item := by
    intro a ha e
    have hn : ((R ++ [e0]).map Ent.item).Nodup := by
      have hpv : (L.map (fun e => (e.item, e.key))).Perm A := by rw [← h.view]; exact h.perm.map _
      have : ((L.map (fun e => (e.item, e.key))).map Prod.fst).Nodup := (hpv.map Prod.fst).nodup_iff.2 h.ndA
      rw [List.map_map] at this
      exact (hp.map Ent.item).nodup_iff.2 this
    rw [List.map_append, List.nodup_append] at hn
    exact hn.2.2 _ (List.mem_map.2 ⟨a, ha, rfl⟩) _ (by simp : e0.item ∈ [e0].map Ent.item) e
  have hRL : ∀ a, a ∈ R ↔ a ∈ L ∧ a.item ≠ e0.item := by
    intro a
    constructor
    · intro ha; exact ⟨hp.mem_iff.1 (by simp [ha]), hne a ha⟩
    · rintro ⟨ha, hn⟩
      have := hp.mem_iff.2 ha
      simp at this
      rcases this with h' | rfl
      · exact h'
      · exact absurd rfl hn
  have hk : Keeps F w w2 := (hT.keeps.mono (S' := F) (fun b _ hb => by rcases hb with rfl | hb; exact h.fQ; exact h.fH b hb)).trans (k2.mono (fun b _ hb => hb ▸ h.fM))
  have hperm : R.Perm (E.filter fun a => a.item != e0.item) := by
    have := ((hp.trans h.perm).filter (fun a => a.item != e0.item))
    rw [List.filter_append] at this
    have f1 : R.filter (fun a => a.item != e0.item) = R := by rw [List.filter_eq_self]; intro a ha; simpa using hne a ha
    rw [f1] at this
    simpa using this
  refine ⟨⟨v', Mb, l.filter (fun p => p.1 != e0.item), R, E.filter (fun a => a.item != e0.item), ?_⟩, hk⟩
  refine { rep := hT.rep.keeps k2 (fun b hb e => nMf (hT.sub _ (e ▸ hb))), q := k2.heap hT.q (fun e => h.nM e.symm), mp := hm, nd := (List.Sublist.map Prod.fst List.filter_sublist).nodup h.nd, mem := ?_, heap := hH, perm := hperm, view := by rw [filter_view, h.view], ord := h.ord.filter _, bound := fun a ha => h.bound a (List.mem_filter.1 ha).1, ndA := (List.Sublist.map Prod.fst List.filter_sublist).nodup h.ndA, fQ := h.fQ, fM := h.fM, fH := fun b hb => h.fH b (hT.sub b hb) }
  intro p
  rw [List.mem_filter, h.mem]
  constructor
  · rintro ⟨⟨a, ha, rfl⟩, hn⟩
    exact ⟨a, (hRL a).2 ⟨ha, by simpa using hn⟩, rfl⟩
  · rintro ⟨a, ha, rfl⟩
    obtain ⟨h1, h2⟩ := (hRL a).1 ha
    exact ⟨⟨a, h1, rfl⟩, by simpa using h2⟩

set_option maxRecDepth 100000 in
set_option maxHeartbeats 1000000 in
theorem take_some (w : World) (Q : Nat) (A : List (Int × Int)) (t : Int) (F : Nat → Prop) (h : QRep w Q A t F) (x k : Int) (hx : firstMin A = some (x, k)) :
    Calls Tryz.prog 85 #[.pointer (some ⟨Q, 0, none⟩)] w fun e w' => e = .returned (.tuple #[.int .u32 x, .int .i64 k, .bool true]) ∧ QRep w' Q (A.filter fun p => p.1 != x) t F ∧ Keeps F w w' := by
  obtain ⟨v, Mb, l, L, E, h⟩ := h
  have hA : A ≠ [] := fun e => by rw [e] at hx; simp [firstMin] at hx
  have hl := h.len
  have hpos : 0 < A.length := List.length_pos_iff.2 hA
  obtain ⟨n, hn⟩ : ∃ n, L.length = n + 1 := ⟨L.length - 1, by omega⟩
  have hH := h.heap
  rw [hn] at hH
  obtain ⟨R, hpop, hRl, hRH, hRp⟩ := popL_law hn hH
  have hmin := heap_min hH
  have h0 : at' L 0 ∈ L := at_mem (by omega)
  have hfm := firstMin_of h.ord (h.perm.mem_iff.1 h0) (fun e he => by
    obtain ⟨j, hj⟩ := List.mem_iff_getElem?.1 (h.perm.mem_iff.2 he)
    have lj : j < L.length := (List.getElem?_eq_some_iff.1 hj).1
    rw [← at_eq hj]
    exact hmin j (by omega))
  rw [h.view, hx] at hfm
  generalize at' L 0 = e0 at *
  simp only [Option.some.injEq, Prod.mk.injEq] at hfm
  obtain ⟨rfl, rfl⟩ := hfm
  obtain ⟨ao, cap, hv⟩ := h.rep.isSlice
  subst hv
  rw [hn] at h
  have c0 := h.q.c0
  have hz : (((n + 1 : Nat) : Int) == 0) = false := by simp; omega
  rw [← hRl] at hRH
  have HH := Lib.hid hRH
  have HP := Lib.hid hRp
  have HPOP := Lib.hid hpop
  have H0 := Lib.hid h
  have hta := fun w => ta_entry ⟨e0.blk, 0, none⟩ w
  clear h hx hH hmin h0 hpop hRl hRH hRp hl hn hA hpos
  go_enter Tryz.func85, Tryz.ntmps85
  go_wp2_with fail
  refine (hpop_any _ Q _ _ t L H0.out.rep H0.out.q R e0 HPOP.out).mono ?_; rintro e w1 ⟨rfl, v', hT⟩
  obtain ⟨xx, hent⟩ := hT.ent0
  have d0 : w1.cell? ⟨e0.blk, 0, none⟩ = some (.int .u32 e0.item) := by rw [cell_of_blk hent]; rfl
  have d1 : w1.cell? ⟨e0.blk, 1, none⟩ = some (.int .i64 e0.key) := by rw [cell_of_blk hent]; rfl
  have g1 := hT.q.c1
  have m1 := H0.out.mp.keeps hT.keeps (by rintro (hb | hb); exact H0.out.nM hb; exact H0.out.nMf hb)
  have nEM : e0.blk ≠ Mb := fun e => by obtain ⟨es, c, hbm, _⟩ := m1; rw [← e, hent] at hbm; simp at hbm
  have M1 := Lib.hid m1
  have HT := Lib.hid hT
  have HE := Lib.hid hent
  clear m1 hT hent
  go_wp2_with fail
  go_region_law ((refine step_idelete (by rfl) _ _ _ _ (by rfl) Tryz.underlying174 Tryz.underlying60 (M1.out.drewN 1) H0.out.nd e0.item (by rfl) (by rfl) ?_; intro w2 m2 k2))
  all_goals
    have hE2 := k2.heap (w := w1.drew) HE.out nEM
    have d0' : w2.cell? ⟨e0.blk, 0, none⟩ = some (.int .u32 e0.item) := by rw [cell_of_blk hE2]; rfl
    have d1' : w2.cell? ⟨e0.blk, 1, none⟩ = some (.int .i64 e0.key) := by rw [cell_of_blk hE2]; rfl
    have hpost := took_queue H0.out HT.out HP.out HH.out m2 (show Keeps (fun b => b = Mb) w1 w2 from ⟨k2.os, k2.tape, k2.output, k2.size, k2.block⟩)
    have HPO := Lib.hid hpost
    clear hpost m2 k2 hE2
    go_wp2
    go_quiet (fail)
    go_wp2
    go_ret3
    exact ⟨rfl, HPO.out.1.keeps ((Keeps.refl (fun _ => False) _).drewN nq) (fun _ _ h => h), HPO.out.2.drewN nq⟩

end Go.Proofs.YtjcgkmodmjckjaaGreat.U

namespace Go.Proofs.YtjcgkmodmjckjaaGreat

/-! ### a map of costs -/
/-! ### the queue as a list of items and keys -/
def dropA (A : List (Int × Int)) (x : Int) : List (Int × Int) := A.filter fun p => p.1 != x
def putA (A : List (Int × Int)) (x k : Int) : List (Int × Int) := A.filter (fun p => p.1 != x) ++ [(x, k)]
theorem mem_putA {A : List (Int × Int)} {x k : Int} {p : Int × Int} : p ∈ putA A x k ↔ (p ∈ A ∧ p.1 ≠ x) ∨ p = (x, k) := by unfold putA; simp
theorem putA_len (A : List (Int × Int)) (x k : Int) : (putA A x k).length ≤ A.length + 1 := by
  unfold putA; rw [List.length_append]; have := List.length_filter_le (fun p : Int × Int => p.1 != x) A; simp; omega
theorem dropA_len {A : List (Int × Int)} {x k : Int} (h : (x, k) ∈ A) : (dropA A x).length < A.length := by
  unfold dropA
  refine Nat.lt_of_le_of_ne (List.length_filter_le _ _) (fun e => ?_)
  have := List.length_filter_eq_length_iff.1 e (x, k) h
  simp at this

end Go.Proofs.YtjcgkmodmjckjaaGreat

/- A map whose values own rows apart from each other (m[k] = append(m[k], x)). Nothing here speaks of one program. -/
namespace Go.Proofs.YtjcgkmodmjckjaaGreat
open Go.RowKit

section
variable {α : Type} {B : Nat} {T : TypeId} {sz mb : Nat} {cell : α → List Value} {f : Nat → List α} {F : Nat → Prop} {W : World}

end

end Go.Proofs.YtjcgkmodmjckjaaGreat

/- space.Costs: what its loops know. -/
namespace Go.Proofs.YtjcgkmodmjckjaaGreat
open Go.RowKit Go.Shelf

/-! ### the arcs into each state -/
/-! ### the state of the walk -/
/-- The queue's blocks are no blocks of deferred calls. -/
theorem U.QRep.live {w : World} {Q : Nat} {A : List (Int × Int)} {t : Int} {F : Nat → Prop} (h : U.QRep w Q A t F) : U.QRep w Q A t (fun b => F b ∧ b < w.heap.size ∧ w.heap[b]? ≠ some (.deferred (some []))) := by
  obtain ⟨v, Mb, l, L, E, h⟩ := h
  refine ⟨v, Mb, l, L, E, { h with fQ := ⟨h.fQ, h.lt.1, cells_not_deferred h.q⟩, fM := ⟨h.fM, h.lt.2.1, map_not_deferred h.mp⟩, fH := fun b hb => ⟨h.fH b hb, h.lt.2.2 b hb, ?_⟩ }⟩
  rcases hb with hb | ⟨e, he, rfl⟩
  · exact row_not_deferred h.rep.row b hb
  · obtain ⟨j, hj⟩ := List.mem_iff_getElem?.1 he
    exact cells_not_deferred (h.rep.ent j e hj)

section
variable {w0 : World} {b5 mb bo Q : Nat} {f : Nat → List (Nat × Int)} {L : List Nat} {D : Nat → Int} {A : List (Int × Int)} {t : Int} {F G : Nat → Prop} {W W' : World}
end

/-- Set, whether the item lies in the queue or not. -/
theorem U.set_both (w : World) (Q : Nat) (A : List (Int × Int)) (t : Int) (F : Nat → Prop) (h : U.QRep w Q A t F) (x k : Int) (ht : 0 ≤ t ∧ t ≤ 1000000000000000) (hA : A.length ≤ 999999) :
    Calls Tryz.prog 83 #[.pointer (some ⟨Q, 0, none⟩), .int .u32 x, .int .i64 k] w fun e w' => e = .returned (.tuple #[]) ∧ ∃ F2, U.QRep w' Q (putA A x k) (t + 1) F2 ∧ (∀ b, F2 b → F b ∨ w.heap.size ≤ b) ∧ Keeps F w w' := by
  by_cases hm : ∃ p ∈ A, p.1 = x
  · obtain ⟨⟨x', k0⟩, hp, rfl⟩ := hm
    exact (U.set_old w Q A t F h x' k k0 hp ht).mono fun e w' ⟨h1, h2, h3⟩ => ⟨h1, F, h2, fun b hb => .inl hb, h3⟩
  · exact (U.set_new w Q A t F h x k (fun p hp e => hm ⟨p, hp, e⟩) ht hA).mono fun e w' ⟨h1, h2, h3⟩ => ⟨h1, _, h2, fun b hb => hb, h3⟩
/-- The same; new blocks of the queue are rows of cells. -/
theorem U.set_both2 (w : World) (Q : Nat) (A : List (Int × Int)) (t : Int) (F : Nat → Prop) (h : U.QRep w Q A t F) (x k : Int) (ht : 0 ≤ t ∧ t ≤ 1000000000000000) (hA : A.length ≤ 999999) :
    Calls Tryz.prog 83 #[.pointer (some ⟨Q, 0, none⟩), .int .u32 x, .int .i64 k] w fun e w' => e = .returned (.tuple #[]) ∧ ∃ F2, U.QRep w' Q (putA A x k) (t + 1) F2 ∧ (∀ b, F2 b → (F b ∧ ((∃ cs T fr, w'.heap[b]? = some (.cells cs T fr)) ∨ ∃ es c, w.heap[b]? = some (.map es c))) ∨ (w.heap.size ≤ b ∧ ∃ cs T fr, w'.heap[b]? = some (.cells cs T fr))) ∧ Keeps F w w' := by
  by_cases hm : ∃ p ∈ A, p.1 = x
  · obtain ⟨⟨x', k0⟩, hp, rfl⟩ := hm
    exact (U.set_old2 w Q A t F h x' k k0 hp ht).mono fun e w' ⟨h1, h2, h3⟩ => ⟨h1, _, h2, fun b hb => .inl hb, h3⟩
  · exact (U.set_new2 w Q A t F h x k (fun p hp e => hm ⟨p, hp, e⟩) ht hA).mono fun e w' ⟨h1, h2, h3⟩ => ⟨h1, _, h2, fun b hb => hb, h3⟩
end Go.Proofs.YtjcgkmodmjckjaaGreat

namespace Go.Proofs.YtjcgkmodmjckjaaGreat
open Go.RowKit

/-- Whether a word holds all facts of a goal. -/
def goalB (g x : Nat) : Bool := x &&& g == g

theorem goal_bits {x g : Nat} (hx : x < 4294967296) (hg : g < 4294967296) : (bits .and .u32 (x : Int) (g : Int) == (g : Int)) = goalB g x := by
  rw [(u32_bits hx hg).1]
  unfold goalB
  cases h : x &&& g == g with
  | true => rw [beq_iff_eq] at h ⊢; exact_mod_cast h
  | false => rw [beq_eq_false_iff_ne] at h ⊢; intro e; exact h (by exact_mod_cast e)

def fltV (c i : Int) : Value := .agg #[.int .i64 c, .int .i64 i]

end Go.Proofs.YtjcgkmodmjckjaaGreat

namespace Go.Proofs.YtjcgkmodmjckjaaGreat
open Go.RowKit

def stepT : Tsk := ⟨1, [], [0], [⟨[], [0], [], 3⟩]⟩

theorem Ints.nil (w : World) : Ints w (.slice none 0 0) [] := ⟨none, 0, rfl, by simp, fun h => by simp at h⟩
theorem Ints.one {w : World} {b : Nat} {x : Int} {T : TypeId} (h : w.heap[b]? = some (.cells #[.int .i64 x] T (0, 0))) : Ints w (.slice (some ⟨b, 0, none⟩) 1 1) [x] := by
  refine ⟨_, _, rfl, by simp [maxLen], fun _ => ⟨b, 0, rfl, fun j y hj => ?_⟩⟩
  rw [Nat.zero_add, cell_of_blk h]
  cases j with
  | zero => simpa using hj
  | succ j => simp at hj

set_option maxRecDepth 100000 in
theorem step_any (w : World) : Calls Tryz.prog 20 #[] w fun e w' => ∃ vi vg vo, e = .returned (.agg #[.int .i64 1, vi, vg, vo]) ∧ TaskAt w' vi vg vo stepT ∧ Keeps (fun _ => False) w w' := by
  go_enter Tryz.func20, Tryz.ntmps20
  go_wp2_with fail
  generalize hw1 : w.alloc (Obj.cells #[.int .i64 1, .slice none 0 0, .slice (some ⟨w.heap.size + 1, 0, none⟩) 1 1, .slice (some ⟨w.heap.size + 1 + 1 + 1, 0, none⟩) 1 1] 25) = w1
  have s1 : w1.heap.size = w.heap.size + 1 := by rw [← hw1]; simp
  have k1 : Keeps (fun _ => False) w w1 := by rw [← hw1]; exact (Keeps.refl _ _).alloc _
  have b1 : w1.heap[w.heap.size]? = some (.cells #[.int .i64 1, .slice none 0 0, .slice (some ⟨w.heap.size + 1, 0, none⟩) 1 1, .slice (some ⟨w.heap.size + 1 + 1 + 1, 0, none⟩) 1 1] 25 (0, 0)) := by rw [← hw1]; exact heap_alloc_new _ _
  clear hw1
  have b2 := heap_alloc_new w1 (.cells #[.int .i64 0] 3)
  have k2 := (Keeps.refl (fun _ => False) w1).alloc (.cells #[.int .i64 0] 3)
  have s2 : (w1.alloc (.cells #[.int .i64 0] 3)).heap.size = w1.heap.size + 1 := by simp
  generalize w1.alloc (.cells #[.int .i64 0] 3) = w2 at b2 k2 s2 ⊢
  have b3 := heap_alloc_new w2 (.cells #[.int .i64 0] 3)
  have k3 := (Keeps.refl (fun _ => False) w2).alloc (.cells #[.int .i64 0] 3)
  have s3 : (w2.alloc (.cells #[.int .i64 0] 3)).heap.size = w2.heap.size + 1 := by simp
  generalize w2.alloc (.cells #[.int .i64 0] 3) = w3 at b3 k3 s3 ⊢
  have b4 := heap_alloc_new w3 (.cells #[.slice none 0 0, .slice (some ⟨w.heap.size + 1 + 1, 0, none⟩) 1 1, .slice none 0 0, .int .i64 3] 72)
  have k4 := (Keeps.refl (fun _ => False) w3).alloc (.cells #[.slice none 0 0, .slice (some ⟨w.heap.size + 1 + 1, 0, none⟩) 1 1, .slice none 0 0, .int .i64 3] 72)
  generalize w3.alloc (.cells #[.slice none 0 0, .slice (some ⟨w.heap.size + 1 + 1, 0, none⟩) 1 1, .slice none 0 0, .int .i64 3] 72) = w4 at b4 k4 ⊢
  have k14 := k2.trans (k3.trans k4)
  refine bodyPost_ret (results_cell_row rfl _ _ w.heap.size 25 _ (0, 0) _ rfl (k14.heap b1 (fun h => h)) Tryz.underlying25 rfl (by kernel_rfl)) rfl ?_
  have e1 : w1.heap.size = w.heap.size + 1 := s1
  have e2 : w2.heap.size = w.heap.size + 1 + 1 := by omega
  have e3 : w3.heap.size = w.heap.size + 1 + 1 + 1 := by omega
  rw [e1] at b2; rw [e2] at b3; rw [e3] at b4
  refine ⟨_, _, _, rfl, ⟨Ints.nil _, Ints.one ((k3.trans k4).heap b2 (fun h => h)), ⟨_, _, rfl, by simp [maxLen, stepT], fun _ => ⟨_, 0, rfl, fun i o ho => ?_⟩⟩⟩, k1.trans k14⟩
  cases i with
  | zero =>
    simp [stepT] at ho; subst ho
    refine ⟨.slice none 0 0, .slice (some ⟨w.heap.size + 1 + 1, 0, none⟩) 1 1, .slice none 0 0, ?_, ?_, ?_, ?_, Ints.nil _, Ints.one (k4.heap b3 (fun h => h)), Ints.nil _⟩
    all_goals (rw [cell_of_blk b4]; rfl)
  | succ i => simp [stepT] at ho

theorem stepT_ok : taskFault stepT = (0, 0) := by decide
theorem stepT_reached : explored stepT = some [0, 1] := reached_of_end (i := 2) (by decide) rfl
end Go.Proofs.YtjcgkmodmjckjaaGreat

namespace Go.Proofs.YtjcgkmodmjckjaaGreat
open Go.RowKit

theorem good_next_mem {t : Tsk} (ok : t.Ok) {x y : Nat} (hx : Good t.n x) (hy : y ∈ nexts (wordsOf t.ops) x) : Good t.n y := by
  unfold nexts at hy
  obtain ⟨wo, hwo, rfl⟩ := List.mem_map.1 hy
  have hm := (List.mem_filter.1 hwo).1
  unfold wordsOf at hm
  obtain ⟨o, ho, rfl⟩ := List.mem_map.1 hm
  exact (good_next (by have := ok.n1; omega) (ok.ops o ho) hx).2.2
theorem good_reach {t : Tsk} (ok : t.Ok) {s x : Nat} (hs : Good t.n s) (h : Reach (wordsOf t.ops) s x) : Good t.n x := by
  induction h with
  | refl => exact hs
  | step _ hy ih => exact good_next_mem ok ih hy
theorem good_explored {t : Tsk} (ok : t.Ok) {L : List Nat} (h : explored t = some L) : ∀ x ∈ L, Good t.n x := by
  intro x hx
  exact good_reach ok (good_wd (by have := ok.n1; omega) ok.init) (((reached_some h).2.2.2 x).1 hx)
end Go.Proofs.YtjcgkmodmjckjaaGreat

namespace Go.Proofs.YtjcgkmodmjckjaaGreat
open Go.RowKit

/-- What Costs asks for. -/
theorem costs_need {t : Tsk} (ok : t.Ok) {l ws : List Nat} (hx : explored t = some l) (hp : ws.Perm l) :
    wd t.init < 4294967296 ∧ wd t.goal < 4294967296 ∧ (wordsOf t.ops).length ≤ 40 ∧ Shut (wordsOf t.ops) ws ∧ ws.length ≤ 2000 ∧ (∀ x ∈ ws, x < 4294967296) ∧ (∀ o ∈ wordsOf t.ops, 0 ≤ o.cost ∧ o.cost ≤ 1000000) ∧ wd t.init ∈ ws := by
  have hs32 : wd t.init < 4294967296 := wd_lt32 (by have := ok.n1; omega : t.n ≤ 32) ok.init
  have hg32 : wd t.goal < 4294967296 := wd_lt32 (by have := ok.n1; omega : t.n ≤ 32) ok.goal
  have hsh := shut_reached (ops := wordsOf t.ops) (s := wd t.init) (L := l) hx
  have hr := reached_some (ops := wordsOf t.ops) (s := wd t.init) (l := l) hx
  refine ⟨hs32, hg32, by unfold wordsOf; rw [List.length_map]; exact ok.few, ⟨hp.nodup_iff.2 hsh.1, fun x h o ho hc => hp.mem_iff.2 (hsh.2 x (hp.mem_iff.1 h) o ho hc)⟩, by rw [hp.length_eq]; exact hr.2.1, fun x h => reach_small (wops_ok ok) hs32 ((hr.2.2.2 x).1 (hp.mem_iff.1 h)), fun o ho => ?_, hp.mem_iff.2 (List.mem_of_getElem? hr.2.2.1)⟩
  unfold wordsOf at ho
  obtain ⟨o', ho', rfl⟩ := List.mem_map.1 ho
  have h := ok.ops o' ho'
  have hc : o'.word.cost = o'.cost := rfl
  rw [hc]
  exact ⟨h.cost0, by have := h.cost1; omega⟩

end Go.Proofs.YtjcgkmodmjckjaaGreat

/- space's example. -/
namespace Go.Proofs.YtjcgkmodmjckjaaGreat
open Go.RowKit

end Go.Proofs.YtjcgkmodmjckjaaGreat

/- space: the law that the functions are the reference's. -/
namespace Go.Proofs.YtjcgkmodmjckjaaGreat
open Go.RowKit

section
variable {w : World} {vi vg vo : Value} {t : Tsk}
end

end Go.Proofs.YtjcgkmodmjckjaaGreat

/- space: SpaceFunctionsMatchSpec walked. -/
namespace Go.Proofs.YtjcgkmodmjckjaaGreat
open Go.RowKit

end Go.Proofs.YtjcgkmodmjckjaaGreat

namespace Go.Proofs.YtjcgkmodmjckjaaGreat

def costN (ops : List Wop) : List Nat → Int
  | [] => 0
  | a :: r => ((ops[a]?.map Wop.cost).getD 0) + costN ops r
theorem costN_bound {ops : List Wop} (h : ∀ o ∈ ops, 0 ≤ o.cost ∧ o.cost ≤ 100) : ∀ p : List Nat, 0 ≤ costN ops p ∧ costN ops p ≤ 100 * (p.length : Int)
  | [] => by simp [costN]
  | a :: r => by
    have h2 := costN_bound h r
    rw [costN]
    cases ho : ops[a]? with
    | none => simp; omega
    | some o =>
      have h1 := h o (List.mem_of_getElem? ho)
      simp; omega

section
variable {ops : List Wop} {L : List Nat} {acc : Nat → Bool} {D : Nat → Int}
/-! ### the finite costs are small -/
def below (L : List Nat) (D : Nat → Int) (z : Int) : Nat := (L.filter fun y => decide (D y < z)).length
end

end Go.Proofs.YtjcgkmodmjckjaaGreat

namespace Go.Proofs.YtjcgkmodmjckjaaGreat

/-- k for each cost, st for each step. -/
def wayN (k st : Int) (ops : List Wop) (p : List Nat) : Int := k * costN ops p + st * (p.length : Int)
theorem wayN_nil (k st : Int) (ops : List Wop) : wayN k st ops [] = 0 := by unfold wayN costN; simp
theorem costN_append (ops : List Wop) : ∀ p q : List Nat, costN ops (p ++ q) = costN ops p + costN ops q
  | [], q => by simp [costN]
  | a :: p, q => by rw [List.cons_append, costN, costN, costN_append ops p q]; omega
theorem wayN_append (k st : Int) (ops : List Wop) (p q : List Nat) : wayN k st ops (p ++ q) = wayN k st ops p + wayN k st ops q := by
  unfold wayN
  rw [costN_append, List.length_append, Int.natCast_add, Int.mul_add, Int.mul_add]; omega
theorem wayN_one {k st : Int} {ops : List Wop} {a : Nat} {o : Wop} (h : ops[a]? = some o) : wayN k st ops [a] = k * o.cost + st := by
  unfold wayN; simp [costN, h]
theorem wayN_low {k st : Int} {ops : List Wop} (hk : 0 ≤ k) (hs : 0 ≤ st) (h0 : ∀ o ∈ ops, 0 ≤ o.cost ∧ o.cost ≤ 100) (p : List Nat) : 0 ≤ wayN k st ops p := by
  have h1 := Int.mul_nonneg hk (costN_bound h0 p).1
  have h2 := Int.mul_nonneg hs (Int.natCast_nonneg p.length)
  unfold wayN; omega

/-- b is the least price of a plan, or -1 where there is none. -/
def LeastOf (k st : Int) (ops : List Wop) (s : Nat) (acc : Nat → Bool) (b : Int) : Prop :=
  (b = -1 ∧ ∀ p y, runOps ops s p = some y → acc y = false) ∨
  (0 ≤ b ∧ (∃ p y, runOps ops s p = some y ∧ acc y = true ∧ wayN k st ops p = b) ∧ ∀ p y, runOps ops s p = some y → acc y = true → b ≤ wayN k st ops p)
theorem LeastOf.unique {k st : Int} {ops : List Wop} {s : Nat} {acc : Nat → Bool} {b b' : Int} (h : LeastOf k st ops s acc b) (h' : LeastOf k st ops s acc b') : b = b' := by
  rcases h with ⟨h1, h2⟩ | ⟨h1, ⟨p, y, hp, hy, hb⟩, h3⟩ <;> rcases h' with ⟨g1, g2⟩ | ⟨g1, ⟨q, z, hq, hz, hc⟩, g3⟩
  · rw [h1, g1]
  · rw [h2 q z hq] at hz; cases hz
  · rw [g2 p y hp] at hy; cases hy
  · have := h3 q z hq hz; have := g3 p y hp hy; omega

end Go.Proofs.YtjcgkmodmjckjaaGreat

namespace Go.Proofs.YtjcgkmodmjckjaaGreat

structure SArc where
  op : Nat
  price : Int
  to : Nat

/-- How many states of L have a price. -/
def knownB (L : List Nat) (P : Nat → Option Int) : Nat := L.countP fun x => (P x).isSome
/-- The prices after one of them is set. -/
def putP {α : Type} (P : Nat → Option α) (x : Nat) (v : α) : Nat → Option α := fun y => if y = x then some v else P y
theorem putP_same {α : Type} (P : Nat → Option α) (x : Nat) (v : α) : putP P x v x = some v := by simp [putP]
theorem putP_other {α : Type} (P : Nat → Option α) {x y : Nat} (v : α) (h : y ≠ x) : putP P x v y = P y := by simp [putP, h]
theorem knownB_put {L : List Nat} {P : Nat → Option Int} {x : Nat} {v : Int} (hn : L.Nodup) (hx : x ∈ L) (hP : P x = none) : knownB L (putP P x v) = knownB L P + 1 := by
  unfold knownB
  induction L with
  | nil => simp at hx
  | cons y r ih =>
    rw [List.nodup_cons] at hn
    by_cases hyx : y = x
    · subst hyx
      rw [List.countP_cons, List.countP_cons, putP_same, hP]
      have : r.countP (fun z => (putP P y v z).isSome) = r.countP fun z => (P z).isSome := by
        apply List.countP_congr
        intro z hz
        rw [putP_other P v (fun e => hn.1 (by rw [← e]; exact hz))]
      simp [this]
    · have hxr : x ∈ r := by
        rcases List.mem_cons.1 hx with h | h
        · exact absurd h.symm hyx
        · exact h
      rw [List.countP_cons, List.countP_cons, putP_other P v hyx, ih hn.2 hxr]; omega
theorem knownB_same {L : List Nat} {P : Nat → Option Int} {x : Nat} {v u : Int} (hP : P x = some u) : knownB L (putP P x v) = knownB L P := by
  unfold knownB
  apply List.countP_congr
  intro z _
  by_cases h : z = x
  · subst h; rw [putP_same, hP]; simp
  · rw [putP_other P v h]
theorem knownB_le (L : List Nat) (P : Nat → Option Int) : knownB L P ≤ L.length := List.countP_le_length

/-- What stays of a side while arcs of the state s are looked at: the arcs in R are still to do. -/
structure SideI (G : Nat → List SArc) (S0 : Nat → Prop) (L : List Nat) (C : Int) (P : Nat → Option Int) (par : Nat → Option SArc) (A : List (Int × Int)) (s : Nat) (R : List SArc) : Prop where
  dom : ∀ x p, P x = some p → x ∈ L
  lo : ∀ x p, P x = some p → 0 ≤ p ∧ p ≤ C * (knownB L P : Int)
  start : ∀ x, S0 x → P x = some 0 ∧ par x = none
  from_ : ∀ x p, P x = some p → ¬ S0 x → ∃ a, par x = some a ∧ ⟨a.op, a.price, x⟩ ∈ G a.to ∧ ∃ q, P a.to = some q ∧ q + a.price ≤ p
  key : ∀ z ∈ A, ∃ x : Nat, z.1 = (x : Int) ∧ P x = some z.2
  pend : ∀ x p, P x = some p → ((x : Int), p) ∈ A ∨ ∀ a ∈ G x, (∃ q, P a.to = some q ∧ q ≤ p + a.price) ∨ (x = s ∧ a ∈ R)
theorem SideI.anyS {G : Nat → List SArc} {S0 : Nat → Prop} {L : List Nat} {C : Int} {P : Nat → Option Int} {par : Nat → Option SArc} {A : List (Int × Int)} {s s' : Nat} (h : SideI G S0 L C P par A s []) : SideI G S0 L C P par A s' [] :=
  ⟨h.dom, h.lo, h.start, h.from_, h.key, fun x p hp => by
    rcases h.pend x p hp with h1 | h1
    · exact .inl h1
    · refine .inr fun a ha => ?_
      rcases h1 a ha with h2 | ⟨_, h2⟩
      · exact .inl h2
      · simp at h2⟩

/-- The state at the head of the queue is taken. -/
theorem SideI.take {G : Nat → List SArc} {S0 : Nat → Prop} {L : List Nat} {C : Int} {P : Nat → Option Int} {par : Nat → Option SArc} {A : List (Int × Int)} {s x : Nat} {p : Int} (h : SideI G S0 L C P par A s []) (hp : P x = some p) :
    SideI G S0 L C P par (A.filter fun z => z.1 != (x : Int)) x (G x) :=
  ⟨h.dom, h.lo, h.start, h.from_, fun z hz => h.key z (List.mem_filter.1 hz).1, fun y q hq => by
    by_cases hyx : y = x
    · subst hyx
      exact .inr fun a ha => .inr ⟨rfl, ha⟩
    · rcases h.pend y q hq with h1 | h1
      · refine .inl (List.mem_filter.2 ⟨h1, ?_⟩)
        simp; omega
      · refine .inr fun a ha => ?_
        rcases h1 a ha with h2 | ⟨_, h2⟩
        · exact .inl h2
        · simp at h2⟩
/-- An arc that leads to nothing better. -/
theorem SideI.skip {G : Nat → List SArc} {S0 : Nat → Prop} {L : List Nat} {C : Int} {P : Nat → Option Int} {par : Nat → Option SArc} {A : List (Int × Int)} {x : Nat} {p q : Int} {a : SArc} {R : List SArc} (h : SideI G S0 L C P par A x (a :: R)) (hp : P x = some p) (hq : P a.to = some q) (hle : q ≤ p + a.price) : SideI G S0 L C P par A x R :=
  ⟨h.dom, h.lo, h.start, h.from_, h.key, fun y u hu => by
    rcases h.pend y u hu with h1 | h1
    · exact .inl h1
    · refine .inr fun b hb => ?_
      rcases h1 b hb with h2 | ⟨rfl, h2⟩
      · exact .inl h2
      · rcases List.mem_cons.1 h2 with rfl | h3
        · rw [hp] at hu; cases hu; exact .inl ⟨q, hq, hle⟩
        · exact .inr ⟨rfl, h3⟩⟩
/-- An arc that gives a better price. -/
theorem SideI.fall {G : Nat → List SArc} {S0 : Nat → Prop} {L : List Nat} {C : Int} {P : Nat → Option Int} {par : Nat → Option SArc} {A : List (Int × Int)} {x : Nat} {p : Int} {a : SArc} {R : List SArc} (h : SideI G S0 L C P par A x (a :: R)) (hn : L.Nodup) (hC : ∀ y, ∀ b ∈ G y, 1 ≤ b.price ∧ b.price ≤ C) (hin : a.to ∈ L) (ha : a ∈ G x) (hp : P x = some p) (hlt : ∀ q, P a.to = some q → p + a.price < q) :
    SideI G S0 L C (putP P a.to (p + a.price)) (putP par a.to ⟨a.op, a.price, x⟩) (putA A (a.to : Int) (p + a.price)) x R := by
  have hc := hC x a ha
  have hxp := h.lo x p hp
  have hne : a.to ≠ x := fun e => by have := hlt p (by rw [e]; exact hp); omega
  have hns : ¬ S0 a.to := fun e => by have := hlt 0 (h.start _ e).1; omega
  have hkn : (knownB L P : Int) ≤ knownB L (putP P a.to (p + a.price)) ∧ (P a.to = none → (knownB L (putP P a.to (p + a.price)) : Int) = knownB L P + 1) := by
    cases hq : P a.to with
    | none => rw [knownB_put hn hin hq]; exact ⟨by omega, fun _ => by omega⟩
    | some u => rw [knownB_same hq]; exact ⟨Int.le_refl _, fun e => by cases e⟩
  have hmono : C * (knownB L P : Int) ≤ C * (knownB L (putP P a.to (p + a.price)) : Int) := Int.mul_le_mul_of_nonneg_left hkn.1 (by omega)
  refine ⟨fun y u hu => ?_, fun y u hu => ?_, fun y hy => ?_, fun y u hu hs => ?_, fun z hz => ?_, fun y u hu => ?_⟩
  · by_cases hy : y = a.to
    · subst hy; exact hin
    · rw [putP_other P _ hy] at hu; exact h.dom y u hu
  · by_cases hy : y = a.to
    · subst hy
      rw [putP_same] at hu; cases hu
      refine ⟨by omega, ?_⟩
      cases hq : P a.to with
      | none =>
        rw [hkn.2 hq, Int.mul_add]; omega
      | some u => have := hlt u hq; have := (h.lo _ u hq).2; omega
    · rw [putP_other P _ hy] at hu
      have := h.lo y u hu; omega
  · have hy' : y ≠ a.to := fun e => hns (e ▸ hy)
    rw [putP_other P _ hy', putP_other par _ hy']; exact h.start y hy
  · by_cases hy : y = a.to
    · subst hy
      rw [putP_same] at hu; cases hu
      refine ⟨⟨a.op, a.price, x⟩, putP_same _ _ _, ha, p, ?_, Int.le_refl _⟩
      rw [putP_other P _ (fun e => hne e.symm)]; exact hp
    · rw [putP_other P _ hy] at hu
      obtain ⟨b, hb, hg, q, hq, hle⟩ := h.from_ y u hu hs
      refine ⟨b, by rw [putP_other par _ hy]; exact hb, hg, ?_⟩
      by_cases hbt : b.to = a.to
      · rw [hbt, putP_same]
        have := hlt q (by rw [← hbt]; exact hq)
        exact ⟨_, rfl, by omega⟩
      · rw [putP_other P _ hbt]; exact ⟨q, hq, hle⟩
  · rcases mem_putA.1 hz with ⟨h1, h2⟩ | rfl
    · obtain ⟨y, hy, hPy⟩ := h.key z h1
      refine ⟨y, hy, ?_⟩
      rw [putP_other P _ (fun e => h2 (by rw [hy, e]))]; exact hPy
    · exact ⟨a.to, rfl, putP_same _ _ _⟩
  · by_cases hy : y = a.to
    · subst hy
      rw [putP_same] at hu; cases hu
      exact .inl (mem_putA.2 (.inr rfl))
    · rw [putP_other P _ hy] at hu
      rcases h.pend y u hu with h1 | h1
      · exact .inl (mem_putA.2 (.inl ⟨h1, by simp; omega⟩))
      · refine .inr fun b hb => ?_
        have low : ∀ q, P b.to = some q → q ≤ u + b.price → ∃ q', putP P a.to (p + a.price) b.to = some q' ∧ q' ≤ u + b.price := fun q hq hle => by
          by_cases hbt : b.to = a.to
          · rw [hbt, putP_same]
            have := hlt q (by rw [← hbt]; exact hq)
            exact ⟨_, rfl, by omega⟩
          · rw [putP_other P _ hbt]; exact ⟨q, hq, hle⟩
        rcases h1 b hb with ⟨q, hq, hle⟩ | ⟨rfl, h2⟩
        · exact .inl (low q hq hle)
        · rcases List.mem_cons.1 h2 with rfl | h3
          · rw [hp] at hu; cases hu
            exact .inl ⟨_, putP_same _ _ _, Int.le_refl _⟩
          · exact .inr ⟨rfl, h3⟩

/-! ### where the sides meet -/
/-! ### the end -/
section
variable {ops : List Wop} {L : List Nat} {Gf Gb : Nat → List SArc} {Sf Sb : Nat → Prop} {C : Int} {F B : Nat → Option Int} {pf pb : Nat → Option SArc} {Af Ab : List (Int × Int)} {sf sb : Nat} {best : Int} {at_ : Nat} {found : Bool}
end

end Go.Proofs.YtjcgkmodmjckjaaGreat

namespace Go.Proofs.YtjcgkmodmjckjaaGreat
open Go.RowKit

def NMap {α : Type} (w : World) (b : Nat) (enc : α → Value) (f : Nat → Option α) : Prop :=
  ∃ l : List (Nat × α), IMap w b .i64 (l.map fun p => ((p.1 : Int), enc p.2)) ∧ (l.map Prod.fst).Nodup ∧ ∀ x v, f x = some v ↔ (x, v) ∈ l

section
variable {α : Type} {w : World} {b : Nat} {enc : α → Value} {f : Nat → Option α}
theorem NMap.keeps {S : Nat → Prop} {w' : World} (h : NMap w b enc f) (hk : Keeps S w w') (hs : ¬ S b) : NMap w' b enc f := by
  obtain ⟨l, h1, h2⟩ := h; exact ⟨l, h1.keeps hk hs, h2⟩
theorem NMap.lt (h : NMap w b enc f) : b < w.heap.size := by obtain ⟨l, h1, _⟩ := h; exact h1.lt
theorem NMap.map_block (h : NMap w b enc f) : ∃ es c, w.heap[b]? = some (.map es c) := by obtain ⟨l, ⟨es, c, hb, _⟩, _⟩ := h; exact ⟨es, c, hb⟩
theorem NMap.ne_cells (h : NMap w b enc f) {g : Nat} {cs : Array Value} {T : TypeId} {fr : Nat × Nat} (hg : w.heap[g]? = some (.cells cs T fr)) : b ≠ g := fun e => by
  obtain ⟨es, c, hb⟩ := h.map_block
  rw [e, hg] at hb; cases hb
theorem NMap.made (w : World) (enc : α → Value) : NMap (w.alloc (.map #[] 0)) w.heap.size enc (fun _ => none) :=
  ⟨[], IMap.made w .i64, by simp, fun x v => by simp⟩
theorem nkeys_nodup {l : List (Nat × α)} (h : (l.map Prod.fst).Nodup) : ((l.map fun p => ((p.1 : Int), enc p.2)).map Prod.fst).Nodup := by
  rw [List.map_map]
  have : (l.map ((Prod.fst : Int × Value → Int) ∘ fun p => ((p.1 : Int), enc p.2))) = (l.map Prod.fst).map fun x : Nat => (x : Int) := by rw [List.map_map]; rfl
  rw [this]
  unfold List.Nodup at h ⊢
  rw [List.pairwise_map]
  exact h.imp fun hne e => hne (by omega)
theorem nkeys_miss {l : List (Nat × α)} (hl : ∀ x v, f x = some v ↔ (x, v) ∈ l) {x : Nat} (hx : f x = none) : ∀ p ∈ l.map (fun p => ((p.1 : Int), enc p.2)), p.1 ≠ (x : Int) := fun p hp e => by
  obtain ⟨q, hq, rfl⟩ := List.mem_map.1 hp
  have : q.1 = x := by simp only at e; omega
  have h2 := (hl q.1 q.2).2 hq
  rw [this, hx] at h2; cases h2
variable {P : Program} {t k e : TypeId}
theorem NMap.look_some (h : NMap w b enc f) (ht : P.underlying t = some (.map k e)) (hk : P.underlying k = some (.int .i64)) {x : Nat} {v : α} (hx : f x = some v) :
    (Instr.lookup t (.map (some b)) (.int .i64 (x : Int)) true).run P w = .ok (.tuple #[enc v, .bool true]) w ∧ (Instr.lookup t (.map (some b)) (.int .i64 (x : Int)) false).run P w = .ok (enc v) w := by
  obtain ⟨l, h1, h2, h3⟩ := h
  exact h1.run_lookup_hit ht hk (nkeys_nodup h2) (List.mem_map.2 ⟨(x, v), (h3 x v).1 hx, rfl⟩)
theorem NMap.look_none (h : NMap w b enc f) (ht : P.underlying t = some (.map k e)) (hk : P.underlying k = some (.int .i64)) {z : Value} (hz : (zeroValue e).run P w = .ok z w) {x : Nat} (hx : f x = none) :
    (Instr.lookup t (.map (some b)) (.int .i64 (x : Int)) true).run P w = .ok (.tuple #[z, .bool false]) w ∧ (Instr.lookup t (.map (some b)) (.int .i64 (x : Int)) false).run P w = .ok z w := by
  obtain ⟨l, h1, _, h3⟩ := h
  exact h1.run_lookup_miss ht hk hz (nkeys_miss h3 hx)
/-- A store. -/
theorem NMap.put (h : NMap w b enc f) (ht : P.underlying t = some (.map k e)) (hk : P.underlying k = some (.int .i64)) (x : Nat) (v : α) :
    ∃ w', (Instr.mapUpdate t (.map (some b)) (.int .i64 (x : Int)) (enc v)).run P w = .ok () w' ∧ NMap w' b enc (putP f x v) ∧ Keeps (fun j => j = b) w w' := by
  obtain ⟨l, h1, h2, h3⟩ := h
  cases hx : f x with
  | none =>
    obtain ⟨w', hr, hi, hk'⟩ := h1.run_update_new ht hk (nkeys_miss h3 hx) (enc v)
    refine ⟨w', hr, ⟨l ++ [(x, v)], by rw [List.map_append]; exact hi, ?_, fun y u => ?_⟩, hk'⟩
    · rw [List.map_append, List.nodup_append]
      refine ⟨h2, by simp, fun a ha c hc hac => ?_⟩
      simp only [List.map_cons, List.map_nil, List.mem_singleton] at hc
      obtain ⟨q, hq, rfl⟩ := List.mem_map.1 ha
      have h4 := (h3 q.1 q.2).2 hq
      rw [hac, hc, hx] at h4; cases h4
    · by_cases hy : y = x
      · subst hy
        rw [putP_same, List.mem_append]
        constructor
        · intro h; cases h; exact .inr (by simp)
        · rintro (h | h)
          · have := (h3 y u).2 h; rw [hx] at this; cases this
          · simp at h; rw [h]
      · rw [putP_other f v hy, h3 y u, List.mem_append]
        constructor
        · exact .inl
        · rintro (h | h)
          · exact h
          · simp at h; exact absurd h.1 hy
  | some u0 =>
    obtain ⟨j, hj⟩ := List.mem_iff_getElem?.1 ((h3 x u0).1 hx)
    obtain ⟨w', hr, hi, hk'⟩ := h1.run_update_old ht hk (nkeys_nodup h2) (x := (x : Int)) (u := enc u0) (j := j) (by rw [List.getElem?_map, hj]; rfl) (enc v)
    have hjl := (List.getElem?_eq_some_iff.1 hj).1
    have hkeys : (l.set j (x, v)).map Prod.fst = l.map Prod.fst := by
      apply List.ext_getElem?
      intro n
      rw [List.getElem?_map, List.getElem?_map]
      by_cases hn : n = j
      · subst hn; rw [List.getElem?_set_self hjl, hj]; rfl
      · rw [List.getElem?_set_ne (fun e => hn e.symm)]
    refine ⟨w', hr, ⟨l.set j (x, v), by rw [List.map_set]; exact hi, by rw [hkeys]; exact h2, fun y u => ?_⟩, hk'⟩
    have uniq : ∀ n q, l[n]? = some q → q.1 = x → n = j := fun n q hq hqx => by
      have e1 : (l.map Prod.fst)[n]? = some x := by rw [List.getElem?_map, hq]; simp [hqx]
      have e2 : (l.map Prod.fst)[j]? = some x := by rw [List.getElem?_map, hj]; rfl
      exact nodup_ix h2 e1 e2
    by_cases hy : y = x
    · subst hy
      rw [putP_same]
      constructor
      · intro h; cases h
        exact List.mem_of_getElem? (List.getElem?_set_self hjl)
      · intro h
        obtain ⟨n, hn⟩ := List.mem_iff_getElem?.1 h
        by_cases hnj : n = j
        · subst hnj; rw [List.getElem?_set_self hjl] at hn; cases hn; rfl
        · rw [List.getElem?_set_ne (fun e => hnj e.symm)] at hn
          exact absurd (uniq n _ hn rfl) hnj
    · rw [putP_other f v hy, h3 y u]
      constructor
      · intro h
        obtain ⟨n, hn⟩ := List.mem_iff_getElem?.1 h
        have hnj : n ≠ j := fun e => by subst e; rw [hj] at hn; cases hn; exact hy rfl
        exact List.mem_of_getElem? (i := n) (by rw [List.getElem?_set_ne (fun e => hnj e.symm)]; exact hn)
      · intro h
        obtain ⟨n, hn⟩ := List.mem_iff_getElem?.1 h
        by_cases hnj : n = j
        · subst hnj; rw [List.getElem?_set_self hjl] at hn; cases hn; exact absurd rfl hy
        · rw [List.getElem?_set_ne (fun e => hnj e.symm)] at hn
          exact List.mem_of_getElem? hn
end

end Go.Proofs.YtjcgkmodmjckjaaGreat

namespace Go.Proofs.YtjcgkmodmjckjaaGreat
open Go.RowKit

def natV (n : Nat) : Value := .int .i64 (n : Int)
/-- What is known is right: the node x says of every set what T makes of what k says. -/
def KnOk (T : (Nat → Bool) → Nat → Bool) (L : Nat) (N : List Dn) (kn : Nat → Option Nat) : Prop :=
  ∀ k x, kn k = some x → k < N.length + 2 ∧ x < N.length + 2 ∧ lev L N k ≤ lev L N x ∧ ∀ m, dv N x m = T (dv N k) m
theorem KnOk.le {T : (Nat → Bool) → Nat → Bool} {L : Nat} {N N' : List Dn} {kn : Nat → Option Nat} (h : KnOk T L N kn) (ok : DgOk L N) (hl : DgLe N N') : KnOk T L N' kn := fun k x hx => by
  obtain ⟨h1, h2, h3, h4⟩ := h k x hx
  have := hl.len
  refine ⟨by omega, by omega, by rw [hl.lev h1, hl.lev h2]; exact h3, fun m => ?_⟩
  have e : dv N' k = dv N k := funext fun m => hl.dv ok h1 m
  rw [hl.dv ok h2, h4, e]
/-- Between the calls. -/
structure WkS (T : (Nat → Bool) → Nat → Bool) (bl : List (Nat × Obj)) (mb sb L : Nat) (N : List Dn) (G : Nat → Prop) (kn : Nat → Option Nat) (w : World) : Prop where
  bx : ∀ p ∈ bl, w.heap[p.1]? = some p.2
  sep : ∀ p ∈ bl, ¬ G p.1 ∧ p.1 ≠ mb
  mp : NMap w mb natV kn
  ms : ¬ G mb
  dg : Dg w sb L N G
  ok : KnOk T L N kn
theorem WkS.keeps0 {T : (Nat → Bool) → Nat → Bool} {bl : List (Nat × Obj)} {mb sb L : Nat} {N : List Dn} {G : Nat → Prop} {kn : Nat → Option Nat} {w w' : World} (h : WkS T bl mb sb L N G kn w) (hk : Keeps (fun _ => False) w w') : WkS T bl mb sb L N G kn w' :=
  ⟨fun p hp => hk.heap (h.bx p hp) (fun h => h), h.sep, h.mp.keeps hk (fun h => h), h.ms, h.dg.keeps0 hk, h.ok⟩
theorem WkS.sepNew {T : (Nat → Bool) → Nat → Bool} {bl : List (Nat × Obj)} {mb sb L : Nat} {N : List Dn} {G : Nat → Prop} {kn : Nat → Option Nat} {w : World} (h : WkS T bl mb sb L N G kn w) {G' : Nat → Prop} (hn : ∀ q, G' q → G q ∨ w.heap.size ≤ q) : (∀ p ∈ bl, ¬ G' p.1 ∧ p.1 ≠ mb) ∧ ¬ G' mb :=
  ⟨fun p hp => ⟨fun hq => (hn _ hq).elim (h.sep p hp).1 (fun hs => by have := lt_of_heap (h.bx p hp); omega), (h.sep p hp).2⟩, fun hq => (hn _ hq).elim h.ms (fun hs => by have := h.mp.lt; omega)⟩
/-- Behind an operation of the store. -/
theorem WkS.op {T : (Nat → Bool) → Nat → Bool} {bl : List (Nat × Obj)} {mb sb L : Nat} {N N' : List Dn} {G G' : Nat → Prop} {kn : Nat → Option Nat} {w w' : World} {k b l : Nat} {S : Nat → Bool} (h : WkS T bl mb sb L N G kn w) (hp : DgPost L N N' k b l S) (hd : Dg w' sb L N' G') (hk : Keeps G w w') (hn : ∀ q, G' q → G q ∨ w.heap.size ≤ q) : WkS T bl mb sb L N' G' kn w' :=
  ⟨fun p hp => hk.heap (h.bx p hp) (h.sep p hp).1, (h.sepNew hn).1, h.mp.keeps hk h.ms, (h.sepNew hn).2, hd, h.ok.le h.dg.ok hp.le⟩
/-- Behind a store into the map. -/
theorem WkS.put {T : (Nat → Bool) → Nat → Bool} {bl : List (Nat × Obj)} {mb sb L : Nat} {N : List Dn} {G : Nat → Prop} {kn : Nat → Option Nat} {w w' : World} {k x : Nat} (h : WkS T bl mb sb L N G kn w) (hm : NMap w' mb natV (putP kn k x)) (hk : Keeps (fun j => j = mb) w w') (h1 : k < N.length + 2) (h2 : x < N.length + 2) (h3 : lev L N k ≤ lev L N x) (h4 : ∀ m, dv N x m = T (dv N k) m) : WkS T bl mb sb L N G (putP kn k x) w' :=
  ⟨fun p hp => hk.heap (h.bx p hp) (h.sep p hp).2, h.sep, hm, h.ms, h.dg.keeps hk (fun q e hq => h.ms (by rw [← (e : q = mb)]; exact hq)), fun k' x' hx => by
    by_cases he : k' = k
    · subst he
      rw [putP_same] at hx; cases hx
      exact ⟨h1, h2, h3, h4⟩
    · rw [putP_other _ _ he] at hx
      exact h.ok k' x' hx⟩
/-- A node out of what two walks found. -/
theorem node_step {L : Nat} {N N1 N2 N3 : List Dn} {l k1 k2 k : Nat} {S S1 S2 : Nat → Bool} (p1 : DgPost L N N1 k1 (lowB L (l + 1)) (l + 1) S1) (p2 : DgPost L N1 N2 k2 (lowB L (l + 1)) (l + 1) S2) (p3 : DgPost L N2 N3 k (nb l) l (fun m => dv N2 (if m.testBit l then k2 else k1) m)) (hS : ∀ m, S m = if m.testBit l then S2 m else S1 m) (hl : l < L) :
    DgPost L N N3 k (lowB L l) l S := by
  refine ⟨(p1.le.trans p2.le).trans p3.le, p3.ok, p3.lt, fun m => ?_, p3.lev, ?_⟩
  · rw [p3.val, hS]
    cases hm : m.testBit l with
    | true => simp only [if_true]; rw [p2.val]
    | false => simp only [Bool.false_eq_true, if_false]; rw [p2.le.dv p1.ok p1.lt, p1.val]
  · have h1 := p1.cnt; have h2 := p2.cnt; have h3 := p3.cnt; have := lowB_step hl; omega
/-- What a new node may lean on. -/
theorem node_need {L : Nat} {N N1 N2 : List Dn} {l k1 k2 : Nat} {S1 S2 : Nat → Bool} (p1 : DgPost L N N1 k1 (lowB L (l + 1)) (l + 1) S1) (p2 : DgPost L N1 N2 k2 (lowB L (l + 1)) (l + 1) S2) (hbig : low N + lowB L l ≤ 5800000000000) (hl : l < L) :
    k1 < N2.length + 2 ∧ k2 < N2.length + 2 ∧ l < lev L N2 k1 ∧ l < lev L N2 k2 ∧ low N2 ≤ 5800000000000 := by
  have h1 := p1.cnt; have h2 := p2.cnt; have h3 := lowB_step hl; have h4 := p1.lev; have h5 := p2.lev; have h6 := p1.lt; have h7 := p2.le.len
  exact ⟨by omega, p2.lt, by rw [p2.le.lev p1.lt]; omega, by omega, by omega⟩

/-- The frame of a walk: two walks, a new node, a store into the map. -/
theorem wk_chain {G G1 G2 G3 : Nat → Prop} {mb : Nat} {w wa w5 w6 w7 w8 : World} (h0 : Keeps (fun _ => False) w wa) (h1 : Keeps (fun q => G q ∨ q = mb) wa w5) (n1 : ∀ q, G1 q → G q ∨ wa.heap.size ≤ q) (h2 : Keeps (fun q => G1 q ∨ q = mb) w5 w6) (n2 : ∀ q, G2 q → G1 q ∨ w5.heap.size ≤ q) (h3 : Keeps G2 w6 w7) (n3 : ∀ q, G3 q → G2 q ∨ w6.heap.size ≤ q) (h4 : Keeps (fun q => q = mb) w7 w8) :
    Keeps (fun q => G q ∨ q = mb) w w8 ∧ ∀ q, G3 q → G q ∨ w.heap.size ≤ q := by
  have hA : Keeps (fun q => G q ∨ q = mb) w w5 := (h0.mono (fun _ _ h => h.elim)).trans' h1 (fun i hi => .inl hi)
  have nA : ∀ q, G1 q → G q ∨ w.heap.size ≤ q := fun q h => (n1 q h).imp (fun h => h) (fun h => Nat.le_trans h0.size h)
  have hB : Keeps (fun q => G q ∨ q = mb) w w6 := hA.trans' h2 (fun i hi => hi.elim (fun h => (nA i h).imp .inl (fun h => h)) (fun h => .inl (.inr h)))
  have nB := news nA n2 hA.size
  have hC : Keeps (fun q => G q ∨ q = mb) w w7 := hB.trans' h3 (fun i h => (nB i h).imp .inl (fun h => h))
  exact ⟨hC.trans' h4 (fun i h => .inl (.inr h)), news nB n3 hB.size⟩
/-- The state behind a walk that made a node. -/
theorem WkS.made {T : (Nat → Bool) → Nat → Bool} {bl : List (Nat × Obj)} {mb sb L : Nat} {N N3 : List Dn} {G3 : Nat → Prop} {kn : Nat → Option Nat} {w w' : World} {k x l : Nat} (h : WkS T bl mb sb L N3 G3 kn w) (hm : NMap w' mb natV (putP kn k x)) (hk : Keeps (fun j => j = mb) w w') (ok : DgOk L N) (hkl : k < N.length + 2) (hl : lev L N k = l) (hp : DgPost L N N3 x (lowB L l) l (T (dv N k))) : WkS T bl mb sb L N3 G3 (putP kn k x) w' :=
  h.put hm hk (by have := hp.le.len; omega) hp.lt (by rw [hp.le.lev hkl, hl]; exact hp.lev) (fun m => by
    have e : dv N3 k = dv N k := funext fun m => hp.le.dv ok hkl m
    rw [hp.val, e])

end Go.Proofs.YtjcgkmodmjckjaaGreat
