/- space.Of: the words of a task. The reference's ReachedFrom: the breadth-first list of states. (*space.Words).Start, Goal, Steps, and the iterator that Steps returns. The tree of a breadth-first search and the least of the shortest plans. Nothing here speaks of one program. The plain law of the reference's arcs, steps to go and shortest ways. Nothing here speaks of one program. Slices of slices, slices of arcs; the reference's Place, Goals, StateOk, Reached, Explored. The reference's Arcs. The reference's ToGo. No condition beyond what each theorem says. -/
import Derived.Test.YtjcgkmodmjckjaaGreatP2
import Derived.Test.YtjcgkmodmjckjaaGreatP3
import Derived.Test.YtjcgkmodmjckjaaGreatP1
import Derived.RangeFuncNested
import Derived.RangeFuncBound
import Derived.RangeFuncCalls
import Derived.RangeFuncLeaves
import Derived.Shelf.Abstract
import Derived.Shelf.RegionOpen
import Derived.OwnWalkIn
import Derived.TacticsInMore
import Derived.LoopNIn
import Derived.LoopIn
import Derived.IntWalk

namespace Go.Proofs.YtjcgkmodmjckjaaGreat
open Go.RowKit

theorem Tryz.info_mask : (Tryz.prog.info? 160).map (fun i => (i.zero, i.size, i.bytes)) = some (some (.agg #[.int .u32 0, .int .u32 0, .int .u32 0, .int .i64 0]), 4, 24) := by kernel_rfl

def wopCells (ops : List Wop) : List Value := ops.flatMap fun o => [.int .u32 (o.pre : Int), .int .u32 (o.add : Int), .int .u32 (o.del : Int), .int .i64 o.cost]
def wordsOf (ops : List Opr) : List Wop := ops.map Opr.word

theorem wopCells_append (a b : List Wop) : wopCells (a ++ b) = wopCells a ++ wopCells b := by unfold wopCells; exact List.flatMap_append

theorem word_still {w : World} {v : Value} {l : List Int} (h : Ints w v l) (hl : ∀ x ∈ l, 0 ≤ x ∧ x < 32) :
    Calls Tryz.prog 26 #[v] w fun e w' => e = .returned (.int .u32 (wd l : Nat)) ∧ w' = w :=
  (word_any w v l h hl).mono fun _ _ ⟨he, hw⟩ => ⟨he, hw.symm⟩

theorem set_bound {l : List Int} {n : Int} (h : isSetB l n = true) (hn : n ≤ 24) : ∀ x ∈ l, 0 ≤ x ∧ x < 32 := fun x hx => by have := (isSet_iff.1 h).1 x hx; omega

/-- A block that holds the words of a task. -/
structure WordsAt (w : World) (base b : Nat) (s g : Nat) (v : Value) (ops : List Wop) : Prop where
  blk : w.heap[b]? = some (.cells #[.int .u32 (s : Int), .int .u32 (g : Int), v] 158 (0, 0))
  own : w.ownsRow base 160 4 v ops.length (wopCells ops)
  low : base ≤ b
  ne : v.ownBlock ≠ some b

set_option maxHeartbeats 1000000 in
theorem grown_cell {w4 w5 : World} {o : Obj} {row : Option Nat} (hg : ((w4.alloc o).drew).grownBy w5 row) {b j : Nat} {x : Value} (h : w4.cell? ⟨b, j, none⟩ = some x) (hne : row ≠ some b) : w5.cell? ⟨b, j, none⟩ = some x :=
  hg.cell (a := ⟨b, j, none⟩) (((Keeps.refl (fun _ => False) w4).alloc o).drew.cell h (fun h => h)) (fun e => hne e.symm)
theorem grown_heap {w4 w5 : World} {o o' : Obj} {row : Option Nat} (hg : ((w4.alloc o).drew).grownBy w5 row) {b : Nat} (h : w4.heap[b]? = some o') (hne : row ≠ some b) : w5.heap[b]? = some o' := by
  have h1 := (((Keeps.refl (fun _ => False) w4).alloc o).drew).heap h (fun h => h)
  exact (hg.block b (lt_of_heap h1) (fun e => hne e.symm)).trans h1

theorem ownsRow_mono4 {w : World} {base base' : Nat} {e : TypeId} {size : Nat} {v : Value} {n : Nat} {xs : List Value} (h : w.ownsRow base e size v n xs) (hb : base' ≤ base) : w.ownsRow base' e size v n xs := ownsRow_mono h hb

theorem WordsAt.keeps0 {w w' : World} {base b s g : Nat} {v : Value} {ops : List Wop} (h : WordsAt w base b s g v ops) (hk : Keeps (fun _ => False) w w') : WordsAt w' base b s g v ops :=
  ⟨hk.heap h.blk (fun h => h), hk.ownsRow h.own (fun _ _ h => h), h.low, h.ne⟩

theorem WordsAt.push {w4 w5 : World} {base bb s g n cap gg : Nat} {v : Value} {ops : List Wop} {o : Obj} {p : Wop} (h : WordsAt w4 base bb s g v ops) (hg : ((w4.alloc o).drew).grownBy w5 v.ownBlock) (hn : n = ops.length + 1)
    (hown : w5.ownsRow base 160 4 (.slice (some ⟨gg, 0, none⟩) n cap) n (wopCells ops ++ [.int .u32 (p.pre : Int), .int .u32 (p.add : Int), .int .u32 (p.del : Int), .int .i64 p.cost])) (hat : v.ownBlock = some gg ∨ gg = w4.heap.size + 1) :
    WordsAt (w5.setCell ⟨bb, 2, none⟩ (.slice (some ⟨gg, 0, none⟩) n cap)) base bb s g (.slice (some ⟨gg, 0, none⟩) n cap) (ops ++ [p]) := by
  have hb := grown_heap (w4 := w4) hg h.blk h.ne
  have hne : gg ≠ bb := by
    rcases hat with e | e
    · intro e'; exact h.ne (by rw [e, e'])
    · have := lt_of_heap h.blk; omega
  refine ⟨by rw [blk_set_same hb]; rfl, ?_, h.low, by simpa [Value.ownBlock] using hne⟩
  have hk : Keeps (fun b => b = bb) w5 (w5.setCell ⟨bb, 2, none⟩ (.slice (some ⟨gg, 0, none⟩) n cap)) := (Keeps.refl (fun b => b = bb) w5).setCell (p := ⟨bb, 2, none⟩) (.inl rfl) _
  have h2 : w5.ownsRow base 160 4 (.slice (some ⟨gg, 0, none⟩) n cap) (ops ++ [p]).length (wopCells (ops ++ [p])) := by
    rw [wopCells_append, List.length_append, show ops.length + [p].length = n by simp [hn]]; exact hown
  exact hk.ownsRow h2 (fun k hk e => by simp [Value.ownBlock] at hk; omega)

theorem WordsAt.pushKeeps {w2 w4 w5 : World} {bb s g : Nat} {v : Value} {ops : List Wop} {o : Obj} (h : WordsAt w4 bb bb s g v ops) (hg : ((w4.alloc o).drew).grownBy w5 v.ownBlock) (hb : w2.heap.size = bb) (hk : Keeps (fun _ => False) w2 w4) (u : Value) : Keeps (fun _ => False) w2 (w5.setCell ⟨bb, 2, none⟩ u) := by
  have h1 : Keeps (fun b => v.ownBlock = some b) (w4.alloc o).drew w5 := (Keeps.refl _ _).grown hg (fun k hk => .inl hk)
  have h2 : Keeps (fun _ => False) w2 w5 := (hk.trans ((Keeps.refl _ w4).alloc o).drew).trans' h1 (fun b e => .inr (by have := (World.ownsRow.lt h.own b e).1; omega))
  exact h2.setCell (p := ⟨bb, 2, none⟩) (.inr (by simp only; omega)) u

set_option maxHeartbeats 4000000 in
set_option maxRecDepth 100000 in
theorem of_any (w : World) (vi vg vo : Value) (t : Tsk) (h : TaskAt w vi vg vo t) (ok : t.Ok) :
    Calls Tryz.prog 56 #[.agg #[.int .i64 t.n, vi, vg, vo]] w fun e w' => ∃ b v, e = .returned (.pointer (some ⟨b, 0, none⟩)) ∧ WordsAt w' w.heap.size b (wd t.init) (wd t.goal) v (wordsOf t.ops) ∧ Keeps (fun _ => False) w w' := by
  obtain ⟨ai, ci, h1, _⟩ := h.init.form
  obtain ⟨ag, cg, h2, _⟩ := h.goal.form
  obtain ⟨ao, co, h3, hmo⟩ := h.ops.form
  subst h1 h2 h3
  have K1 := (Keeps.refl (fun _ => False) w).alloc (.cells #[.int .i64 t.n, .slice ai t.init.length ci, .slice ag t.goal.length cg, .slice ao t.ops.length co] 25)
  have HT := h.keeps0 K1
  have HB := Four.new w (.int .i64 t.n) (.slice ai t.init.length ci) (.slice ag t.goal.length cg) (.slice ao t.ops.length co) 25
  replace HT := Lib.hid HT; replace HB := Lib.hid HB; have OK := Lib.hid ok; have K1 := Lib.hid K1
  clear h ok
  go_enter Tryz.func56, Tryz.ntmps56
  go_upto_region 1 with fail
  generalize (w.alloc (.cells #[.int .i64 t.n, .slice ai t.init.length ci, .slice ag t.goal.length cg, .slice ao t.ops.length co] 25)) = w1 at HT HB K1 ⊢
  obtain ⟨d0, d1, d2, d3⟩ := HB.out
  have hbx := HB.out.lt
  have BI := Lib.hid (set_bound OK.out.init OK.out.n1); have BG := Lib.hid (set_bound OK.out.goal OK.out.n1)
  go_still_tail 7, (by kernel_rfl)
  still_call (word_still (HT.out.init.keeps0 ((Keeps.refl _ _).drew)) BI.out)
  repeat still_step
  still_call (word_still (HT.out.goal.keeps0 ((Keeps.refl _ _).drew)) BG.out)
  repeat still_step
  refine wpStill_nil ?_
  change wpList _ _ _ _ _ w1.drew
  have K2 := Lib.hid (K1.out.drew)
  have HT2 := Lib.hid (HT.out.keeps0 ((Keeps.refl _ _).drew))
  have HB2 := Lib.hid (HB.out.keeps0 ((Keeps.refl _ _).drew))
  generalize w1.drew = w2 at K2 HT2 HB2 ⊢
  clear d0 d1 d2 d3 hbx
  obtain ⟨d0, d1, d2, d3⟩ := HB2.out
  have hbx := HB2.out.lt
  obtain ⟨i0, hi0, hz0, hz1, hz2⟩ := info_parts Tryz.info_mask
  have HC := Lib.hid (HT2.out.ops.cell rfl)
  go_wp2_with fail
  obtain ⟨bb, hbb⟩ : ∃ bb, w2.heap.size = bb := ⟨_, rfl⟩
  have HS : Hid (WordsAt (w2.alloc (.cells #[.int .u32 ((wd t.init : Nat) : Int), .int .u32 ((wd t.goal : Nat) : Int), .slice none 0 0] 158)) bb bb (wd t.init) (wd t.goal) (.slice none 0 0) (wordsOf (t.ops.take 0)) ∧ Keeps (fun _ => False) w2 (w2.alloc (.cells #[.int .u32 ((wd t.init : Nat) : Int), .int .u32 ((wd t.goal : Nat) : Int), .slice none 0 0] 158))) :=
    ⟨⟨by rw [← hbb]; exact heap_alloc_new _ _, World.ownsRow_nil _ _ _ _, Nat.le_refl _, by simp [Value.ownBlock]⟩, (Keeps.refl _ _).alloc _⟩
  rw [hbb]
  have HBB := Lib.hid hbb
  clear hbb
  generalize (w2.alloc (.cells #[.int .u32 ((wd t.init : Nat) : Int), .int .u32 ((wd t.goal : Nat) : Int), .slice none 0 0] 158)) = w3 at HS ⊢
  go_loopw [17] (fun i wr => ∃ k : Nat, k ≤ t.ops.length ∧ i = .int .i64 (k : Int) ∧ (∃ v, WordsAt wr bb bb (wd t.init) (wd t.goal) v (wordsOf (t.ops.take k))) ∧ Keeps (fun _ => False) w2 wr) (fun i _ => t.ops.length - (intOf i).toNat)
  case atStart => exact ⟨0, Nat.zero_le _, rfl, ⟨_, HS.out.1⟩, HS.out.2⟩
  case round =>
    obtain ⟨k, hk, rfl, ⟨v, hw⟩, hkw⟩ := hrel
    have HW := Lib.hid hw; have KW := Lib.hid hkw
    clear hw hkw
    by_cases hlt : k < t.ops.length
    · obtain ⟨bo, oo, rfl, hcell⟩ := HC.out (by omega)
      obtain ⟨o, ho⟩ : ∃ o, t.ops[k]? = some o := ⟨_, List.getElem?_eq_getElem hlt⟩
      obtain ⟨va, vb, vc, p0, p1, p2, p3, i1, i2, i3⟩ := hcell k o ho
      have hom := OK.out.ops o (List.mem_of_getElem? ho)
      have U1 := Lib.hid (set_bound hom.pre OK.out.n1); have U2 := Lib.hid (set_bound hom.add OK.out.n1); have U3 := Lib.hid (set_bound hom.del OK.out.n1)
      have HTK := Lib.hid (take_getS ho)
      have q0 := KW.out.cell p0 (fun h => h)
      have q1 := KW.out.cell p1 (fun h => h)
      have q2 := KW.out.cell p2 (fun h => h)
      have q3 := KW.out.cell p3 (fun h => h)
      obtain ⟨a1, k1, f1, _⟩ := i1.form
      obtain ⟨a2, k2, f2, _⟩ := i2.form
      obtain ⟨a3, k3, f3, _⟩ := i3.form
      subst f1 f2 f3
      have K4 := (Keeps.refl (fun _ => False) wr).alloc (.cells #[.slice a1 o.pre.length k1, .slice a2 o.add.length k2, .slice a3 o.del.length k3, .int .i64 o.cost] 72)
      have HO4 := Four.new wr (.slice a1 o.pre.length k1) (.slice a2 o.add.length k2) (.slice a3 o.del.length k3) (.int .i64 o.cost) 72
      have I1 := Lib.hid (i1.keeps0 (KW.out.trans K4)); have I2 := Lib.hid (i2.keeps0 (KW.out.trans K4)); have I3 := Lib.hid (i3.keeps0 (KW.out.trans K4))
      clear hcell ho hom p0 p1 p2 p3 i1 i2 i3
      go_upto_region 5 with fail
      have KW4 := Lib.hid (KW.out.trans K4)
      have HO4' := Lib.hid HO4
      have HW4 := Lib.hid (HW.out.keeps0 K4)
      clear K4 HO4
      obtain ⟨b4, hb4⟩ : ∃ b4, wr.heap.size = b4 := ⟨_, rfl⟩
      rw [hb4] at HO4' ⊢
      have hv4 : v.ownBlock ≠ some b4 := fun e => by have := (World.ownsRow.lt HW.out.own b4 e).2; omega
      have hbb4 : b4 ≠ bb := by have := lt_of_heap HW.out.blk; omega
      have HNE := Lib.hid hbb4
      clear q0 q1 q2 q3 hb4 hbb4
      generalize (wr.alloc (.cells #[.slice a1 o.pre.length k1, .slice a2 o.add.length k2, .slice a3 o.del.length k3, .int .i64 o.cost] 72)) = w4 at KW4 HO4' HW4 I1 I2 I3 ⊢
      obtain ⟨c0, c1, c2, c3⟩ := HO4'.out
      have g2 : w4.cell? ⟨bb, 2, none⟩ = some v := by rw [cell_of_blk HW4.out.blk]; rfl
      have gz : w4.frozen? ⟨bb, 2, none⟩ = false := frozen_of_blk HW4.out.blk
      have gl := lt_of_heap HW4.out.blk
      have hg4 := HO4'.out.lt
      have hbb4 := HNE.out
      have J1 := Lib.hid (word_still (I1.out.keeps0 ((Keeps.refl _ _).drew)) U1.out)
      have J2 := Lib.hid (word_still (I2.out.keeps0 ((Keeps.refl _ _).drew)) U2.out)
      have J3 := Lib.hid (word_still (I3.out.keeps0 ((Keeps.refl _ _).drew)) U3.out)
      have hnb : (wordsOf (t.ops.take k)).length ≤ 40 := by unfold wordsOf; simp; have := OK.out.few; omega
      have hbase : bb ≤ w4.heap.size := by omega
      have e1 := World.new_ne w4 ⟨bb, 2, none⟩ g2
      refine wp_region_L (by kernel_rfl) (fun w' => w'.cell? ⟨bb, 2, none⟩ = some v ∧ w'.cell? ⟨b4, 0, none⟩ = some (.slice a1 o.pre.length k1) ∧ w'.cell? ⟨b4, 1, none⟩ = some (.slice a2 o.add.length k2) ∧ w'.cell? ⟨b4, 2, none⟩ = some (.slice a3 o.del.length k3) ∧ w'.cell? ⟨b4, 3, none⟩ = some (.int .i64 o.cost)) [0, 1, 2, 3, 4, 5, 6, 8, 9, 11, 12, 14, 15, 16] ?_
      have hS : w4.drew.cell? ⟨bb, 2, none⟩ = some v ∧ w4.drew.cell? ⟨b4, 0, none⟩ = some (.slice a1 o.pre.length k1) ∧ w4.drew.cell? ⟨b4, 1, none⟩ = some (.slice a2 o.add.length k2) ∧ w4.drew.cell? ⟨b4, 2, none⟩ = some (.slice a3 o.del.length k3) ∧ w4.drew.cell? ⟨b4, 3, none⟩ = some (.int .i64 o.cost) := ⟨g2, c0, c1, c2, c3⟩
      refine wpAnyL_take (i := 0) (v := ?_) rfl (by decide) (by kernel_rfl) (by kernel_rfl) (by kernel_rfl) (fun _ _ _ h => h) rfl ?_ hS ?_
      rotate_left
      · (intro w' hSw; obtain ⟨t0, t1, t2, t3, t4⟩ := hSw; go_simp; try with_reducible rfl)
      try simp only [Act.put, List.setIfInBounds_toArray]
      refine wpAnyL_take (i := 1) (v := ?_) rfl (by decide) (by kernel_rfl) (by kernel_rfl) (by kernel_rfl) (fun _ _ _ h => h) rfl ?_ hS ?_
      rotate_left
      · (intro w' hSw; obtain ⟨t0, t1, t2, t3, t4⟩ := hSw; go_simp; try with_reducible rfl)
      try simp only [Act.put]
      refine wpAnyL_take (i := 2) (v := ?_) rfl (by decide) (by kernel_rfl) (by kernel_rfl) (by kernel_rfl) (fun _ _ _ h => h) rfl ?_ hS ?_
      rotate_left
      · (intro w' hSw; obtain ⟨t0, t1, t2, t3, t4⟩ := hSw; go_simp; try with_reducible rfl)
      try simp only [Act.put]
      refine wpAnyL_take (i := 3) (v := ?_) rfl (by decide) (by kernel_rfl) (by kernel_rfl) (by kernel_rfl) (fun _ _ _ h => h) rfl ?_ hS ?_
      rotate_left
      · (intro w' hSw; obtain ⟨t0, t1, t2, t3, t4⟩ := hSw; go_simp; try with_reducible rfl)
      try simp only [Act.put]
      refine wpAnyL_take (i := 4) (v := ?_) rfl (by decide) (by kernel_rfl) (by kernel_rfl) (by kernel_rfl) (fun _ _ _ h => h) rfl ?_ hS ?_
      rotate_left
      · (intro w' hSw; obtain ⟨t0, t1, t2, t3, t4⟩ := hSw; go_simp; try with_reducible rfl)
      try simp only [Act.put]
      refine wpAnyL_take (i := 5) (v := ?_) rfl (by decide) (by kernel_rfl) (by kernel_rfl) (by kernel_rfl) (fun _ _ _ h => h) rfl ?_ hS ?_
      rotate_left
      · (intro w' hSw; obtain ⟨t0, t1, t2, t3, t4⟩ := hSw; go_simp; try with_reducible rfl)
      try simp only [Act.put]
      refine wpAnyL_take (i := 6) (v := ?_) rfl (by decide) (by kernel_rfl) (by kernel_rfl) (by kernel_rfl) (fun _ _ _ h => h) rfl ?_ hS ?_
      rotate_left
      · (intro w' hSw; obtain ⟨t0, t1, t2, t3, t4⟩ := hSw; go_simp; try with_reducible rfl)
      try simp only [Act.put]
      refine wpAnyL_take (i := 8) (v := ?_) rfl (by decide) (by kernel_rfl) (by kernel_rfl) (by kernel_rfl) (fun _ _ _ h => h) rfl ?_ hS ?_
      rotate_left
      · (intro w' hSw; obtain ⟨t0, t1, t2, t3, t4⟩ := hSw; go_simp; try with_reducible rfl)
      try simp only [Act.put]
      refine wpAnyL_take (i := 9) (v := ?_) rfl (by decide) (by kernel_rfl) (by kernel_rfl) (by kernel_rfl) (fun _ _ _ h => h) rfl ?_ hS ?_
      rotate_left
      · (intro w' hSw; obtain ⟨t0, t1, t2, t3, t4⟩ := hSw; go_simp; try with_reducible rfl)
      try simp only [Act.put]
      refine wpAnyL_take (i := 11) (v := ?_) rfl (by decide) (by kernel_rfl) (by kernel_rfl) (by kernel_rfl) (fun _ _ _ h => h) rfl ?_ hS ?_
      rotate_left
      · (intro w' hSw; obtain ⟨t0, t1, t2, t3, t4⟩ := hSw; go_simp; try with_reducible rfl)
      try simp only [Act.put]
      refine wpAnyL_take (i := 12) (v := ?_) rfl (by decide) (by kernel_rfl) (by kernel_rfl) (by kernel_rfl) (fun _ _ _ h => h) rfl ?_ hS ?_
      rotate_left
      · (intro w' hSw; obtain ⟨t0, t1, t2, t3, t4⟩ := hSw; go_simp; try with_reducible rfl)
      try simp only [Act.put]
      refine wpAnyL_take (i := 14) (v := ?_) rfl (by decide) (by kernel_rfl) (by kernel_rfl) (by kernel_rfl) (fun _ _ _ h => h) rfl ?_ hS ?_
      rotate_left
      · (intro w' hSw; obtain ⟨t0, t1, t2, t3, t4⟩ := hSw; go_simp; try with_reducible rfl)
      try simp only [Act.put]
      refine wpAnyL_take (i := 15) (v := ?_) rfl (by decide) (by kernel_rfl) (by kernel_rfl) (by kernel_rfl) (fun _ _ _ h => h) rfl ?_ hS ?_
      rotate_left
      · (intro w' hSw; obtain ⟨t0, t1, t2, t3, t4⟩ := hSw; go_simp; try with_reducible rfl)
      try simp only [Act.put]
      refine wpAnyL_one (i := 7) rfl (by kernel_rfl) (fun K hK => ?_)
      go_simp
      refine J1.out.mono ?_; rintro e w' ⟨rfl, rfl⟩
      refine hK _ _ hS ?_
      clear hK K
      try simp only [Act.put, List.setIfInBounds_toArray, List.set_cons_zero, List.set_cons_succ]
      refine wpAnyL_one (i := 10) rfl (by kernel_rfl) (fun K hK => ?_)
      go_simp
      refine J2.out.mono ?_; rintro e w' ⟨rfl, rfl⟩
      refine hK _ _ hS ?_
      clear hK K
      try simp only [Act.put, List.setIfInBounds_toArray, List.set_cons_zero, List.set_cons_succ]
      refine wpAnyL_one (i := 13) rfl (by kernel_rfl) (fun K hK => ?_)
      go_simp
      refine J3.out.mono ?_; rintro e w' ⟨rfl, rfl⟩
      refine hK _ _ hS ?_
      clear hK K
      try simp only [Act.put, List.setIfInBounds_toArray, List.set_cons_zero, List.set_cons_succ]
      refine wpAnyL_take (i := 16) (v := ?_) rfl (by decide) (by kernel_rfl) (by kernel_rfl) (by kernel_rfl) (fun _ _ _ h => h) rfl ?_ hS ?_
      rotate_left
      · (intro w' hSw; obtain ⟨t0, t1, t2, t3, t4⟩ := hSw; go_simp; try with_reducible rfl)
      try simp only [Act.put, List.setIfInBounds_toArray]
      refine wpAnyL_one (i := 17) rfl (by kernel_rfl) (fun K hK => ?_)
      go_simp
      refine hK _ _ ?_ ?_
      · obtain ⟨t0, t1, t2, t3, t4⟩ := hS
        have kk := (Keeps.refl (fun _ => False) w4.drew).alloc (.cells #[.int .u32 ((wd o.pre : Nat) : Int), .int .u32 ((wd o.add : Nat) : Int), .int .u32 ((wd o.del : Nat) : Int), .int .i64 o.cost] 160)
        exact ⟨kk.cell t0 (fun h => h), kk.cell t1 (fun h => h), kk.cell t2 (fun h => h), kk.cell t3 (fun h => h), kk.cell t4 (fun h => h)⟩
      clear hK K hS
      try simp only [Act.put, List.setIfInBounds_toArray, List.set_cons_zero, List.set_cons_succ]
      refine wpAnyL_one (i := 18) rfl (by kernel_rfl) (fun K hK => ?_)
      refine step_append_lies _ (by rfl) (.tmp 25) (.tmp 38) 156 (by rfl) bb 160 i0 _ 4 24 Tryz.underlying156 hi0 hz0 hz1 hz2 rfl (by omega) v (wordsOf (t.ops.take k)).length (wopCells (wordsOf (t.ops.take k))) (by rfl) ((HW4.out.own.drew).alloc _) ⟨w4.heap.size, 0, none⟩ 1 1 [.int .u32 ((wd o.pre : Nat) : Int), .int .u32 ((wd o.add : Nat) : Int), .int .u32 ((wd o.del : Nat) : Int), .int .i64 o.cost] (by rfl) (by rfl) (World.news_of_block (cs := #[.int .u32 ((wd o.pre : Nat) : Int), .int .u32 ((wd o.add : Nat) : Int), .int .u32 ((wd o.del : Nat) : Int), .int .i64 o.cost]) (t := 160) (fr := (0, 0)) (heap_alloc_new w4.drew _)) (by simp [Value.oneCell']) (by omega) (by unfold maxLen; omega) (by omega) (by simp; omega) (w4.heap.size + 1) (by simp) ?_
      intro g cap w5 hown hgrow hat hlt5
      have s0 := grown_cell (w4 := w4) hgrow g2 HW4.out.ne
      have s1 := grown_cell (w4 := w4) hgrow c0 hv4
      have s2 := grown_cell (w4 := w4) hgrow c1 hv4
      have s3 := grown_cell (w4 := w4) hgrow c2 hv4
      have s4 := grown_cell (w4 := w4) hgrow c3 hv4
      have sb := Lib.hid (grown_heap (w4 := w4) hgrow HW4.out.blk HW4.out.ne)
      have sz := frozen_of_blk (o := 2) sb.out
      have sl := lt_of_heap sb.out
      refine hK _ _ ⟨s0, s1, s2, s3, s4⟩ ?_
      clear hK K s1 s2 s3 s4
      try simp only [Act.put, List.setIfInBounds_toArray]
      refine wpAnyL_late (i := 19) rfl (by kernel_rfl) (by kernel_rfl) (fun K hK => ?_)
      go_simp
      refine hK _ _ ?_
      clear hK K
      refine wpAnyL_late (i := 20) rfl (by kernel_rfl) (by kernel_rfl) (fun K hK => ?_)
      go_simp
      refine hK _ _ ?_
      clear hK K
      refine wpAnyL_late (i := 21) rfl (by kernel_rfl) (by kernel_rfl) (fun K hK => ?_)
      go_simp
      refine hK _ _ ?_
      clear hK K
      refine wpAnyL_done (by kernel_rfl) ?_ _
      have HN := Lib.hid (show WordsAt (w5.setCell ⟨bb, 2, none⟩ (.slice (some ⟨g, 0, none⟩) ((wordsOf (t.ops.take k)).length + 1) cap)) bb bb (wd t.init) (wd t.goal) (.slice (some ⟨g, 0, none⟩) ((wordsOf (t.ops.take k)).length + 1) cap) (wordsOf (t.ops.take (k + 1))) by
        have e : wordsOf (t.ops.take (k + 1)) = wordsOf (t.ops.take k) ++ [o.word] := by rw [HTK.out]; unfold wordsOf; simp
        rw [e]
        exact WordsAt.push (w4 := w4) (p := o.word) HW4.out hgrow rfl hown hat)
      have HKN := Lib.hid (WordsAt.pushKeeps (w4 := w4) HW4.out hgrow HBB.out KW4.out (.slice (some ⟨g, 0, none⟩) ((wordsOf (t.ops.take k)).length + 1) cap))
      clear hown hgrow hat s0 sz sl
      generalize (w5.setCell ⟨bb, 2, none⟩ (.slice (some ⟨g, 0, none⟩) ((wordsOf (t.ops.take k)).length + 1) cap)) = w6 at HN HKN ⊢
      go_wp2_with fail
      go_roundw
      case rel => exact ⟨k + 1, by omega, by go_num, ⟨_, HN.out⟩, HKN.out⟩
      case measure => simp [intOf]; omega
    · obtain rfl : k = t.ops.length := by omega
      have hf := HW.out
      rw [List.take_length] at hf
      have HFIN := Lib.hid (show WordsAt wr w.heap.size bb (wd t.init) (wd t.goal) v (wordsOf t.ops) from ⟨hf.blk, ownsRow_mono4 hf.own (by have := K2.out.size; have := HBB.out; omega), by have := K2.out.size; have := HBB.out; omega, hf.ne⟩)
      clear hf
      go_wp2_with fail
      go_ret
      exact ⟨bb, v, rfl, HFIN.out, K2.out.trans KW.out⟩

end Go.Proofs.YtjcgkmodmjckjaaGreat

namespace Go.Proofs.YtjcgkmodmjckjaaGreat
open Go.RowKit

theorem Tryz.info22 : (Tryz.prog.info? 22).map (fun i => (i.zero, i.size, i.bytes)) = some (some (.slice none 0 0), 1, 24) := by kernel_rfl

theorem Ints.keepsS {S : Nat → Prop} {w w' : World} {v : Value} {l : List Int} (h : Ints w v l) (hk : Keeps S w w') (hs : 0 < l.length → ∀ k, v.ownBlock = some k → ¬ S k) : Ints w' v l := by
  obtain ⟨ao, cap, hv, hm, h⟩ := h
  refine ⟨ao, cap, hv, hm, fun hn => ?_⟩
  obtain ⟨b, off, ha, hc⟩ := h hn
  exact ⟨b, off, ha, fun j x hj => hk.cell (hc j x hj) (hs hn b (by rw [hv, ha]; rfl))⟩
theorem Ints.lt {w : World} {v : Value} {l : List Int} (h : Ints w v l) (h0 : 0 < l.length) (k : Nat) (hk : v.ownBlock = some k) : k < w.heap.size := by
  obtain ⟨ao, cap, hv, hm, h⟩ := h
  obtain ⟨b, off, ha, hc⟩ := h h0
  rw [hv, ha] at hk
  simp [Value.ownBlock] at hk
  subst hk
  have := World.block_lt_of_cell? w _ (hc 0 _ (by rw [List.getElem?_map, List.getElem?_eq_getElem h0]; rfl))
  simpa using this

/-- The rows of ReachedFrom: the states and their words. -/
structure Rows (W : World) (base : Nat) (v vw : Value) (L : List Nat) (vs : List Value) : Prop where
  out : W.ownsRow base 22 1 v L.length vs
  words : W.ownsRow base 3 1 vw L.length (L.map fun x : Nat => Value.int .i64 (x : Int))
  st : ∀ (i : Nat) (x : Nat), L[i]? = some x → ∃ u, vs[i]? = some u ∧ Ints W u (facts x) ∧ (0 < (facts x).length → ∀ k, u.ownBlock = some k → v.ownBlock ≠ some k ∧ vw.ownBlock ≠ some k)

theorem Rows.apart {W : World} {base : Nat} {v vw : Value} {L : List Nat} {vs : List Value} (h : Rows W base v vw L vs) (k : Nat) (hk : v.ownBlock = some k) : vw.ownBlock ≠ some k := by
  intro e
  rcases h.out.2 with ⟨rfl, _⟩ | ⟨g, cap, cur, rfl, _, hg, _⟩
  · simp [Value.ownBlock] at hk
  · rcases h.words.2 with ⟨rfl, _⟩ | ⟨g', cap', cur', rfl, _, hg', _⟩
    · simp [Value.ownBlock] at e
    · simp [Value.ownBlock] at hk e
      subst hk; subst e
      rw [hg] at hg'; simp at hg'

theorem Rows.keeps0 {W W' : World} {base : Nat} {v vw : Value} {L : List Nat} {vs : List Value} (h : Rows W base v vw L vs) (hk : Keeps (fun _ => False) W W') : Rows W' base v vw L vs :=
  ⟨hk.ownsRow h.out (fun _ _ h => h), hk.ownsRow h.words (fun _ _ h => h), fun i x hx => by
    obtain ⟨u, h1, h2, h3⟩ := h.st i x hx
    exact ⟨u, h1, h2.keeps0 hk, h3⟩⟩

/-- The rows with one state more. -/
theorem Rows.snoc {W7 W8 W9 : World} {base : Nat} {v vw vo' vw' vn : Value} {Q : List Nat} {vs : List Value} {y : Nat} (h : Rows W7 base v vw Q vs) (hn : Ints W7 vn (facts y))
    (hnb : ∀ k, vn.ownBlock = some k → v.ownBlock ≠ some k ∧ vw.ownBlock ≠ some k) (hnl : ∀ k, vn.ownBlock = some k → k < W7.heap.size)
    (K78 : Keeps (fun k => v.ownBlock = some k) W7 W8) (ho : W8.ownsRow base 22 1 vo' (Q.length + 1) (vs ++ [vn])) (hg : ∀ k, vo'.ownBlock = some k → v.ownBlock = some k ∨ W7.heap.size ≤ k)
    (K89 : Keeps (fun k => vw.ownBlock = some k) W8 W9) (hw : W9.ownsRow base 3 1 vw' (Q.length + 1) (Q.map (fun x : Nat => Value.int .i64 (x : Int)) ++ [.int .i64 (y : Int)])) (hg2 : ∀ k, vw'.ownBlock = some k → vw.ownBlock = some k ∨ W8.heap.size ≤ k) :
    Rows W9 base vo' vw' (Q ++ [y]) (vs ++ [vn]) := by
  have hlv : ∀ k, v.ownBlock = some k → k < W7.heap.size := fun k hk => (World.ownsRow.lt h.out k hk).2
  have hlw : ∀ k, vw.ownBlock = some k → k < W7.heap.size := fun k hk => (World.ownsRow.lt h.words k hk).2
  have hsz := K78.size
  refine ⟨?_, ?_, fun i x hx => ?_⟩
  · rw [List.length_append]
    refine K89.ownsRow ho (fun k hk e => ?_)
    rcases hg k hk with h1 | h1
    · exact h.apart k h1 e
    · have := hlw k e; omega
  · rw [List.length_append, List.map_append]; exact hw
  · by_cases hlt : i < Q.length
    · rw [List.getElem?_append_left hlt] at hx
      obtain ⟨u, h1, h2, h3⟩ := h.st i x hx
      have hlv2 : i < vs.length := (List.getElem?_eq_some_iff.1 h1).1
      refine ⟨u, by rw [List.getElem?_append_left hlv2]; exact h1, ?_, ?_⟩
      · exact (h2.keepsS K78 (fun h0 k hk e => (h3 h0 k hk).1 e)).keepsS K89 (fun h0 k hk e => (h3 h0 k hk).2 e)
      · intro h0 k hk
        have hl := Ints.lt h2 h0 k hk
        refine ⟨fun e => ?_, fun e => ?_⟩
        · rcases hg k e with h4 | h4
          · exact (h3 h0 k hk).1 h4
          · omega
        · rcases hg2 k e with h4 | h4
          · exact (h3 h0 k hk).2 h4
          · omega
    · have hvl : vs.length = Q.length := by simpa using h.out.1
      have hil := (List.getElem?_eq_some_iff.1 hx).1
      have hi : i = Q.length := by simp at hil; omega
      subst hi
      rw [List.getElem?_append_right (Nat.le_refl _)] at hx
      simp at hx; subst hx
      refine ⟨vn, by rw [← hvl, List.getElem?_append_right (Nat.le_refl _)]; simp, ?_, ?_⟩
      · exact (hn.keepsS K78 (fun _ k hk e => (hnb k hk).1 e)).keepsS K89 (fun _ k hk e => (hnb k hk).2 e)
      · intro h0 k hk
        have hl := hnl k hk
        refine ⟨fun e => ?_, fun e => ?_⟩
        · rcases hg k e with h4 | h4
          · exact (hnb k hk).1 h4
          · omega
        · rcases hg2 k e with h4 | h4
          · exact (hnb k hk).2 h4
          · omega

/-- A word is that of a set of facts below n. -/
def Good (n : Int) (x : Nat) : Prop := isSetB (facts x) n = true ∧ wd (facts x) = x

theorem good_wd {n : Int} (hn : n ≤ 32) {s : List Int} (hs : isSetB s n = true) : Good n (wd s) := by
  unfold Good
  rw [facts_wd (isSet_mono hs hn)]
  exact ⟨hs, rfl⟩
theorem good_next {n : Int} (hn : n ≤ 32) {o : Opr} (ho : o.Ok n) {x : Nat} (hx : Good n x) : appL o (facts x) = o.word.can x ∧ aftL n o (facts x) = facts (o.word.next x) ∧ Good n (o.word.next x) := by
  have h1 := appL_word ho hx.1
  have h2 := wd_aftL hn ho hx.1
  rw [hx.2] at h1 h2
  have h3 := isSet_aftL n o (facts x)
  refine ⟨h1, ?_, ?_⟩
  · rw [← h2, facts_wd (isSet_mono h3 hn)]
  · rw [← h2]; exact good_wd hn h3

theorem nexts_take {ops : List Wop} {j : Nat} {o : Wop} (h : ops[j]? = some o) (x : Nat) : nexts (ops.take (j + 1)) x = nexts (ops.take j) x ++ (if o.can x = true then [o.next x] else []) := by
  unfold nexts
  rw [take_getS h, List.filter_append, List.map_append]
  cases hc : o.can x <;> simp [hc]

theorem freshs_append (xs ys : List Nat) : ∀ seen, freshs seen (xs ++ ys) = freshs seen xs ++ freshs (seen ++ freshs seen xs) ys := by
  induction xs with
  | nil => intro seen; simp [freshs]
  | cons x r ih =>
    intro seen
    rw [List.cons_append, freshs, freshs]
    split
    · exact ih _
    · rw [ih]; simp

theorem nexts_split (ops : List Wop) (j x : Nat) : nexts ops x = nexts (ops.take j) x ++ nexts (ops.drop j) x := by
  unfold nexts
  rw [← List.map_append, ← List.filter_append, List.take_append_drop]

/-- What ReachedFrom hands back. -/
def FromPost (ops : List Wop) (s : Nat) (w : World) (e : Ending) (w' : World) : Prop := Keeps (fun _ => False) w w' ∧
  ((reached ops s = none ∧ e = .returned (.tuple #[.slice none 0 0, .bool false])) ∨
   (∃ l, reached ops s = some l ∧ ∃ v vw vs, e = .returned (.tuple #[v, .bool true]) ∧ Rows w' w.heap.size v vw l vs))

set_option maxRecDepth 100000 in
set_option maxHeartbeats 4000000 in
theorem reachedFrom_any (w : World) (vi vg vo va : Value) (t : Tsk) (s : List Int) (h : TaskAt w vi vg vo t) (ok : t.Ok) (hs : Ints w va s) (hset : isSetB s t.n = true) :
    Calls Tryz.prog 32 #[.agg #[.int .i64 t.n, vi, vg, vo], va] w (FromPost (wordsOf t.ops) (wd s) w) := by
  obtain ⟨i0, hi0, hz0, hz1, hz2⟩ := info_parts Tryz.info3
  obtain ⟨j0, hj0, jz0, jz1, jz2⟩ := info_parts Tryz.info22
  obtain ⟨ai, ci, h1, _⟩ := h.init.form
  obtain ⟨ag, cg, h2, _⟩ := h.goal.form
  obtain ⟨ao, co, h3, hmo⟩ := h.ops.form
  obtain ⟨aa, cs, h4, _⟩ := hs.form
  subst h1 h2 h3 h4
  have hn32 : t.n ≤ 32 := by have := ok.n1; omega
  have hs32 := isSet_mono hset hn32
  have HB := Lib.hid (Four.new w (.int .i64 t.n) (.slice ai t.init.length ci) (.slice ag t.goal.length cg) (.slice ao t.ops.length co) 25)
  have K1 := (Keeps.refl (fun _ => False) w).alloc (.cells #[.int .i64 t.n, .slice ai t.init.length ci, .slice ag t.goal.length cg, .slice ao t.ops.length co] 25)
  have HT := Lib.hid (h.keeps0 K1); have HSS := Lib.hid (show Ints _ (.slice aa s.length cs) s from hs.keeps0 K1)
  have HK := Lib.hid K1; have OK := Lib.hid ok; have SET := Lib.hid hset; have S32 := Lib.hid hs32
  clear h hs K1 ok hset hs32
  go_enter Tryz.func32, Tryz.ntmps32
  go_upto_region 1 with fail
  generalize (w.alloc (.cells #[.int .i64 t.n, .slice ai t.init.length ci, .slice ag t.goal.length cg, .slice ao t.ops.length co] 25)) = w1 at HB HT HSS HK ⊢
  have hbx := HB.out.lt
  have KA := (Keeps.refl (fun _ => False) w1).alloc (.cells #[.slice aa s.length cs] 22)
  have HB2 := Lib.hid (HB.out.keeps0 KA); have HT2 := Lib.hid (HT.out.keeps0 KA); have HS2 := Lib.hid (show Ints _ (.slice aa s.length cs) s from HSS.out.keeps0 KA)
  have HR2 := Lib.hid (heap_alloc_new w1 (.cells #[.slice aa s.length cs] 22))
  have HK2 := Lib.hid (HK.out.trans KA)
  clear KA
  go_wp2_with fail
  refine (rword_any _ _ s HS2.out S32.out).mono ?_; rintro e w2 ⟨rfl, rfl⟩
  go_wp2_with fail
  have hbx' := HB2.out.lt
  have HR3 := Lib.hid (show Rows ((w1.alloc (.cells #[.slice aa s.length cs] 22)).alloc (.cells #[.int .i64 ((wd s : Nat) : Int)] 3)) w1.heap.size (.slice (some ⟨w1.heap.size, 0, none⟩) 1 1) (.slice (some ⟨w1.heap.size + 1, 0, none⟩) 1 1) [wd s] [.slice aa s.length cs] by
    have n2 := heap_alloc_new (w1.alloc (.cells #[.slice aa s.length cs] 22)) (.cells #[.int .i64 ((wd s : Nat) : Int)] 3)
    rw [World.size_alloc] at n2
    have k2 := (Keeps.refl (fun _ => False) (w1.alloc (.cells #[.slice aa s.length cs] 22))).alloc (.cells #[.int .i64 ((wd s : Nat) : Int)] 3)
    refine ⟨⟨by simp, .inr ⟨w1.heap.size, 1, _, rfl, Nat.le_refl _, k2.heap HR2.out (fun h => h), by simp, by unfold maxLen; omega, by simp, by simp⟩⟩, ⟨by simp, .inr ⟨w1.heap.size + 1, 1, _, rfl, by omega, n2, by simp, by unfold maxLen; omega, by simp, by simp⟩⟩, fun i x hx => ?_⟩
    cases i with
    | zero =>
      simp at hx; subst hx
      refine ⟨_, rfl, ?_, fun h0 k hk => ?_⟩
      · rw [facts_wd S32.out]; exact HS2.out.keeps0 k2
      · rw [facts_wd S32.out] at h0
        have := Ints.lt HSS.out h0 k hk
        simp [Value.ownBlock]; omega
    | succ i => simp at hx)
  have HK3 := Lib.hid (show Keeps (fun _ => False) w1 ((w1.alloc (.cells #[.slice aa s.length cs] 22)).alloc (.cells #[.int .i64 ((wd s : Nat) : Int)] 3)) from ((Keeps.refl _ _).alloc _).alloc _)
  generalize ((w1.alloc (.cells #[.slice aa s.length cs] 22)).alloc (.cells #[.int .i64 ((wd s : Nat) : Int)] 3)) = w2 at HR3 HK3 ⊢
  clear HB2 HT2 HS2 HR2 HK2 hbx' hbx
  go_loopw [6, 7, 8] (fun v6 v7 i8 wr => ∃ (i : Nat) (L : List Nat) (vs : List Value), bfs (wordsOf t.ops) (wd s) i = some L ∧ i ≤ L.length ∧ (∀ x ∈ L, Good t.n x) ∧ i8 = .int .i64 (i : Int) ∧ Rows wr w1.heap.size v6 v7 L vs ∧ Keeps (fun _ => False) w1 wr) (fun _ _ i8 _ => 2001 - (intOf i8).toNat)
  case atStart => exact ⟨0, [wd s], _, rfl, by simp, by intro x hx; simp at hx; subst hx; exact good_wd (by have := OK.out.n1; omega) SET.out, rfl, HR3.out, HK3.out⟩
  case round =>
    obtain ⟨i, L, vs, hb, hil, hg, rfl, hr, hkw⟩ := hrel
    have hfew := (bfs_ok hb).few
    have HBF := Lib.hid hb; have HG := Lib.hid hg; have HR := Lib.hid hr; have KW := Lib.hid hkw
    have hbr := (HB.out.keeps0 hkw).lt
    obtain ⟨d0, d1, d2, d3⟩ := HB.out.keeps0 hkw
    obtain ⟨av, cv, hav⟩ := ownsRow_form1 hr.out
    obtain ⟨aw, cw, haw⟩ := ownsRow_form1 hr.words
    subst hav haw
    clear hb hg hr hkw
    by_cases hlt : i < L.length
    · obtain ⟨x, hx⟩ : ∃ x, L[i]? = some x := ⟨_, List.getElem?_eq_getElem hlt⟩
      have HX := Lib.hid hx
      clear hx
      have hx32 : Good t.n x := HG.out x (List.mem_of_getElem? HX.out)
      have HGX := Lib.hid hx32
      clear hx32
      go_upto_region 7 with fail
      go_loopw [6, 7, 9] (fun v6 v7 i9 wq => ∃ (j : Nat) (vs : List Value), j ≤ t.ops.length ∧ i9 = .int .i64 (j : Int) ∧ (L ++ freshs L (nexts ((wordsOf t.ops).take j) x)).length ≤ 2000 ∧ Rows wq w1.heap.size v6 v7 (L ++ freshs L (nexts ((wordsOf t.ops).take j) x)) vs ∧ Keeps (fun _ => False) w1 wq) (fun _ _ i9 _ => t.ops.length - (intOf i9).toNat)
      case atStart => exact ⟨0, vs, by omega, rfl, by simpa [nexts, freshs] using hfew, by simpa [nexts, freshs] using HR.out, KW.out⟩
      case round =>
        obtain ⟨j, vs2, hj, rfl, hfew2, hr2, hkq⟩ := hrel
        generalize hQ : L ++ freshs L (nexts ((wordsOf t.ops).take j) x) = Q at hfew2 hr2
        have HQ := Lib.hid hQ; have HR2 := Lib.hid hr2; have KQ := Lib.hid hkq
        have hbq := (HB.out.keeps0 hkq).lt
        obtain ⟨q0, q1, q2, q3⟩ := HB.out.keeps0 hkq
        obtain ⟨av2, cv2, hav2⟩ := ownsRow_form1 hr2.out
        obtain ⟨aw2, cw2, haw2⟩ := ownsRow_form1 hr2.words
        subst hav2 haw2
        clear hQ hr2 hkq d0 d1 d2 d3 hbr
        by_cases hjl : j < t.ops.length
        · obtain ⟨o, ho⟩ : ∃ o, t.ops[j]? = some o := ⟨_, List.getElem?_eq_getElem hjl⟩
          have HOO := Lib.hid ho
          have hok := OK.out.ops o (List.mem_of_getElem? ho)
          obtain ⟨hap, haf, hgn⟩ := good_next (by have := OK.out.n1; omega : t.n ≤ 32) hok HGX.out
          have HAP := Lib.hid hap; have HAF := Lib.hid haf; have HGN := Lib.hid hgn
          have hwo : (wordsOf t.ops)[j]? = some o.word := by unfold wordsOf; rw [List.getElem?_map, ho]; rfl
          have HNT := Lib.hid (nexts_take hwo x)
          clear ho hok hap haf hgn hwo
          have hQi : Q[i]? = some x := by rw [← HQ.out, List.getElem?_append_left hlt]; exact HX.out
          have hQl : i < Q.length := (List.getElem?_eq_some_iff.1 hQi).1
          obtain ⟨u, hu, hiu, hua⟩ := HR2.out.st i x hQi
          obtain ⟨gq, capq, hvq, hg1, hg2⟩ := HR2.out.out.form (by omega)
          simp only [Value.slice.injEq] at hvq
          obtain ⟨rfl, _, rfl⟩ := hvq
          have hcu : wr.cell? ⟨gq, i, none⟩ = some u := by
            have := World.ownsRow.cells HR2.out.out (g := gq) rfl i u hu
            have hadd : (⟨gq, 0, none⟩ : Addr).add i = ⟨gq, i, none⟩ := by unfold Addr.add; split <;> simp_all
            rwa [hadd] at this
          obtain ⟨au, cu, hfu, _⟩ := hiu.form
          have HIU := Lib.hid hiu; have HUA := Lib.hid hua; have HTQ := Lib.hid (HT.out.keeps0 KQ.out)
          subst hfu
          clear hQi hu hiu hua
          go_upto_region 9 with fail
          go_still_tail 6, (by kernel_rfl)
          change wpList _ _ _ _ _ wr.drew
          have KD := (Keeps.refl (fun _ => False) wr).drew
          have HTD := Lib.hid (HTQ.out.keeps0 KD); have HID := Lib.hid (show Ints wr.drew (.slice au (facts x).length cu) (facts x) from HIU.out.keeps0 KD)
          have HRD := Lib.hid (HR2.out.keeps0 KD); have KDD := Lib.hid (KQ.out.trans KD)
          have hcu2 := KD.cell hcu (fun h => h)
          clear KD hcu q0 q1 q2 q3 HTQ HIU HR2 KQ
          generalize wr.drew = w4 at HTD HID HRD KDD hcu2 ⊢
          go_wp2_with fail
          refine (applies_any _ _ _ _ _ t (facts x) j o HTD.out HID.out HOO.out).mono ?_; rintro e w5 ⟨rfl, hk5⟩
          rw [HAP.out]
          have HR5 := Lib.hid (HRD.out.keeps0 hk5); have HT5 := Lib.hid (HTD.out.keeps0 hk5); have HI5 := Lib.hid (show Ints w5 (.slice au (facts x).length cu) (facts x) from HID.out.keeps0 hk5); have K5 := Lib.hid (KDD.out.trans hk5)
          have hcu5 := hk5.cell hcu2 (fun h => h)
          clear hk5 HRD HTD HID KDD hcu2
          cases hcan : o.word.can x with
          | false =>
            have HSQ := Lib.hid (show L ++ freshs L (nexts ((wordsOf t.ops).take (j + 1)) x) = Q by rw [HNT.out, hcan]; simpa using HQ.out)
            clear hcan
            go_wp2_with fail
            go_roundw
            case rel => exact ⟨j + 1, vs2, by omega, by go_num, by rw [HSQ.out]; exact hfew2, by rw [HSQ.out]; exact HR5.out, K5.out⟩
            case measure => simp [intOf]; omega
          | true =>
            have HCAN := Lib.hid hcan
            clear hcan
            have hb5 := (HB.out.keeps0 K5.out).lt
            obtain ⟨q0, q1, q2, q3⟩ := HB.out.keeps0 K5.out
            go_upto_region 10 with fail
            go_still_tail 6, (by kernel_rfl)
            change wpList _ _ _ _ _ w5.drew
            have KD := (Keeps.refl (fun _ => False) w5).drew
            have HTD := Lib.hid (HT5.out.keeps0 KD); have HID := Lib.hid (show Ints w5.drew (.slice au (facts x).length cu) (facts x) from HI5.out.keeps0 KD)
            have hcu6 := KD.cell hcu5 (fun h => h)
            have HRD := Lib.hid (HR5.out.keeps0 KD); have KDD := Lib.hid (K5.out.trans KD)
            clear KD hcu5 q0 q1 q2 q3 HT5 HI5 HR5 K5 hb5
            generalize w5.drew = w6 at HTD HID HRD KDD hcu6 ⊢
            go_wp2_with fail
            refine (after_any _ _ _ _ _ t (facts x) j o HTD.out HID.out HOO.out OK.out.n0 (by have := OK.out.n1; omega)).mono ?_; rintro e w7 ⟨vn, rfl, hown7, hk7⟩
            rw [HAF.out] at hown7
            have HI7 := Lib.hid (show Ints w7 vn (facts (o.word.next x)) from Sl.of_own hown7 |> fun h => by simpa [Ints] using h)
            have HLO := Lib.hid (fun k hk => World.ownsRow.lt hown7 k hk)
            obtain ⟨an, cn, hvn⟩ := ownsRow_form1 hown7
            subst hvn
            have HR7 := Lib.hid (HRD.out.keeps0 hk7); have K7 := Lib.hid (KDD.out.trans hk7)
            have hs6 := hk7.size
            clear hown7 hk7 HTD HID KDD hcu6
            go_wp2_with fail
            refine (rword_any _ _ _ HI7.out (isSet_mono HGN.out.1 (by have := OK.out.n1; omega))).mono ?_; rintro e w8 ⟨rfl, rfl⟩
            rw [HGN.out.2]
            go_wp2_with fail
            have HW7 := Lib.hid (show Ints w7 (.slice aw2 Q.length cw2) (Q.map fun y : Nat => (y : Int)) by
              have h := Sl.of_own HR7.out.words
              unfold Ints
              rw [List.length_map, List.map_map]
              exact h)
            refine (has_any _ _ _ _ HW7.out).mono ?_; rintro e w8 ⟨rfl, rfl⟩
            have hsnoc := freshs_snoc (nexts ((wordsOf t.ops).take j) x) (o.word.next x) L
            rw [HQ.out] at hsnoc
            by_cases hmem : o.word.next x ∈ Q
            · have HD : Hid (decide (((o.word.next x : Nat) : Int) ∈ Q.map fun y : Nat => (y : Int)) = true) := by
                unfold Hid; rw [decide_eq_true_eq]; exact List.mem_map.2 ⟨_, hmem, rfl⟩
              have HSQ := Lib.hid (show L ++ freshs L (nexts ((wordsOf t.ops).take (j + 1)) x) = Q by
                rw [HNT.out, HCAN.out, if_pos rfl, hsnoc, if_pos hmem, List.append_nil]; exact HQ.out)
              rw [HD.out]
              clear hsnoc hmem
              go_wp2_with fail
              go_roundw
              case rel => exact ⟨j + 1, vs2, by omega, by go_num, by rw [HSQ.out]; exact hfew2, by rw [HSQ.out]; exact HR7.out, K7.out⟩
              case measure => simp [intOf]; omega
            · have HD : Hid (decide (((o.word.next x : Nat) : Int) ∈ Q.map fun y : Nat => (y : Int)) = false) := by
                unfold Hid; rw [decide_eq_false_iff_not]; intro h; obtain ⟨y, hy, e⟩ := List.mem_map.1 h; have : y = o.word.next x := by omega
                exact hmem (this ▸ hy)
              rw [HD.out]
              have hsn2 : L ++ freshs L (nexts ((wordsOf t.ops).take (j + 1)) x) = Q ++ [o.word.next x] := by
                rw [HNT.out, HCAN.out, if_pos rfl, hsnoc, if_neg hmem, ← List.append_assoc, HQ.out]
              by_cases h2000 : Q.length = 2000
              · have HNO := Lib.hid (show reached (wordsOf t.ops) (wd s) = none by
                  refine reached_of_none (i := i + 1) ?_ (by omega)
                  rw [bfs_step HBF.out HX.out, if_neg ?_]
                  rw [nexts_split (wordsOf t.ops) (j + 1) x, freshs_append, ← List.append_assoc, hsn2]
                  simp only [List.length_append, List.length_singleton]
                  omega)
                have hq : ((Q.length : Int) == 2000) = true := by rw [h2000]; rfl
                clear hsnoc hmem hsn2
                go_wp2_with fail
                refine bodyPost_ret (v := .tuple #[.slice none 0 0, .bool false]) (by simp [results, Tryz.results32, go_sem]) rfl ?_
                exact ⟨HK.out.trans K7.out, .inl ⟨HNO.out, rfl⟩⟩
              · have HSQ := Lib.hid hsn2
                have hq : ((Q.length : Int) == 2000) = false := by simp; omega
                have hq2 : Q.length < 2000 := by omega
                have hs7 := K7.out.size
                have HNB := Lib.hid (show ∀ k, (Value.slice an (facts (o.word.next x)).length cn).ownBlock = some k → (Value.slice (some ⟨gq, 0, none⟩) Q.length cv2).ownBlock ≠ some k ∧ (Value.slice aw2 Q.length cw2).ownBlock ≠ some k from fun k hk => by
                  have h1 := (HLO.out k hk).1
                  refine ⟨fun e => ?_, fun e => ?_⟩
                  · have := (World.ownsRow.lt HRD.out.out k e).2; omega
                  · have := (World.ownsRow.lt HRD.out.words k e).2; omega)
                clear hsnoc hmem hsn2 h2000
                go_wp2_with (at_builtin; refine wpList_append_d rfl _ _ _ rfl w1.heap.size 22 j0 _ 1 24 Tryz.underlying33 hj0 jz0 jz1 jz2 rfl (by omega) _ Q.length vs2 (by rfl) (World.ownsRow.alloc HR7.out.out (.cells #[.slice an (facts (o.word.next x)).length cn] 22)) ⟨w7.heap.size, 0, none⟩ 1 1 [.slice an (facts (o.word.next x)).length cn] (by rfl) (by rfl) ?hnews ?hone (by omega) (by unfold maxLen; omega) (by omega) (by simp; omega) (w7.heap.size + 1) (by simp) ?_)
                case hnews => exact World.news_of_block (cs := #[.slice an (facts (o.word.next x)).length cn]) (t := 22) (fr := (0, 0)) (heap_alloc_new _ _)
                case hone => simp [Value.oneCell']
                intro gg cap2 w8 hown hgrow hat hlt4 hd4
                have hk8 : Keeps (fun k => (Value.slice (some ⟨gq, 0, none⟩) Q.length cv2).ownBlock = some k) w7 w8 := ((Keeps.refl _ w7).alloc _).grown hgrow (fun k hk => .inl hk)
                have HOW := Lib.hid hown; have K78 := Lib.hid hk8
                have HG1 := Lib.hid (show ∀ k, (Value.slice (some ⟨gg, 0, none⟩) (Q.length + 1) cap2).ownBlock = some k → (Value.slice (some ⟨gq, 0, none⟩) Q.length cv2).ownBlock = some k ∨ w7.heap.size ≤ k from fun k hk => by
                  simp [Value.ownBlock] at hk
                  subst hk
                  rcases hat with h | h
                  · exact .inl h
                  · exact .inr (by omega))
                have HI8 := Lib.hid (HI7.out.keepsS hk8 (fun _ k hk e => (HNB.out k hk).1 e))
                have HW8 := Lib.hid (hk8.ownsRow HR7.out.words (fun k hk e => HR7.out.apart k e hk))
                have hs8 := hk8.size
                clear hown hgrow hat hd4 hk8
                go_wp2_with fail
                refine (rword_any _ _ _ HI8.out (isSet_mono HGN.out.1 (by have := OK.out.n1; omega))).mono ?_; rintro e w9 ⟨rfl, rfl⟩
                rw [HGN.out.2]
                go_wp2_with (at_builtin; refine wpList_append_d rfl _ _ _ rfl w1.heap.size 3 i0 _ 1 8 Tryz.underlying22 hi0 hz0 hz1 hz2 rfl (by omega) _ Q.length (Q.map fun x : Nat => Value.int .i64 (x : Int)) (by rfl) (World.ownsRow.alloc HW8.out (.cells #[.int .i64 ((o.word.next x : Nat) : Int)] 3)) ⟨w8.heap.size, 0, none⟩ 1 1 [.int .i64 ((o.word.next x : Nat) : Int)] (by rfl) (by rfl) ?hnews2 ?hone2 (by omega) (by unfold maxLen; omega) (by omega) (by simp; omega) (w8.heap.size + 1) (by simp) ?_)
                case hnews2 => exact World.news_of_block (cs := #[.int .i64 ((o.word.next x : Nat) : Int)]) (t := 3) (fr := (0, 0)) (heap_alloc_new _ _)
                case hone2 => simp [Value.oneCell']
                intro gw cap3 w9 hown hgrow hat hlt5 hd4
                have hk9 : Keeps (fun k => (Value.slice aw2 Q.length cw2).ownBlock = some k) w8 w9 := ((Keeps.refl _ w8).alloc _).grown hgrow (fun k hk => .inl hk)
                have HR9 := Lib.hid (HR7.out.snoc HI7.out HNB.out (fun k hk => (HLO.out k hk).2) K78.out HOW.out HG1.out hk9 hown (fun k hk => by
                  simp [Value.ownBlock] at hk
                  subst hk
                  rcases hat with h | h
                  · exact .inl h
                  · exact .inr (by omega)))
                have K9 := Lib.hid ((K7.out.trans' K78.out (fun k hk => .inr (World.ownsRow.lt HR7.out.out k hk).1)).trans' hk9 (fun k hk => .inr (World.ownsRow.lt HR7.out.words k hk).1))
                clear hown hgrow hat hd4 hk9
                go_wp2_with fail
                go_roundw
                case rel => exact ⟨j + 1, vs2 ++ [.slice an (facts (o.word.next x)).length cn], by omega, by go_num, by rw [HSQ.out, List.length_append, List.length_singleton]; omega, by rw [HSQ.out]; exact HR9.out, K9.out⟩
                case measure => simp [intOf]; omega
        · have HBN := Lib.hid (show bfs (wordsOf t.ops) (wd s) (i + 1) = some Q by
            have hje : (wordsOf t.ops).take j = wordsOf t.ops := List.take_of_length_le (by unfold wordsOf; rw [List.length_map]; omega)
            have hq := HQ.out
            rw [hje] at hq
            rw [bfs_step HBF.out HX.out, hq, if_pos hfew2])
          have HGQ := Lib.hid (show ∀ y ∈ Q, Good t.n y by
            intro y hy
            rw [← HQ.out] at hy
            rcases mem_freshs.1 hy with hy | hy
            · exact HG.out y hy
            · unfold nexts at hy
              obtain ⟨wo, hwo, rfl⟩ := List.mem_map.1 hy
              have hm := List.mem_of_mem_take (List.mem_filter.1 hwo).1
              unfold wordsOf at hm
              obtain ⟨o, ho, rfl⟩ := List.mem_map.1 hm
              exact (good_next (by have := OK.out.n1; omega) (OK.out.ops o ho) HGX.out).2.2)
          have hlq : i + 1 ≤ Q.length := by rw [← HQ.out, List.length_append]; omega
          go_wp2_with fail
          go_roundw
          case rel => exact ⟨i + 1, Q, vs2, HBN.out, hlq, HGQ.out, by go_num, HR2.out, KQ.out⟩
          case measure => simp [intOf]; omega
    · have HE := Lib.hid (reached_of_end HBF.out (by omega : i = L.length))
      go_wp2_with fail
      refine bodyPost_ret (v := .tuple #[.slice av L.length cv, .bool true]) (by simp [results, Tryz.results32, go_sem]) rfl ?_
      refine ⟨HK.out.trans KW.out, .inr ⟨L, HE.out, _, .slice aw L.length cw, vs, rfl, ?_⟩⟩
      exact ⟨ownsRow_mono HR.out.out HK.out.size, ownsRow_mono HR.out.words HK.out.size, HR.out.st⟩

end Go.Proofs.YtjcgkmodmjckjaaGreat

namespace Go.Proofs.YtjcgkmodmjckjaaGreat
open Go.RowKit Go.Shelf
attribute [local go_sem] Oper.semAt_some

structure Stp where
  op : Nat
  cost : Int
  to : Nat

def stepsFrom : Nat → List Wop → Nat → List Stp
  | _, [], _ => []
  | i, o :: r, s => if o.can s then ⟨i, o.cost, o.next s⟩ :: stepsFrom (i + 1) r s else stepsFrom (i + 1) r s
def wsteps (ops : List Wop) (s : Nat) : List Stp := stepsFrom 0 ops s

theorem stepsFrom_snoc (l : List Wop) (o : Wop) (s : Nat) : ∀ i, stepsFrom i (l ++ [o]) s = stepsFrom i l s ++ (if o.can s then [⟨i + l.length, o.cost, o.next s⟩] else []) := by
  induction l with
  | nil => intro i; simp only [List.nil_append, stepsFrom, List.length_nil, Nat.add_zero]
  | cons a r ih =>
    intro i
    rw [List.cons_append, stepsFrom, stepsFrom, ih]
    have : i + 1 + r.length = i + (a :: r).length := by simp; omega
    rw [this]
    split <;> simp

theorem wsteps_nexts (ops : List Wop) (s : Nat) : (wsteps ops s).map Stp.to = nexts ops s := by
  unfold wsteps nexts
  have : ∀ i, (stepsFrom i ops s).map Stp.to = (ops.filter fun o => o.can s).map fun o => o.next s := by
    induction ops with
    | nil => intro i; rfl
    | cons o r ih =>
      intro i
      rw [stepsFrom]
      cases h : o.can s
      · simp [h, ih]
      · simp [h, ih]
  exact this 0

theorem stepsFrom_mem {l : List Wop} {s : Nat} {x : Stp} : ∀ {i}, x ∈ stepsFrom i l s ↔ ∃ k o, l[k]? = some o ∧ o.can s = true ∧ x = ⟨i + k, o.cost, o.next s⟩ := by
  induction l with
  | nil => intro i; simp [stepsFrom]
  | cons a r ih =>
    intro i
    have hr : (∃ k o, r[k]? = some o ∧ o.can s = true ∧ x = ⟨i + 1 + k, o.cost, o.next s⟩) ↔ ∃ k o, (a :: r)[k + 1]? = some o ∧ o.can s = true ∧ x = ⟨i + (k + 1), o.cost, o.next s⟩ := by
      constructor
      · rintro ⟨k, o, h1, h2, h3⟩; exact ⟨k, o, by simpa using h1, h2, by rw [h3]; congr 1; omega⟩
      · rintro ⟨k, o, h1, h2, h3⟩; exact ⟨k, o, by simpa using h1, h2, by rw [h3]; congr 1; omega⟩
    rw [stepsFrom]
    by_cases h : a.can s = true
    · rw [if_pos h, List.mem_cons, ih, hr]
      constructor
      · rintro (rfl | ⟨k, o, h1, h2, h3⟩)
        · exact ⟨0, a, rfl, h, rfl⟩
        · exact ⟨k + 1, o, h1, h2, h3⟩
      · rintro ⟨k, o, h1, h2, h3⟩
        cases k with
        | zero => simp at h1; subst h1; exact .inl h3
        | succ k => exact .inr ⟨k, o, h1, h2, h3⟩
    · rw [if_neg h, ih, hr]
      constructor
      · rintro ⟨k, o, h1, h2, h3⟩; exact ⟨k + 1, o, h1, h2, h3⟩
      · rintro ⟨k, o, h1, h2, h3⟩
        cases k with
        | zero => simp at h1; subst h1; exact absurd h2 h
        | succ k => exact ⟨k, o, h1, h2, h3⟩

/-- All words of the operators fit 32 bits. -/
def WopsOk (ops : List Wop) : Prop := ∀ o ∈ ops, o.pre < 4294967296 ∧ o.add < 4294967296 ∧ o.del < 4294967296

theorem u32_andNot {a b : Nat} (ha : a < 4294967296) (hb : b < 4294967296) : bits .andNot .u32 (a : Int) (b : Int) = ((andN a b : Nat) : Int) := by
  have hB : ∀ (x y : BitVec 32), x.toNat = a → y.toNat = b → IntKind.u32.wrap ((x &&& ~~~y).toNat : Int) = ((andN a b : Nat) : Int) := by
    intro x y hx hy
    have hn : (~~~y).toNat = b ^^^ 4294967295 := by
      apply Nat.eq_of_testBit_eq
      intro i
      have h1 : (4294967295 : Nat).testBit i = decide (i < 32) := by rw [show (4294967295 : Nat) = 2 ^ 32 - 1 by decide, Nat.testBit_two_pow_sub_one]
      rw [Nat.testBit_xor, h1, ← hy, BitVec.testBit_toNat, BitVec.testBit_toNat, BitVec.getLsbD_not]
      by_cases hi : i < 32
      · simp [hi]
      · simp [hi, BitVec.getLsbD_of_ge y i (by omega)]
    rw [BitVec.toNat_and, hx, hn, IntKind.wrap_u32]
    unfold andN
    have : a &&& (b ^^^ 4294967295) ≤ a := Nat.and_le_left
    omega
  exact hB (BitVec.ofInt 32 (a : Int)) (BitVec.ofInt 32 (b : Int)) (by rw [BitVec.ofInt_natCast, BitVec.toNat_ofNat]; omega) (by rw [BitVec.ofInt_natCast, BitVec.toNat_ofNat]; omega)

theorem can_bits {s : Nat} {o : Wop} (hs : s < 4294967296) (ho : o.pre < 4294967296) : (bits .and .u32 (s : Int) (o.pre : Int) == (o.pre : Int)) = o.can s := by
  rw [(u32_bits hs ho).1]
  unfold Wop.can
  cases h : s &&& o.pre == o.pre with
  | true => rw [beq_iff_eq] at h ⊢; exact_mod_cast h
  | false => rw [beq_eq_false_iff_ne] at h ⊢; intro e; exact h (by exact_mod_cast e)

theorem next_bits {s : Nat} {o : Wop} (hs : s < 4294967296) (hd : o.del < 4294967296) (ha : o.add < 4294967296) : bits .or .u32 (bits .andNot .u32 (s : Int) (o.del : Int)) (o.add : Int) = ((o.next s : Nat) : Int) := by
  rw [u32_andNot hs hd]
  exact (u32_bits (andN_lt (m := 32) hs) ha).2

theorem next_lt {s : Nat} {o : Wop} (hs : s < 4294967296) (ha : o.add < 4294967296) : o.next s < 4294967296 := by
  unfold Wop.next
  exact Nat.or_lt_two_pow (n := 32) (andN_lt hs) ha

/-! ### the methods -/
theorem method_Start (a : Addr) (w : World) : (method 362 50 (.pointer (some a)) "Start").run Tryz.prog w = .ok (188, .pointer (some a)) w := by kernel_rfl
theorem method_Steps (a : Addr) (w : World) : (method 362 50 (.pointer (some a)) "Steps").run Tryz.prog w = .ok (189, .pointer (some a)) w := by kernel_rfl

theorem WordsAt.cells {w : World} {base b s g : Nat} {v : Value} {ops : List Wop} (h : WordsAt w base b s g v ops) : w.cell? ⟨b, 0, none⟩ = some (.int .u32 (s : Int)) ∧ w.cell? ⟨b, 1, none⟩ = some (.int .u32 (g : Int)) ∧ w.cell? ⟨b, 2, none⟩ = some v :=
  ⟨by rw [cell_of_blk h.blk]; rfl, by rw [cell_of_blk h.blk]; rfl, by rw [cell_of_blk h.blk]; rfl⟩

theorem start_any (w : World) (base b s g : Nat) (v : Value) (ops : List Wop) (h : WordsAt w base b s g v ops) :
    Calls Tryz.prog 188 #[.pointer (some ⟨b, 0, none⟩)] w fun e w' => e = .returned (.int .u32 (s : Int)) ∧ w = w' := by
  obtain ⟨c0, c1, c2⟩ := h.cells
  clear h
  go_enter Tryz.func188, Tryz.ntmps188
  go_wp2_with fail
  go_ret
  exact ⟨rfl, rfl⟩

theorem steps_any (w : World) (b : Nat) (x : Nat) :
    Calls Tryz.prog 189 #[.pointer (some ⟨b, 0, none⟩), .int .u32 (x : Int)] w fun e w' =>
      e = .returned (.func (.func 190) #[] #[.pointer (some ⟨w.heap.size, 0, none⟩), .pointer (some ⟨w.heap.size + 1, 0, none⟩)]) ∧ w' = (w.alloc (.cells #[.pointer (some ⟨b, 0, none⟩)] 50)).alloc (.cells #[.int .u32 (x : Int)] 60) := by
  go_enter Tryz.func189, Tryz.ntmps189
  go_wp2_with fail
  go_ret
  exact ⟨rfl, rfl⟩

/-! ### the iterator -/
/-- A step from the word s. -/
abbrev StpOf (ops : List Wop) (s : Nat) := { x : Stp // x ∈ wsteps ops s }
def Stp.val (x : Stp) : Value := .agg #[.int .i64 (x.op : Int), .int .i64 x.cost, .int .u32 (x.to : Int)]

theorem wopCells_get (ops : List Wop) (j : Nat) (o : Wop) (h : ops[j]? = some o) : (wopCells ops)[j * 4]? = some (.int .u32 (o.pre : Int)) ∧ (wopCells ops)[j * 4 + 1]? = some (.int .u32 (o.add : Int)) ∧ (wopCells ops)[j * 4 + 2]? = some (.int .u32 (o.del : Int)) ∧ (wopCells ops)[j * 4 + 3]? = some (.int .i64 o.cost) := by
  induction ops generalizing j with
  | nil => simp at h
  | cons a r ih =>
    have e : wopCells (a :: r) = [.int .u32 (a.pre : Int), .int .u32 (a.add : Int), .int .u32 (a.del : Int), .int .i64 a.cost] ++ wopCells r := by simp [wopCells]
    cases j with
    | zero => simp at h; subst h; simp [wopCells]
    | succ j =>
      simp at h
      obtain ⟨h0, h1, h2, h3⟩ := ih j h
      rw [e, show (j + 1) * 4 = 4 + j * 4 by omega]
      refine ⟨?_, ?_, ?_, ?_⟩
      · rw [List.getElem?_append_right (by simp)]; simpa using h0
      · rw [List.getElem?_append_right (by simp; omega), show 4 + j * 4 + 1 - [Value.int IntKind.u32 (a.pre : Int), Value.int IntKind.u32 (a.add : Int), Value.int IntKind.u32 (a.del : Int), Value.int IntKind.i64 a.cost].length = j * 4 + 1 by simp; omega]; exact h1
      · rw [List.getElem?_append_right (by simp; omega), show 4 + j * 4 + 2 - [Value.int IntKind.u32 (a.pre : Int), Value.int IntKind.u32 (a.add : Int), Value.int IntKind.u32 (a.del : Int), Value.int IntKind.i64 a.cost].length = j * 4 + 2 by simp; omega]; exact h2
      · rw [List.getElem?_append_right (by simp; omega), show 4 + j * 4 + 3 - [Value.int IntKind.u32 (a.pre : Int), Value.int IntKind.u32 (a.add : Int), Value.int IntKind.u32 (a.del : Int), Value.int IntKind.i64 a.cost].length = j * 4 + 3 by simp; omega]; exact h3

theorem WordsAt.opcell {w : World} {base b s g : Nat} {v : Value} {ops : List Wop} (h : WordsAt w base b s g v ops) {k : Nat} {o : Wop} (hk : ops[k]? = some o) :
    ∃ gg cap, v = .slice (some ⟨gg, 0, none⟩) ops.length cap ∧ gg < w.heap.size ∧ w.cell? ⟨gg, k * 4, none⟩ = some (.int .u32 (o.pre : Int)) ∧ w.cell? ⟨gg, k * 4 + 1, none⟩ = some (.int .u32 (o.add : Int)) ∧ w.cell? ⟨gg, k * 4 + 2, none⟩ = some (.int .u32 (o.del : Int)) ∧ w.cell? ⟨gg, k * 4 + 3, none⟩ = some (.int .i64 o.cost) := by
  have hl : k < ops.length := (List.getElem?_eq_some_iff.1 hk).1
  rcases h.own.2 with ⟨_, h0⟩ | ⟨gg, cap, cur, hv, hb, hg, hn, hm, hs, ht⟩
  · omega
  · obtain ⟨e0, e1, e2, e3⟩ := wopCells_get ops k o hk
    have get : ∀ j x, (wopCells ops)[j]? = some x → w.cell? ⟨gg, j, none⟩ = some x := by
      intro j x hx
      rw [cell_of_blk hg]
      rw [← ht, List.getElem?_take] at hx
      split at hx
      · simpa using hx
      · cases hx
    exact ⟨gg, cap, hv, lt_of_heap hg, get _ _ e0, get _ _ e1, get _ _ e2, get _ _ e3⟩

theorem WordsAt.len {w : World} {base b s g : Nat} {v : Value} {ops : List Wop} (h : WordsAt w base b s g v ops) : ∃ ao cap, v = .slice ao ops.length cap := by
  rcases h.own.2 with ⟨hv, h0⟩ | ⟨gg, cap, cur, hv, _⟩
  · exact ⟨none, 0, by rw [hv, h0]⟩
  · exact ⟨_, cap, hv⟩

theorem WordsAt.below {w w' : World} {base b s g n₀ : Nat} {v : Value} {ops : List Wop} (h : WordsAt w base b s g v ops) (hb : Below n₀ w w') (hn : w.heap.size ≤ n₀) : WordsAt w' base b s g v ops :=
  h.keeps0 (Keeps.ofBelow (hb.mono hn) _)

theorem stepsFrom_take {ops : List Wop} {s k : Nat} {o : Wop} (h : ops[k]? = some o) : stepsFrom 0 (ops.take (k + 1)) s = stepsFrom 0 (ops.take k) s ++ (if o.can s then [⟨k, o.cost, o.next s⟩] else []) := by
  have hl : k < ops.length := (List.getElem?_eq_some_iff.1 h).1
  rw [take_getS h, stepsFrom_snoc]
  simp only [List.length_take, Nat.zero_add]
  rw [Nat.min_eq_left (by omega)]

theorem stepsFrom_prefix (l r : List Wop) (s : Nat) : ∀ i, stepsFrom i l s <+: stepsFrom i (l ++ r) s := by
  induction l with
  | nil => intro i; exact List.nil_prefix
  | cons a l ih =>
    intro i
    rw [List.cons_append, stepsFrom, stepsFrom]
    split
    · exact (List.cons_prefix_cons).2 ⟨rfl, ih _⟩
    · exact ih _
theorem stepsTo_prefix (ops : List Wop) (s k : Nat) : stepsFrom 0 (ops.take k) s <+: wsteps ops s := by
  have := stepsFrom_prefix (ops.take k) (ops.drop k) s 0
  rwa [List.take_append_drop] at this

/-- What a round must keep: all that lay below n₀, and block B. -/
def KpS (n₀ B : Nat) (W W' : World) : Prop := Below n₀ W W' ∧ W'.heap[B]? = W.heap[B]?
theorem KpS.refl (n₀ B : Nat) (W : World) : KpS n₀ B W W := ⟨Below.refl _ _, rfl⟩
theorem KpS.trans {n₀ B : Nat} {X Y Z : World} (h : KpS n₀ B X Y) (k : KpS n₀ B Y Z) : KpS n₀ B X Z := ⟨h.1.trans k.1, k.2.trans h.2⟩
theorem KpS.alloc {n₀ B : Nat} {X Y : World} (h : KpS n₀ B X Y) (hn : n₀ ≤ Y.heap.size) (hB : B < Y.heap.size) (o : Obj) : KpS n₀ B X (Y.alloc o) := ⟨h.1.alloc hn o, (Below.heap_alloc Y o B hB).trans h.2⟩
theorem KpS.cell {n₀ B : Nat} {X Y : World} (h : KpS n₀ B X Y) {v : Value} (hc : X.cell? ⟨B, 0, none⟩ = some v) : Y.cell? ⟨B, 0, none⟩ = some v := (World.cell?_of_block h.2).trans hc
theorem KpS.ofKeeps {n₀ B : Nat} {S : Nat → Prop} {X Y : World} (h : Keeps S X Y) (hn : n₀ ≤ X.heap.size) (hs : ∀ k, k < n₀ → ¬ S k) (hB : B < X.heap.size) (hsB : ¬ S B) : KpS n₀ B X Y := ⟨h.toBelow hn hs, h.block B hB hsB⟩
theorem kpS_b {n₀ B : Nat} {w : World} (hn : n₀ ≤ w.heap.size) (hB : B < w.heap.size) (W : World) (l : Nat) (o o' : Obj) (hl : w.heap.size ≤ l) (h : W.heap[l]? = some o) (h1 : o.isCells = false) (h2 : o.isWalk = false) : KpS n₀ B W (W.putObj l o') :=
  ⟨belowK_b hn W l o o' hl h h1 h2, World.putObj_heap_other (by omega)⟩

set_option maxRecDepth 100000 in
set_option maxHeartbeats 2000000 in
theorem steps1_in (F : Fence) (n : Nat) (hF : F.fn 190) (hro : F.round = none) (hn : 1 ≤ n) (l Bw Bs n₀ base b st g s : Nat) (v : Value) (ops : List Wop) (hops : WopsOk ops) (hmany : ops.length ≤ 1000) (hs : s < 4294967296) (J Jx : List (StpOf ops s) → World → Prop)
    (hY : ∀ pre x W, J pre W → pre.length < (wsteps ops s).length → YieldAt F (n - 1) Tryz.prog l #[x.1.val] W fun e W' =>
      (e = .returned (.bool true) ∧ J (pre ++ [x]) W' ∧ KpS n₀ Bs W W') ∨ (e = .returned (.bool false) ∧ Jx (pre ++ [x]) W'))
    (W : World) (hJ : AbidesFrom W.heap.size J) (hn₀ : n₀ ≤ W.heap.size) (hBw : W.cell? ⟨Bw, 0, none⟩ = some (.pointer (some ⟨b, 0, none⟩))) (hBs : W.cell? ⟨Bs, 0, none⟩ = some (.int .u32 (s : Int))) (hls : Bs < W.heap.size) (hw : ∃ w0 : World, WordsAt w0 base b st g v ops ∧ w0.heap.size ≤ n₀ ∧ Below n₀ w0 W) (h0 : J [] W) :
    CallsIn F n Tryz.prog 190 #[.func (.yield l) #[] #[], .pointer (some ⟨Bw, 0, none⟩), .pointer (some ⟨Bs, 0, none⟩)] W fun e W' => (∃ v, e = .returned v) ∧
      ((∃ ys, ys.map Subtype.val = wsteps ops s ∧ J ys W') ∨ (∃ pre, pre.map Subtype.val <+: wsteps ops s ∧ Jx pre W')) := by
  obtain ⟨w0, hw0, hz0, hb0⟩ := hw
  have HW := Lib.hid hw0; have HB0 := Lib.hid hb0
  obtain ⟨c0, c1, c2⟩ := (hw0.below hb0 hz0).cells
  obtain ⟨ao, ca, hv⟩ := hw0.len
  have HLB := Lib.hid (lt_of_heap hw0.blk)
  subst hv
  clear hw0 hb0
  refine callsIn_of_wp Tryz.func190 rfl hF ?_ hro
  simp only [Tryz.ntmps190, List.size_toArray, List.length_cons, List.length_nil, Nat.reduceAdd, Nat.reduceSub, Array.replicate_succ, Array.replicate_zero, List.push_toArray, List.append_toArray, List.nil_append, List.cons_append]
  gi_wp2
  gi_loopw [11] (fun i wr => ∃ k : Nat, k ≤ ops.length ∧ i = .int .i64 (k : Int) ∧ (∃ pre : List (StpOf ops s), pre.map Subtype.val = stepsFrom 0 (ops.take k) s ∧ J pre wr) ∧ KpS n₀ Bs W wr) (fun i _ => ops.length - (intOf i).toNat)
  case atStart => exact ⟨0, Nat.zero_le _, rfl, ⟨[], rfl, h0⟩, KpS.refl _ _ _⟩
  case round =>
    obtain ⟨k, hk, rfl, ⟨pre, hpre, hJp⟩, hnx⟩ := hrel
    by_cases hlt : k < ops.length
    · obtain ⟨o, ho⟩ : ∃ o, ops[k]? = some o := ⟨_, List.getElem?_eq_getElem hlt⟩
      have hwr := HW.out.below (HB0.out.trans hnx.1) hz0
      obtain ⟨d0, d1, d2⟩ := hwr.cells
      obtain ⟨gg, cap, hv, hgl, p0, p1, p2, p3⟩ := hwr.opcell ho
      simp only [Value.slice.injEq] at hv
      obtain ⟨rfl, _, rfl⟩ := hv
      have q2 : wr.cell? ⟨Bs, 0, none⟩ = some (.int .u32 (s : Int)) := hnx.cell hBs
      have hn₀r : n₀ ≤ wr.heap.size := Nat.le_trans hn₀ hnx.1.size
      have hls' : Bs < wr.heap.size := Nat.lt_of_lt_of_le hls hnx.1.size
      obtain ⟨u1, u2, u3⟩ := hops o (List.mem_of_getElem? ho)
      have HTK := Lib.hid (stepsFrom_take (s := s) ho)
      have HPR := Lib.hid hpre
      have HNX := Lib.hid hnx
      cases hc : o.can s with
      | true =>
        have hb : (bits .and .u32 (s : Int) (o.pre : Int) == (o.pre : Int)) = true := by rw [can_bits hs u1, hc]
        have e1 := next_bits (o := o) hs u3 u2
        have hmem : (⟨k, o.cost, o.next s⟩ : Stp) ∈ wsteps ops s := stepsFrom_mem.2 ⟨k, o, ho, hc, by simp⟩
        have hJ' := hJ pre wr (wr.alloc (.cells #[.int .u32 (o.pre : Int), .int .u32 (o.add : Int), .int .u32 (o.del : Int), .int .i64 o.cost] 160)) none hJp (World.grownBy_alloc wr _ none) (fun r e => by cases e)
        have hlen : pre.length < (wsteps ops s).length := by
          have h1 := (stepsTo_prefix ops s (k + 1)).length_le
          rw [HTK.out, hc, if_pos rfl, List.length_append, ← HPR.out] at h1
          simp at h1; omega
        obtain ⟨sx, hsx⟩ : ∃ sx : StpOf ops s, sx.1 = ⟨k, o.cost, o.next s⟩ := ⟨⟨_, hmem⟩, rfl⟩
        obtain ⟨fn, tmps, assign, body, hy, hR⟩ := hY pre sx _ hJ' hlen
        rw [hsx] at hy
        simp only [Stp.val] at hy
        have HN : Hid ((pre ++ [sx]).map Subtype.val = stepsFrom 0 (ops.take (k + 1)) s) := by unfold Hid; rw [HTK.out, hc, if_pos rfl, List.map_append, HPR.out]; simp [hsx]
        have HSX := Lib.hid hsx
        have HC := Lib.hid hc
        have HR := Lib.hid hR
        clear hpre hnx hwr ho hc hmem hsx u1 u2 u3 hJ' hJp hlen hR
        gi_wp2
        refine HR.out.mono ?_
        rintro e W3 (⟨rfl, hJ3, hk3⟩ | ⟨rfl, hJx3⟩)
        · have HJ3 := Lib.hid hJ3
          have HN3 := Lib.hid ((HNX.out.alloc hn₀r hls' (.cells #[.int .u32 (o.pre : Int), .int .u32 (o.add : Int), .int .u32 (o.del : Int), .int .i64 o.cost] 160)).trans hk3)
          clear hJ3 hk3
          gi_wp2
          go_roundw
          case rel => exact ⟨k + 1, by omega, by go_num, ⟨_, HN.out, HJ3.out⟩, HN3.out⟩
          case measure => simp [intOf]; omega
        · have HJx3 := Lib.hid hJx3
          clear hJx3
          gi_wp2
          refine bodyPost_ret (results_none rfl _ _ _) rfl ?_
          exact ⟨⟨_, rfl⟩, .inr ⟨_, by rw [HN.out]; exact stepsTo_prefix ops s (k + 1), HJx3.out⟩⟩
      | false =>
        have hb : (bits .and .u32 (s : Int) (o.pre : Int) == (o.pre : Int)) = false := by rw [can_bits hs u1, hc]
        have HN : Hid (pre.map Subtype.val = stepsFrom 0 (ops.take (k + 1)) s) := by unfold Hid; rw [HTK.out, hc]; simpa using HPR.out
        have HJ' := Lib.hid (hJ pre wr (wr.alloc (.cells #[.int .u32 (o.pre : Int), .int .u32 (o.add : Int), .int .u32 (o.del : Int), .int .i64 o.cost] 160)) none hJp (World.grownBy_alloc wr _ none) (fun r e => by cases e))
        clear hpre hnx hwr ho hc u1 u2 u3 hJp
        gi_wp2
        refine ⟨fun _ h => (by cases h), ?_⟩
        gi_wp2
        go_roundw
        case rel => exact ⟨k + 1, by omega, by go_num, ⟨pre, HN.out, HJ'.out⟩, HNX.out.alloc hn₀r hls' _⟩
        case measure => simp [intOf]; omega
    · obtain rfl : k = ops.length := by omega
      rw [List.take_length] at hpre
      gi_wp2
      go_end0
      exact ⟨⟨_, rfl⟩, .inl ⟨pre, hpre, hJp⟩⟩

/-- What Steps hands back gives the steps, in their order; or the first of them. -/
theorem steps_stops (F : Fence) (n : Nat) (hF : F.fn 190) (hro : F.round = none) (hn : 1 ≤ n) (Bw Bs n₀ base b st g s : Nat) (v : Value) (ops : List Wop) (hops : WopsOk ops) (hmany : ops.length ≤ 1000) (hs : s < 4294967296)
    (w : World) (hn₀ : n₀ ≤ w.heap.size) (hBw : w.cell? ⟨Bw, 0, none⟩ = some (.pointer (some ⟨b, 0, none⟩))) (hBs : w.cell? ⟨Bs, 0, none⟩ = some (.int .u32 (s : Int))) (hlw : Bw < w.heap.size) (hls : Bs < w.heap.size) (hw : ∃ w0 : World, WordsAt w0 base b st g v ops ∧ w0.heap.size ≤ n₀ ∧ Below n₀ w0 w) :
    SeqStopsK F n Tryz.prog 190 #[.pointer (some ⟨Bw, 0, none⟩), .pointer (some ⟨Bs, 0, none⟩)] (fun x : StpOf ops s => #[x.1.val]) (KpS n₀ Bs) (fun ys => ys.map Subtype.val = wsteps ops s) (fun pre => pre.map Subtype.val <+: wsteps ops s) (wsteps ops s).length w := by
  intro l J Jx W hW hJ _ hY h0
  obtain ⟨w0, h1, h2, h3⟩ := hw
  have hlt : n₀ ≤ W.heap.size := Nat.le_trans hn₀ hW.size
  have := steps1_in F n hF hro hn l Bw Bs n₀ base b st g s v ops hops hmany hs J Jx hY W hJ hlt ((hW.cell (p := ⟨Bw, 0, none⟩) hlw).trans hBw) ((hW.cell (p := ⟨Bs, 0, none⟩) hls).trans hBs) (Nat.lt_of_lt_of_le hls hW.size) ⟨w0, h1, h2, h3.trans (hW.mono hn₀)⟩ h0
  exact this

end Go.Proofs.YtjcgkmodmjckjaaGreat

namespace Go.Proofs.YtjcgkmodmjckjaaGreat

/-! ### plans -/
/-- The word behind a list of operators, if all of them can be applied. -/
def runOps (ops : List Wop) : Nat → List Nat → Option Nat
  | x, [] => some x
  | x, o :: r => match ops[o]? with
    | none => none
    | some op => if op.can x = true then runOps ops (op.next x) r else none

theorem runOps_append (ops : List Wop) (p q : List Nat) : ∀ x, runOps ops x (p ++ q) = (runOps ops x p).bind fun y => runOps ops y q := by
  induction p with
  | nil => intro x; rfl
  | cons o r ih =>
    intro x
    rw [List.cons_append, runOps, runOps]
    cases ops[o]? with
    | none => rfl
    | some op =>
      simp only
      split
      · exact ih _
      · rfl

theorem runOps_snoc {ops : List Wop} {p : List Nat} {o x z : Nat} (h : runOps ops x (p ++ [o]) = some z) : ∃ y op, runOps ops x p = some y ∧ ops[o]? = some op ∧ op.can y = true ∧ z = op.next y := by
  rw [runOps_append] at h
  cases hp : runOps ops x p with
  | none => rw [hp] at h; cases h
  | some y =>
    rw [hp] at h
    simp only [Option.bind_some, runOps] at h
    cases ho : ops[o]? with
    | none => rw [ho] at h; cases h
    | some op =>
      rw [ho] at h; simp only at h
      split at h
      · rename_i hc; cases h; exact ⟨y, op, rfl, rfl, hc, rfl⟩
      · cases h

theorem runOps_snoc' {ops : List Wop} {p : List Nat} {o x y : Nat} {op : Wop} (h : runOps ops x p = some y) (ho : ops[o]? = some op) (hc : op.can y = true) : runOps ops x (p ++ [o]) = some (op.next y) := by
  rw [runOps_append, h]; simp [runOps, ho, hc]

/-! ### the order of plans: by length, then element by element -/
/-! ### the least plan -/
/-! ### the tree -/
structure Ent where
  to : Nat
  frm : Nat
  op : Nat
  path : List Nat

end Go.Proofs.YtjcgkmodmjckjaaGreat

namespace Go.Proofs.YtjcgkmodmjckjaaGreat

structure Arc where
  frm : Nat
  to : Nat
  op : Nat
  cost : Int

theorem nodup_ix {L : List Nat} (h : L.Nodup) {i j x : Nat} (hi : L[i]? = some x) (hj : L[j]? = some x) : i = j := by
  obtain ⟨l1, g1⟩ := List.getElem?_eq_some_iff.1 hi
  obtain ⟨l2, g2⟩ := List.getElem?_eq_some_iff.1 hj
  exact (List.getElem_inj h).1 (by rw [g1, g2])

/-! ### the arcs -/
def hits (L : List Nat) (i j : Nat) (c : Int) (y : Nat) : Nat → List Arc
  | 0 => []
  | k + 1 => hits L i j c y k ++ (if L[k]? = some y then [⟨i, k, j, c⟩] else [])
def opArcs (ops : List Wop) (L : List Nat) (i x : Nat) : Nat → List Arc
  | 0 => []
  | j + 1 => opArcs ops L i x j ++ (match ops[j]? with
    | some o => if o.can x = true then hits L i j o.cost (o.next x) L.length else []
    | none => [])
def arcsTo (ops : List Wop) (L : List Nat) : Nat → List Arc
  | 0 => []
  | i + 1 => arcsTo ops L i ++ (match L[i]? with
    | some x => opArcs ops L i x ops.length
    | none => [])
def arcs (ops : List Wop) (L : List Nat) : List Arc := arcsTo ops L L.length

theorem hits_len (L : List Nat) (i j : Nat) (c : Int) (y : Nat) : ∀ k, (hits L i j c y k).length ≤ k
  | 0 => Nat.le_refl _
  | k + 1 => by
    have := hits_len L i j c y k
    rw [hits, List.length_append]
    split <;> simp <;> omega
theorem opArcs_len (ops : List Wop) (L : List Nat) (i x : Nat) : ∀ j, (opArcs ops L i x j).length ≤ j * L.length
  | 0 => by simp [opArcs]
  | j + 1 => by
    have := opArcs_len ops L i x j
    rw [opArcs, List.length_append, Nat.succ_mul]
    split
    · split
      · have := hits_len L i j ‹Wop›.cost (‹Wop›.next x) L.length
        omega
      · simp; omega
    · simp; omega
theorem arcsTo_len (ops : List Wop) (L : List Nat) : ∀ i, (arcsTo ops L i).length ≤ i * (ops.length * L.length)
  | 0 => by simp [arcsTo]
  | i + 1 => by
    have := arcsTo_len ops L i
    rw [arcsTo, List.length_append, Nat.succ_mul]
    split
    · have := opArcs_len ops L i ‹Nat› ops.length
      omega
    · simp; omega

theorem mem_hits {L : List Nat} {i j : Nat} {c : Int} {y : Nat} {a : Arc} : ∀ {k}, a ∈ hits L i j c y k ↔ a.frm = i ∧ a.op = j ∧ a.cost = c ∧ a.to < k ∧ L[a.to]? = some y
  | 0 => by simp [hits]
  | k + 1 => by
    rw [hits, List.mem_append, mem_hits]
    constructor
    · rintro (⟨h1, h2, h3, h4, h5⟩ | h)
      · exact ⟨h1, h2, h3, by omega, h5⟩
      · split at h
        · simp at h; subst h; exact ⟨rfl, rfl, rfl, by simp, by assumption⟩
        · cases h
    · rintro ⟨h1, h2, h3, h4, h5⟩
      by_cases hk : a.to = k
      · right
        rw [hk] at h5
        rw [if_pos h5]
        cases a; simp at *; exact ⟨h1, hk, h2, h3⟩
      · exact .inl ⟨h1, h2, h3, by omega, h5⟩
theorem mem_opArcs {ops : List Wop} {L : List Nat} {i x : Nat} {a : Arc} : ∀ {j}, a ∈ opArcs ops L i x j ↔ a.frm = i ∧ a.op < j ∧ ∃ o, ops[a.op]? = some o ∧ o.can x = true ∧ a.cost = o.cost ∧ L[a.to]? = some (o.next x)
  | 0 => by simp [opArcs]
  | j + 1 => by
    rw [opArcs, List.mem_append, mem_opArcs]
    constructor
    · rintro (⟨h1, h2, h3⟩ | h)
      · exact ⟨h1, by omega, h3⟩
      · cases ho : ops[j]? with
        | none => rw [ho] at h; cases h
        | some o =>
          rw [ho] at h; simp only at h
          split at h
          · rename_i hc
            obtain ⟨h1, h2, h3, h4, h5⟩ := mem_hits.1 h
            exact ⟨h1, by omega, o, by rw [h2]; exact ho, hc, h3, h5⟩
          · cases h
    · rintro ⟨h1, h2, o, h3, h4, h5, h6⟩
      by_cases hj : a.op = j
      · right
        rw [← hj, h3]; simp only
        rw [if_pos h4]
        exact mem_hits.2 ⟨h1, rfl, h5, (List.getElem?_eq_some_iff.1 h6).1, h6⟩
      · exact .inl ⟨h1, by omega, o, h3, h4, h5, h6⟩
theorem mem_arcsTo {ops : List Wop} {L : List Nat} {a : Arc} : ∀ {i}, a ∈ arcsTo ops L i ↔ a.frm < i ∧ ∃ x o, L[a.frm]? = some x ∧ ops[a.op]? = some o ∧ o.can x = true ∧ a.cost = o.cost ∧ L[a.to]? = some (o.next x)
  | 0 => by simp [arcsTo]
  | i + 1 => by
    rw [arcsTo, List.mem_append, mem_arcsTo]
    constructor
    · rintro (⟨h1, h2⟩ | h)
      · exact ⟨by omega, h2⟩
      · cases hx : L[i]? with
        | none => rw [hx] at h; cases h
        | some x =>
          rw [hx] at h; simp only at h
          obtain ⟨h1, h2, o, h3⟩ := mem_opArcs.1 h
          exact ⟨by omega, x, o, by rw [h1]; exact hx, h3⟩
    · rintro ⟨h1, x, o, h2, h3, h4⟩
      by_cases hi : a.frm = i
      · right
        rw [← hi, h2]; simp only
        exact mem_opArcs.2 ⟨rfl, (List.getElem?_eq_some_iff.1 h3).1, o, h3, h4⟩
      · exact .inl ⟨by omega, x, o, h2, h3, h4⟩
theorem mem_arcs {ops : List Wop} {L : List Nat} {a : Arc} : a ∈ arcs ops L ↔ ∃ x o, L[a.frm]? = some x ∧ ops[a.op]? = some o ∧ o.can x = true ∧ a.cost = o.cost ∧ L[a.to]? = some (o.next x) := by
  unfold arcs
  rw [mem_arcsTo]
  constructor
  · rintro ⟨_, h⟩; exact h
  · rintro ⟨x, o, h1, h2⟩; exact ⟨(List.getElem?_eq_some_iff.1 h1).1, x, o, h1, h2⟩
/-! ### the steps to go -/
/-- The number of known entries. -/
def known (d : List Int) : Nat := (d.filter fun x => decide (0 ≤ x)).length
theorem known_le (d : List Int) : known d ≤ d.length := List.length_filter_le _ _

theorem known_set {d : List Int} {i : Nat} {x z : Int} (hi : d[i]? = some x) (hz : 0 ≤ z) : known (d.set i z) = known d + (if 0 ≤ x then 0 else 1) := by
  induction d generalizing i with
  | nil => simp at hi
  | cons y r ih =>
    cases i with
    | zero =>
      simp at hi; subst hi
      unfold known
      rw [List.set_cons_zero, List.filter_cons, List.filter_cons, if_pos (by simpa using hz)]
      by_cases hy : 0 ≤ y
      · rw [if_pos (by simpa using hy), if_pos hy]; simp
      · rw [if_neg (by simpa using hy), if_neg hy]; simp
    | succ i =>
      simp only [List.getElem?_cons_succ] at hi
      have := ih hi
      unfold known at this ⊢
      rw [List.set_cons_succ, List.filter_cons, List.filter_cons]
      by_cases hy : 0 ≤ y
      · rw [if_pos (by simpa using hy), if_pos (by simpa using hy), List.length_cons, List.length_cons, this]; omega
      · rw [if_neg (by simpa using hy), if_neg (by simpa using hy), this]
theorem getElem?_setS {α : Type} (d : List α) (i j : Nat) (z : α) : (d.set i z)[j]? = if i = j ∧ i < d.length then some z else d[j]? := by
  rw [List.getElem?_set]
  by_cases h : i = j
  · subst h
    by_cases hl : i < d.length
    · simp [hl]
    · simp [hl]
  · simp [h]

/-! ### the greedy way down -/
/-- The list is closed under the steps. -/
def Shut (ops : List Wop) (L : List Nat) : Prop := L.Nodup ∧ ∀ x ∈ L, ∀ o ∈ ops, o.can x = true → o.next x ∈ L

theorem shut_reached {ops : List Wop} {s : Nat} {L : List Nat} (h : reached ops s = some L) : Shut ops L := by
  obtain ⟨h1, _, _, h4⟩ := reached_some h
  refine ⟨h1, fun x hx o ho hc => (h4 _).2 (.step ((h4 x).1 hx) ?_)⟩
  unfold nexts
  exact List.mem_map.2 ⟨o, List.mem_filter.2 ⟨ho, hc⟩, rfl⟩

end Go.Proofs.YtjcgkmodmjckjaaGreat

namespace Go.Proofs.YtjcgkmodmjckjaaGreat
open Go.RowKit

/-- A slice of slices of ints. -/
def Lists (w : World) (v : Value) (ls : List (List Int)) : Prop :=
  ∃ ao cap, v = .slice ao ls.length cap ∧ ls.length ≤ maxLen ∧ (0 < ls.length → ∃ b off, ao = some ⟨b, off, none⟩ ∧ ∀ i l, ls[i]? = some l → ∃ u, w.cell? ⟨b, off + i, none⟩ = some u ∧ Ints w u l)

theorem Lists.keeps0 {w w' : World} {v : Value} {ls : List (List Int)} (h : Lists w v ls) (hk : Keeps (fun _ => False) w w') : Lists w' v ls := by
  obtain ⟨ao, cap, hv, hm, hc⟩ := h
  refine ⟨ao, cap, hv, hm, fun h0 => ?_⟩
  obtain ⟨b, off, ha, hx⟩ := hc h0
  refine ⟨b, off, ha, fun i l hl => ?_⟩
  obtain ⟨u, h1, h2⟩ := hx i l hl
  exact ⟨u, hk.cell h1 (fun h => h), h2.keeps0 hk⟩

theorem Lists.form {w : World} {v : Value} {ls : List (List Int)} (h : Lists w v ls) : ∃ ao cap, v = .slice ao ls.length cap ∧ ls.length ≤ 9223372036854775807 := by
  obtain ⟨ao, cap, hv, hm, _⟩ := h
  unfold maxLen at hm
  exact ⟨ao, cap, hv, by omega⟩

theorem Lists.cell {w : World} {v : Value} {ls : List (List Int)} (h : Lists w v ls) {ao : Option Addr} {n cap : Nat} (hv : v = .slice ao n cap) (hn : 0 < ls.length) :
    ∃ b off, ao = some ⟨b, off, none⟩ ∧ ∀ i l, ls[i]? = some l → ∃ u, w.cell? ⟨b, off + i, none⟩ = some u ∧ Ints w u l := by
  obtain ⟨ao', cap', hv', hm, hc⟩ := h
  rw [hv'] at hv
  simp only [Value.slice.injEq] at hv
  obtain ⟨rfl, _, rfl⟩ := hv
  exact hc hn

theorem Rows.lists {W : World} {base : Nat} {v vw : Value} {L : List Nat} {vs : List Value} (h : Rows W base v vw L vs) : Lists W v (L.map facts) := by
  obtain ⟨ao, cap, hv, hm, hc⟩ := Sl.of_own h.out
  refine ⟨ao, cap, by rw [List.length_map]; exact hv, by rw [List.length_map]; exact hm.1, fun h0 => ?_⟩
  rw [List.length_map] at h0
  obtain ⟨b, off, ha, hx⟩ := hc h0
  refine ⟨b, off, ha, fun i l hl => ?_⟩
  rw [List.getElem?_map] at hl
  cases hy : L[i]? with
  | none => rw [hy] at hl; cases hl
  | some y =>
    rw [hy] at hl; cases hl
    obtain ⟨u, h1, h2, _⟩ := h.st i y hy
    exact ⟨u, hx i u h1, h2⟩

theorem ownsRow_formS {w : World} {base : Nat} {e : TypeId} {size : Nat} {v : Value} {n : Nat} {xs : List Value} (h : w.ownsRow base e size v n xs) : ∃ ao cap, v = .slice ao n cap := by
  rcases h.2 with ⟨hv, h0⟩ | ⟨g, cap, cur, hv, _⟩
  · exact ⟨none, 0, by rw [hv, h0]⟩
  · exact ⟨_, cap, hv⟩

/-! ### Place -/
/-! ### StateOk -/
/-! ### Reached -/
theorem reached_any (w : World) (vi vg vo : Value) (t : Tsk) (h : TaskAt w vi vg vo t) (ok : t.Ok) :
    Calls Tryz.prog 10 #[.agg #[.int .i64 t.n, vi, vg, vo]] w (FromPost (wordsOf t.ops) (wd t.init) w) := by
  obtain ⟨ai, ci, h1, _⟩ := h.init.form
  obtain ⟨ag, cg, h2, _⟩ := h.goal.form
  obtain ⟨ao, co, h3, hmo⟩ := h.ops.form
  subst h1 h2 h3
  have K1 := (Keeps.refl (fun _ => False) w).alloc (.cells #[.int .i64 t.n, .slice ai t.init.length ci, .slice ag t.goal.length cg, .slice ao t.ops.length co] 25)
  have HT := Lib.hid (h.keeps0 K1)
  have HB := (Four.new w (.int .i64 t.n) (.slice ai t.init.length ci) (.slice ag t.goal.length cg) (.slice ao t.ops.length co) 25)
  have HK := Lib.hid K1; have OK := Lib.hid ok
  clear h K1 ok
  go_enter Tryz.func10, Tryz.ntmps10
  go_upto_region 1 with fail
  generalize (w.alloc (.cells #[.int .i64 t.n, .slice ai t.init.length ci, .slice ag t.goal.length cg, .slice ao t.ops.length co] 25)) = w1 at HB HT HK ⊢
  have hbx := HB.lt
  obtain ⟨d0, d1, d2, d3⟩ := HB
  go_wp2_with fail
  refine (reachedFrom_any _ _ _ _ _ t t.init HT.out OK.out HT.out.init OK.out.init).mono ?_; rintro e w2 ⟨hk, hr⟩
  have K2 := Lib.hid (HK.out.trans hk)
  have hs1 := HK.out.size
  clear hk
  rcases hr with ⟨hn, rfl⟩ | ⟨l, hn, v, vw, vs, rfl, hr⟩
  · have HN := Lib.hid hn
    clear hn
    go_wp2_with fail
    go_ret2
    exact ⟨K2.out, .inl ⟨HN.out, rfl⟩⟩
  · have HN := Lib.hid hn; have HR := Lib.hid hr
    obtain ⟨av, cv, hav⟩ := ownsRow_form1 hr.out
    subst hav
    clear hn hr
    go_wp2_with fail
    go_ret2
    exact ⟨K2.out, .inr ⟨l, HN.out, _, vw, vs, rfl, ownsRow_mono HR.out.out hs1, ownsRow_mono HR.out.words hs1, HR.out.st⟩⟩

end Go.Proofs.YtjcgkmodmjckjaaGreat

namespace Go.Proofs.YtjcgkmodmjckjaaGreat
open Go.RowKit

def arcCells (A : List Arc) : List Value := A.flatMap fun a => [.int .i64 (a.frm : Int), .int .i64 (a.to : Int), .int .i64 (a.op : Int), .int .i64 a.cost]
theorem arcCells_append (a b : List Arc) : arcCells (a ++ b) = arcCells a ++ arcCells b := by unfold arcCells; exact List.flatMap_append
theorem arcCells_get {A : List Arc} {i : Nat} {a : Arc} (h : A[i]? = some a) : (arcCells A)[i * 4]? = some (.int .i64 (a.frm : Int)) ∧ (arcCells A)[i * 4 + 1]? = some (.int .i64 (a.to : Int)) ∧ (arcCells A)[i * 4 + 2]? = some (.int .i64 (a.op : Int)) ∧ (arcCells A)[i * 4 + 3]? = some (.int .i64 a.cost) := by
  induction A generalizing i with
  | nil => simp at h
  | cons o r ih =>
    have e : arcCells (o :: r) = .int .i64 (o.frm : Int) :: .int .i64 (o.to : Int) :: .int .i64 (o.op : Int) :: .int .i64 o.cost :: arcCells r := rfl
    rw [e]
    cases i with
    | zero => simp at h; subst h; exact ⟨rfl, rfl, rfl, rfl⟩
    | succ i =>
      obtain ⟨h1, h2, h3, h4⟩ := ih (by simpa using h)
      rw [show (i + 1) * 4 = i * 4 + 1 + 1 + 1 + 1 by omega]
      refine ⟨?_, ?_, ?_, ?_⟩
      · simpa using h1
      · rw [show i * 4 + 1 + 1 + 1 + 1 + 1 = i * 4 + 1 + 1 + 1 + 1 + 1 from rfl]; simpa using h2
      · simpa using h3
      · simpa using h4

/-- A slice of arcs in a row of one's own. -/
def OwnArcs (B : Nat) (w : World) (v : Value) (A : List Arc) : Prop := w.ownsRow B 67 4 v A.length (arcCells A)

theorem OwnArcs.snoc {B n : Nat} {w4 : World} {V : Value} {A : List Arc} {a : Arc} (hn : A.length = n) (hown : w4.ownsRow B 67 4 V (n + 1) (arcCells A ++ [.int .i64 (a.frm : Int), .int .i64 (a.to : Int), .int .i64 (a.op : Int), .int .i64 a.cost])) : OwnArcs B w4 V (A ++ [a]) := by
  unfold OwnArcs
  rw [List.length_append, arcCells_append, hn]
  exact hown

theorem Tryz.info_arc : (Tryz.prog.info? 67).map (fun i => (i.zero, i.size, i.bytes)) = some (some (.agg #[.int .i64 0, .int .i64 0, .int .i64 0, .int .i64 0]), 4, 32) := by kernel_rfl

def part (ops : List Wop) (L : List Nat) (p x j : Nat) : List Arc := arcsTo ops L p ++ opArcs ops L p x j
def part2 (ops : List Wop) (L : List Nat) (p x j : Nat) (c : Int) (y k : Nat) : List Arc := part ops L p x j ++ hits L p j c y k
theorem part_zero (ops : List Wop) (L : List Nat) (p x : Nat) : part ops L p x 0 = arcsTo ops L p := by unfold part; rw [opArcs, List.append_nil]
theorem part_step {ops : List Wop} {L : List Nat} {p x j : Nat} {o : Wop} (ho : ops[j]? = some o) : part ops L p x (j + 1) = if o.can x = true then part2 ops L p x j o.cost (o.next x) L.length else part ops L p x j := by
  unfold part part2 part
  rw [opArcs, ho]; simp only
  split
  · rw [List.append_assoc]
  · rw [List.append_nil]
theorem part_all {ops : List Wop} {L : List Nat} {p x n : Nat} (hx : L[p]? = some x) (hn : ops.length = n) : part ops L p x n = arcsTo ops L (p + 1) := by
  unfold part; rw [arcsTo, hx]; simp only; rw [hn]
theorem part2_zero (ops : List Wop) (L : List Nat) (p x j : Nat) (c : Int) (y : Nat) : part2 ops L p x j c y 0 = part ops L p x j := by unfold part2; rw [hits, List.append_nil]
theorem part2_step {ops : List Wop} {L : List Nat} {p x j : Nat} {c : Int} {y z k : Nat} (hz : L[k]? = some z) : part2 ops L p x j c y (k + 1) = part2 ops L p x j c y k ++ (if z = y then [⟨p, k, j, c⟩] else []) := by
  unfold part2; rw [hits, hz]; simp [List.append_assoc]

theorem part2_le (ops : List Wop) (L : List Nat) (hL : L.length ≤ 2000) (hops : ops.length ≤ 40) {i j k : Nat} (hi : i ≤ L.length) (hj : j ≤ ops.length) (hk : k ≤ L.length) (x : Nat) (c : Int) (y : Nat) :
    (part2 ops L i x j c y k).length ≤ 200000000 := by
  have h1 := arcsTo_len ops L i
  have h2 := opArcs_len ops L i x j
  have h3 := hits_len L i j c y k
  have h4 : ops.length * L.length ≤ 40 * 2000 := Nat.mul_le_mul hops hL
  have h5 : i * (ops.length * L.length) ≤ 2000 * (40 * 2000) := Nat.mul_le_mul (by omega) h4
  have h6 : j * L.length ≤ 40 * 2000 := Nat.mul_le_mul (by omega) hL
  unfold part2 part
  simp only [List.length_append]
  omega

set_option maxRecDepth 100000 in
set_option maxHeartbeats 4000000 in
theorem arcs_any (w : World) (vi vg vo vl : Value) (t : Tsk) (L : List Nat) (h : TaskAt w vi vg vo t) (ok : t.Ok) (hl : Lists w vl (L.map facts)) (hg : ∀ x ∈ L, Good t.n x) (hfew : L.length ≤ 2000) :
    Calls Tryz.prog 12 #[.agg #[.int .i64 t.n, vi, vg, vo], vl] w fun e w' => ∃ v, e = .returned v ∧ OwnArcs w.heap.size w' v (arcs (wordsOf t.ops) L) ∧ Keeps (fun _ => False) w w' := by
  obtain ⟨i0, hi0, hz0, hz1, hz2⟩ := info_parts Tryz.info3
  obtain ⟨j0, hj0, jz0, jz1, jz2⟩ := info_parts Tryz.info_arc
  obtain ⟨ai, ci, h1, _⟩ := h.init.form
  obtain ⟨ag, cg, h2, _⟩ := h.goal.form
  obtain ⟨ao, co, h3, hmo⟩ := h.ops.form
  obtain ⟨al, cl, h4, _⟩ := hl.form
  have hcl := hl.cell h4
  rw [List.length_map] at h4 hcl
  subst h1 h2 h3 h4
  have hn32 : t.n ≤ 32 := by have := ok.n1; omega
  have hoc := h.ops.cell rfl
  have HB := Lib.hid (Four.new w (.int .i64 t.n) (.slice ai t.init.length ci) (.slice ag t.goal.length cg) (.slice ao t.ops.length co) 25)
  have K1 := (Keeps.refl (fun _ => False) w).alloc (.cells #[.int .i64 t.n, .slice ai t.init.length ci, .slice ag t.goal.length cg, .slice ao t.ops.length co] 25)
  have HT := Lib.hid (h.keeps0 K1); have HCL := Lib.hid hcl; have HOC := Lib.hid hoc
  have HK := Lib.hid K1; have OK := Lib.hid ok; have HG := Lib.hid hg
  have hops : (wordsOf t.ops).length = t.ops.length := by unfold wordsOf; rw [List.length_map]
  have HOPS := Lib.hid hops
  have hfo := ok.few
  have HLE := Lib.hid (show ∀ i j k : Nat, i ≤ L.length → j ≤ t.ops.length → k ≤ L.length → ∀ (x : Nat) (c : Int) (y : Nat), (part2 (wordsOf t.ops) L i x j c y k).length ≤ 200000000 from fun i j k hi hj hk x c y => part2_le (wordsOf t.ops) L hfew (by rw [hops]; exact hfo) hi (by rw [hops]; exact hj) hk x c y)
  clear h hl hcl hoc K1 ok hg hops
  go_enter Tryz.func12, Tryz.ntmps12
  go_upto_region 1 with fail
  generalize (w.alloc (.cells #[.int .i64 t.n, .slice ai t.init.length ci, .slice ag t.goal.length cg, .slice ao t.ops.length co] 25)) = w1 at HB HT HK ⊢
  have hbx := HB.out.lt
  go_wp2_with fail
  go_loopw [5, 6] (fun v5 i6 wr => ∃ i : Nat, i ≤ L.length ∧ i6 = .int .i64 (i : Int) ∧ wr.ownsRow w1.heap.size 3 1 v5 i ((L.take i).map fun x : Nat => Value.int .i64 (x : Int)) ∧ Keeps (fun _ => False) w1 wr) (fun _ i6 _ => L.length - (intOf i6).toNat)
  case atStart => exact ⟨0, Nat.zero_le _, rfl, World.ownsRow_nil _ _ _ _, Keeps.refl _ _⟩
  case round =>
    obtain ⟨i, hi, rfl, hown, hkw⟩ := hrel
    obtain ⟨av, cv, hav⟩ := ownsRow_form1 hown
    subst hav
    have HO := Lib.hid hown; have KW := Lib.hid hkw
    have hsw := hkw.size
    have hsz := HK.out.size
    clear hown hkw
    by_cases hlt : i < L.length
    · obtain ⟨bl, ol, rfl, hx'⟩ := HCL.out (by omega)
      obtain ⟨x, hx⟩ : ∃ x, L[i]? = some x := ⟨_, List.getElem?_eq_getElem hlt⟩
      obtain ⟨u, hu, hiu⟩ := hx' i (facts x) (by rw [List.getElem?_map, hx]; rfl)
      have hu2 := (HK.out.trans KW.out).cell hu (fun h => h)
      have HIU := Lib.hid (hiu.keeps0 (HK.out.trans KW.out))
      have HX := Lib.hid hx
      have HGX := Lib.hid (HG.out x (List.mem_of_getElem? hx))
      have HTK := Lib.hid (take_getS hx)
      obtain ⟨au, cu, hfu, _⟩ := hiu.form
      subst hfu
      clear hx' hx hu hiu
      go_wp2_with fail
      refine (rword_any _ _ _ HIU.out (isSet_mono HGX.out.1 (by omega))).mono ?_; rintro e w3 ⟨rfl, rfl⟩
      rw [HGX.out.2]
      go_wp2_with (at_builtin; refine wpList_append_d rfl _ _ _ rfl w1.heap.size 3 i0 _ 1 8 Tryz.underlying22 hi0 hz0 hz1 hz2 rfl (by omega) _ i ((L.take i).map fun x : Nat => Value.int .i64 (x : Int)) (by rfl) (World.ownsRow.alloc HO.out (.cells #[.int .i64 (x : Int)] 3)) ⟨wr.heap.size, 0, none⟩ 1 1 [.int .i64 (x : Int)] (by rfl) (by rfl) ?hnews ?hone (by omega) (by unfold maxLen; omega) (by omega) (by simp; omega) (wr.heap.size + 1) (by simp) ?_)
      case hnews => exact World.news_of_block (cs := #[.int .i64 (x : Int)]) (t := 3) (fr := (0, 0)) (heap_alloc_new _ _)
      case hone => simp [Value.oneCell']
      intro gg cap2 w4 hown hgrow hat hlt4 hd4
      have HN := Lib.hid (show w4.ownsRow w1.heap.size 3 1 (.slice (some ⟨gg, 0, none⟩) (i + 1) cap2) (i + 1) ((L.take (i + 1)).map fun x : Nat => Value.int .i64 (x : Int)) by
        rw [HTK.out, List.map_append, List.map_take]; exact hown)
      have HKN := Lib.hid (own_grown HO.out KW.out ((Keeps.refl _ wr).alloc (.cells #[.int .i64 (x : Int)] 3)) hgrow)
      clear hown hgrow hat hd4
      go_wp2_with fail
      go_roundw
      case rel => exact ⟨i + 1, by omega, by go_num, HN.out, HKN.out⟩
      case measure => simp [intOf]; omega
    · have hie : i = L.length := by omega
      obtain ⟨w2, rfl⟩ : ∃ w2, w2 = wr := ⟨_, rfl⟩
      have HWD := Lib.hid (show Ints w2 (.slice av i cv) (L.map fun x : Nat => (x : Int)) by
        have h := Sl.of_own HO.out
        rw [List.take_of_length_le (by omega)] at h
        unfold Ints
        rw [List.length_map, List.map_map]
        rw [← hie]
        exact h)
      have HCW := Lib.hid (HWD.out.cell rfl)
      subst hie
      have HK2 := Lib.hid (HK.out.trans KW.out)
      have HT2 := Lib.hid (HT.out.keeps0 KW.out)
      have HB2 := Lib.hid (HB.out.keeps0 KW.out)
      clear hlt hbx
      go_wp2_with fail
      go_loopw [7, 8] (fun v7 i8 wq => ∃ p : Nat, p ≤ L.length ∧ i8 = .int .i64 (p : Int) ∧ OwnArcs w2.heap.size wq v7 (arcsTo (wordsOf t.ops) L p) ∧ Keeps (fun _ => False) w2 wq) (fun _ i8 _ => L.length - (intOf i8).toNat)
      case atStart => exact ⟨0, Nat.zero_le _, rfl, World.ownsRow_nil _ _ _ _, Keeps.refl _ _⟩
      case round =>
        obtain ⟨p, hp, rfl, hown, hkq⟩ := hrel
        obtain ⟨a7, c7, h7⟩ := ownsRow_formS hown
        subst h7
        have HO2 := Lib.hid hown; have KQ := Lib.hid hkq
        clear hown hkq
        by_cases hlt : p < L.length
        · obtain ⟨bl, ol, rfl, hx'⟩ := HCL.out (by omega)
          obtain ⟨x, hx⟩ : ∃ x, L[p]? = some x := ⟨_, List.getElem?_eq_getElem hlt⟩
          obtain ⟨u, hu, hiu⟩ := hx' p (facts x) (by rw [List.getElem?_map, hx]; rfl)
          have HU := Lib.hid (HK2.out.cell hu (fun h => h))
          have HIU := Lib.hid (hiu.keeps0 HK2.out)
          have HX := Lib.hid hx
          have HGX := Lib.hid (HG.out x (List.mem_of_getElem? hx))
          have HTO := Lib.hid (part_all (x := x) hx HOPS.out)
          obtain ⟨au, cu, hfu, _⟩ := hiu.form
          subst hfu
          clear hx' hx hu hiu
          have hbr := (HB2.out.keeps0 KQ.out).lt
          obtain ⟨d0, d1, d2, d3⟩ := HB2.out.keeps0 KQ.out
          go_upto_region 11 with fail
          clear d0 d1 d2 d3 hbr
          go_loopw [7, 9] (fun v7 i9 wq => ∃ j : Nat, j ≤ t.ops.length ∧ i9 = .int .i64 (j : Int) ∧ OwnArcs w2.heap.size wq v7 (part (wordsOf t.ops) L p x j) ∧ Keeps (fun _ => False) w2 wq) (fun _ i9 _ => t.ops.length - (intOf i9).toNat)
          case atStart => exact ⟨0, Nat.zero_le _, rfl, by rw [part_zero]; exact HO2.out, KQ.out⟩
          case round =>
            obtain ⟨j, hj, rfl, hown, hkq⟩ := hrel
            obtain ⟨a7, c7, h7⟩ := ownsRow_formS hown
            subst h7
            have HO3 := Lib.hid hown; have KR := Lib.hid hkq
            have hbq := (HB2.out.keeps0 hkq).lt
            obtain ⟨q0, q1, q2, q3⟩ := HB2.out.keeps0 hkq
            have hcu := hkq.cell HU.out (fun h => h)
            clear hown hkq HO2 KQ
            by_cases hjl : j < t.ops.length
            · obtain ⟨o, ho⟩ : ∃ o, t.ops[j]? = some o := ⟨_, List.getElem?_eq_getElem hjl⟩
              have HOO := Lib.hid ho
              have hok := OK.out.ops o (List.mem_of_getElem? ho)
              obtain ⟨hap, haf, hgn⟩ := good_next (by omega : t.n ≤ 32) hok HGX.out
              have HAP := Lib.hid hap; have HAF := Lib.hid haf; have HGN := Lib.hid hgn
              have hwo : (wordsOf t.ops)[j]? = some o.word := by unfold wordsOf; rw [List.getElem?_map, ho]; rfl
              have HNT := Lib.hid (show part (wordsOf t.ops) L p x (j + 1) = if o.word.can x = true then part2 (wordsOf t.ops) L p x j o.cost (o.word.next x) L.length else part (wordsOf t.ops) L p x j from part_step hwo)
              have HTQ := Lib.hid (HT2.out.keeps0 KR.out)
              have HIQ := Lib.hid (show Ints wr (.slice au (facts x).length cu) (facts x) from HIU.out.keeps0 KR.out)
              obtain ⟨bo, oo, rfl, hoc⟩ := HOC.out (by omega)
              obtain ⟨va, vb, vc, c0, c1, c2, c3, _⟩ := hoc j o ho
              have HC3 := Lib.hid (HK2.out.cell c3 (fun h => h))
              clear ho hok hap haf hgn hwo hoc c0 c1 c2 c3
              go_upto_region 13 with fail
              go_still_tail 6, (by kernel_rfl)
              change wpList _ _ _ _ _ wr.drew
              have KD := (Keeps.refl (fun _ => False) wr).drew
              have HTD := Lib.hid (HTQ.out.keeps0 KD); have HID := Lib.hid (show Ints wr.drew (.slice au (facts x).length cu) (facts x) from HIQ.out.keeps0 KD)
              have HRD := Lib.hid (show OwnArcs _ _ _ _ from KD.ownsRow HO3.out (fun _ _ h => h)); have KDD := Lib.hid (KR.out.trans KD)
              clear KD hcu q0 q1 q2 q3 HTQ HIQ HO3 KR
              generalize wr.drew = w4 at HTD HID HRD KDD ⊢
              go_wp2_with fail
              refine (applies_any _ _ _ _ _ t (facts x) j o HTD.out HID.out HOO.out).mono ?_; rintro e w5 ⟨rfl, hk5⟩
              rw [HAP.out]
              have HR5 := Lib.hid (show OwnArcs _ _ _ _ from hk5.ownsRow HRD.out (fun _ _ h => h)); have HT5 := Lib.hid (HTD.out.keeps0 hk5); have HI5 := Lib.hid (show Ints w5 (.slice au (facts x).length cu) (facts x) from HID.out.keeps0 hk5); have K5 := Lib.hid (KDD.out.trans hk5)
              clear hk5 HRD HTD HID KDD
              cases hcan : o.word.can x with
              | false =>
                have HSQ := Lib.hid (show part (wordsOf t.ops) L p x (j + 1) = part (wordsOf t.ops) L p x j by rw [HNT.out, hcan]; simp)
                clear hcan
                go_wp2_with fail
                go_roundw
                case rel => exact ⟨j + 1, by omega, by go_num, by rw [HSQ.out]; exact HR5.out, K5.out⟩
                case measure => simp [intOf]; omega
              | true =>
                have HSQ := Lib.hid (show part (wordsOf t.ops) L p x (j + 1) = part2 (wordsOf t.ops) L p x j o.cost (o.word.next x) L.length by rw [HNT.out, hcan]; simp)
                clear hcan
                have hb5 := (HB2.out.keeps0 K5.out).lt
                obtain ⟨q0, q1, q2, q3⟩ := HB2.out.keeps0 K5.out
                have hcu5 := K5.out.cell HU.out (fun h => h)
                go_upto_region 14 with fail
                go_still_tail 6, (by kernel_rfl)
                change wpList _ _ _ _ _ w5.drew
                have KD := (Keeps.refl (fun _ => False) w5).drew
                have HTD := Lib.hid (HT5.out.keeps0 KD); have HID := Lib.hid (show Ints w5.drew (.slice au (facts x).length cu) (facts x) from HI5.out.keeps0 KD)
                have HRD := Lib.hid (show OwnArcs _ _ _ _ from KD.ownsRow HR5.out (fun _ _ h => h)); have KDD := Lib.hid (K5.out.trans KD)
                clear KD hcu5 q0 q1 q2 q3 HT5 HI5 HR5 K5 hb5
                generalize w5.drew = w6 at HTD HID HRD KDD ⊢
                go_wp2_with fail
                refine (after_any _ _ _ _ _ t (facts x) j o HTD.out HID.out HOO.out OK.out.n0 (by have := OK.out.n1; omega)).mono ?_; rintro e w7 ⟨vn, rfl, hown7, hk7⟩
                rw [HAF.out] at hown7
                have HI7 := Lib.hid (show Ints w7 vn (facts (o.word.next x)) from Sl.of_own hown7 |> fun h => by simpa [Ints] using h)
                obtain ⟨an, cn, hvn⟩ := ownsRow_form1 hown7
                subst hvn
                have HR7 := Lib.hid (show OwnArcs _ _ _ _ from hk7.ownsRow HRD.out (fun _ _ h => h)); have K7 := Lib.hid (KDD.out.trans hk7)
                clear hown7 hk7 HTD HID HRD KDD
                go_wp2_with fail
                refine (rword_any _ _ _ HI7.out (isSet_mono HGN.out.1 (by have := OK.out.n1; omega))).mono ?_; rintro e w8 ⟨rfl, rfl⟩
                rw [HGN.out.2]
                go_upto_region 16 with fail
                go_loopw [7, 11] (fun v7 i11 wq => ∃ k : Nat, k ≤ L.length ∧ i11 = .int .i64 (k : Int) ∧ OwnArcs w2.heap.size wq v7 (part2 (wordsOf t.ops) L p x j o.cost (o.word.next x) k) ∧ Keeps (fun _ => False) w2 wq) (fun _ i11 _ => L.length - (intOf i11).toNat)
                case atStart => exact ⟨0, Nat.zero_le _, rfl, by rw [part2_zero]; exact HR7.out, K7.out⟩
                case round =>
                  obtain ⟨k, hk, rfl, hown, hkq⟩ := hrel
                  obtain ⟨a7, c7, h7⟩ := ownsRow_formS hown
                  subst h7
                  have HO4 := Lib.hid hown; have K4 := Lib.hid hkq
                  clear hown hkq HR7 K7 HI7
                  by_cases hkl : k < L.length
                  · obtain ⟨y, hy⟩ : ∃ y, L[k]? = some y := ⟨_, List.getElem?_eq_getElem hkl⟩
                    obtain ⟨bw, ow, rfl, hcw⟩ := HCW.out (by rw [List.length_map]; omega)
                    have hwc := K4.out.cell (hcw k (y : Int) (by rw [List.getElem?_map, hy]; rfl)) (fun h => h)
                    have HH := Lib.hid (part2_step (ops := wordsOf t.ops) (L := L) (p := p) (x := x) (j := j) (c := o.cost) (y := o.word.next x) hy)
                    have hbd := HLE.out p j k (Nat.le_of_lt hlt) (Nat.le_of_lt hjl) (Nat.le_of_lt hkl) x o.cost (o.word.next x)
                    clear hcw hy
                    by_cases hyz : y = o.word.next x
                    · have hq : (((y : Nat) : Int) == ((o.word.next x : Nat) : Int)) = true := by rw [hyz]; simp
                      have HHT := Lib.hid (show part2 (wordsOf t.ops) L p x j o.cost (o.word.next x) (k + 1) = part2 (wordsOf t.ops) L p x j o.cost (o.word.next x) k ++ [⟨p, k, j, o.cost⟩] by rw [HH.out, if_pos hyz])
                      clear hyz
                      have hbq := (HB2.out.keeps0 K4.out).lt
                      obtain ⟨q0, q1, q2, q3⟩ := HB2.out.keeps0 K4.out
                      have hc3 := K4.out.cell HC3.out (fun h => h)
                      have hsz := K4.out.size
                      go_wp2_with (at_builtin; refine wpList_append_d rfl _ _ _ rfl w2.heap.size 67 j0 _ 4 32 Tryz.underlying37 hj0 jz0 jz1 jz2 rfl (by omega) _ (part2 (wordsOf t.ops) L p x j o.cost (o.word.next x) k).length (arcCells (part2 (wordsOf t.ops) L p x j o.cost (o.word.next x) k)) (by rfl) (World.ownsRow.alloc HO4.out (.cells #[.int .i64 (p : Int), .int .i64 (k : Int), .int .i64 (j : Int), .int .i64 o.cost] 67)) ⟨wr.heap.size, 0, none⟩ 1 1 [.int .i64 (p : Int), .int .i64 (k : Int), .int .i64 (j : Int), .int .i64 o.cost] (by rfl) (by rfl) ?hnews ?hone (by omega) (by unfold maxLen; omega) (by omega) (by simp; omega) (wr.heap.size + 1) (by simp) ?_)
                      case hnews => exact World.news_of_block (cs := #[.int .i64 (p : Int), .int .i64 (k : Int), .int .i64 (j : Int), .int .i64 o.cost]) (t := 67) (fr := (0, 0)) (heap_alloc_new _ _)
                      case hone => simp [Value.oneCell']
                      intro gg cap2 w9 hown hgrow hat hlt9 hd9
                      have HN := Lib.hid (show OwnArcs w2.heap.size w9 (.slice (some ⟨gg, 0, none⟩) ((part2 (wordsOf t.ops) L p x j o.cost (o.word.next x) k).length + 1) cap2) (part2 (wordsOf t.ops) L p x j o.cost (o.word.next x) (k + 1)) by
                        rw [HHT.out]
                        exact OwnArcs.snoc (a := ⟨p, k, j, o.cost⟩) rfl hown)
                      have HKN := Lib.hid (own_grown HO4.out K4.out ((Keeps.refl _ wr).alloc (.cells #[.int .i64 (p : Int), .int .i64 (k : Int), .int .i64 (j : Int), .int .i64 o.cost] 67)) hgrow)
                      clear hown hgrow hat hd9 hbd
                      go_wp2_with fail
                      go_roundw
                      case rel => exact ⟨k + 1, by omega, by go_num, HN.out, HKN.out⟩
                      case measure => simp [intOf]; omega
                    · have hq : (((y : Nat) : Int) == ((o.word.next x : Nat) : Int)) = false := by simp; omega
                      have HHT := Lib.hid (show part2 (wordsOf t.ops) L p x j o.cost (o.word.next x) (k + 1) = part2 (wordsOf t.ops) L p x j o.cost (o.word.next x) k by rw [HH.out, if_neg hyz, List.append_nil])
                      clear hyz hbd
                      go_wp2_with fail
                      go_roundw
                      case rel => exact ⟨k + 1, by omega, by go_num, by rw [HHT.out]; exact HO4.out, K4.out⟩
                      case measure => simp [intOf]; omega
                  · have hke : k = L.length := by omega
                    have HN := Lib.hid (show OwnArcs w2.heap.size wr (.slice a7 (part2 (wordsOf t.ops) L p x j o.cost (o.word.next x) k).length c7) (part (wordsOf t.ops) L p x (j + 1)) by rw [HSQ.out, ← hke]; exact HO4.out)
                    clear hke
                    go_wp2_with fail
                    go_roundw
                    case rel => exact ⟨j + 1, by omega, by go_num, HN.out, K4.out⟩
                    case measure => simp [intOf]; omega
            · have hje : j = t.ops.length := by omega
              have HN := Lib.hid (show OwnArcs w2.heap.size wr (.slice a7 (part (wordsOf t.ops) L p x j).length c7) (arcsTo (wordsOf t.ops) L (p + 1)) by rw [← HTO.out, ← hje]; exact HO3.out)
              clear hje
              go_wp2_with fail
              go_roundw
              case rel => exact ⟨p + 1, by omega, by go_num, HN.out, KR.out⟩
              case measure => simp [intOf]; omega
        · have HN := Lib.hid (show OwnArcs w2.heap.size wr (.slice a7 (arcsTo (wordsOf t.ops) L p).length c7) (arcs (wordsOf t.ops) L) by
            have hpe : p = L.length := by omega
            unfold arcs; rw [← hpe]; exact HO2.out)
          go_wp2_with fail
          go_ret
          exact ⟨_, rfl, ownsRow_mono HN.out HK2.out.size, HK2.out.trans KQ.out⟩

end Go.Proofs.YtjcgkmodmjckjaaGreat

namespace Go.Proofs.YtjcgkmodmjckjaaGreat
open Go.RowKit

/-- A row of ints in a block of one's own at the start's end. -/
structure DRow (w : World) (n : Nat) (d : List Int) (wr : World) : Prop where
  own : wr.ownsRow w.heap.size 3 1 (.slice (some ⟨w.heap.size, 0, none⟩) n n) n (d.map (Value.int .i64))
  keeps : Keeps (fun _ => False) w wr

theorem DRow.len {w : World} {n : Nat} {d : List Int} {wr : World} (h : DRow w n d wr) : d.length = n := by simpa using h.own.1
theorem DRow.keeps0 {w : World} {n : Nat} {d : List Int} {wr wq : World} (h : DRow w n d wr) (hk : Keeps (fun _ => False) wr wq) : DRow w n d wq := ⟨hk.ownsRow h.own (fun _ _ h => h), h.keeps.trans hk⟩
theorem DRow.set {w : World} {n : Nat} {d : List Int} {wr : World} (h : DRow w n d wr) (i : Nat) (z : Int) : DRow w n (d.set i z) (wr.setCell ⟨w.heap.size, i, none⟩ (.int .i64 z)) := by
  refine ⟨?_, h.keeps.trans' ((Keeps.refl (fun b => b = w.heap.size) wr).setCell (p := ⟨w.heap.size, i, none⟩) (.inl rfl) _) (fun b hb => .inr (by omega))⟩
  have := (h.own.stored i (.int .i64 z)).1
  rw [List.map_set]
  exact this
theorem DRow.cell {w : World} {n : Nat} {d : List Int} {wr : World} (h : DRow w n d wr) {i : Nat} {x : Int} (hx : d[i]? = some x) : wr.cell? ⟨w.heap.size, i, none⟩ = some (.int .i64 x) := by
  have hl := (List.getElem?_eq_some_iff.1 hx).1
  rw [h.own.cellAt i (by rw [← h.len]; omega), List.getElem?_map, hx]; rfl
theorem DRow.frozen {w : World} {n : Nat} {d : List Int} {wr : World} (h : DRow w n d wr) (i : Nat) : wr.frozen? ⟨w.heap.size, i, none⟩ = false := h.own.frozenAt i
theorem DRow.lt {w : World} {n : Nat} {d : List Int} {wr : World} (h : DRow w n d wr) : w.heap.size < wr.heap.size := (World.ownsRow.lt h.own w.heap.size rfl).2

theorem fill_step {S : List Int} {n i : Nat} {z : Int} (hz : S[i]? = some z) (hn : S.length = n) (u : Int) : (S.take i ++ List.replicate (n - i) u).set i z = S.take (i + 1) ++ List.replicate (n - (i + 1)) u := by
  have hl := (List.getElem?_eq_some_iff.1 hz).1
  have ht : (S.take i).length = i := by rw [List.length_take]; omega
  have e : n - i = (n - (i + 1)) + 1 := by omega
  rw [List.set_append_right _ _ (by omega), ht, Nat.sub_self, e, List.replicate_succ, List.set_cons_zero, List.take_succ_eq_append_getElem hl, (List.getElem?_eq_some_iff.1 hz).2]
  simp

/-- A slice of bools that reads as l. -/
def Bools (w : World) (v : Value) (l : List Bool) : Prop := Sl w v l.length (l.map Value.bool)
def ArcsAt (w : World) (v : Value) (A : List Arc) : Prop := Sl w v A.length (arcCells A)
theorem Sl.formN {w : World} {v : Value} {n : Nat} {cs : List Value} (h : Sl w v n cs) : ∃ ao cap, v = .slice ao n cap ∧ n ≤ 9223372036854775807 := by
  obtain ⟨ao, cap, hv, hm, _⟩ := h
  unfold maxLen at hm
  exact ⟨ao, cap, hv, by omega⟩
theorem Sl.cellN {w : World} {v : Value} {n m cap : Nat} {cs : List Value} {ao : Option Addr} (h : Sl w v n cs) (hv : v = .slice ao m cap) (hn : 0 < n) : ∃ b off, ao = some ⟨b, off, none⟩ ∧ ∀ j x, cs[j]? = some x → w.cell? ⟨b, off + j, none⟩ = some x := by
  obtain ⟨ao', cap', hv', hm, hc⟩ := h
  rw [hv'] at hv
  simp only [Value.slice.injEq] at hv
  obtain ⟨rfl, _, rfl⟩ := hv
  exact hc hn
theorem ArcsAt.cell {w : World} {v : Value} {A : List Arc} (h : ArcsAt w v A) {ao : Option Addr} {m cap : Nat} (hv : v = .slice ao m cap) (hn : 0 < A.length) : ∃ b off, ao = some ⟨b, off, none⟩ ∧ ∀ i a, A[i]? = some a →
    w.cell? ⟨b, off + i * 4, none⟩ = some (.int .i64 (a.frm : Int)) ∧ w.cell? ⟨b, off + i * 4 + 1, none⟩ = some (.int .i64 (a.to : Int)) ∧ w.cell? ⟨b, off + i * 4 + 2, none⟩ = some (.int .i64 (a.op : Int)) ∧ w.cell? ⟨b, off + i * 4 + 3, none⟩ = some (.int .i64 a.cost) := by
  obtain ⟨b, off, h1, h2⟩ := Sl.cellN h hv hn
  refine ⟨b, off, h1, fun i a ha => ?_⟩
  obtain ⟨g0, g1, g2, g3⟩ := arcCells_get ha
  exact ⟨h2 _ _ g0, h2 _ _ g1, h2 _ _ g2, h2 _ _ g3⟩
theorem OwnArcs.at {B : Nat} {w : World} {v : Value} {A : List Arc} (h : OwnArcs B w v A) : ArcsAt w v A := by
  rcases h.2 with ⟨hv, h0⟩ | ⟨g, cap, cur, hv, hb, hg, hn, hm, hs, ht⟩
  · exact ⟨none, 0, by rw [hv, h0], by omega, fun h => by omega⟩
  · refine ⟨_, cap, hv, by omega, fun _ => ⟨g, 0, rfl, fun j x hj => ?_⟩⟩
    rw [Nat.zero_add, cell_of_blk hg]
    rw [← ht, List.getElem?_take] at hj
    split at hj
    · simpa using hj
    · cases hj

end Go.Proofs.YtjcgkmodmjckjaaGreat
