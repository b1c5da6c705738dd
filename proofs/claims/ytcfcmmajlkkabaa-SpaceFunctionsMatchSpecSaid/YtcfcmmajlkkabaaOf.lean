/- space.Of: the words of a task. -/
import Derived.Test.YtcfcmmajlkkabaaTaskW
import Derived.Test.YtcfcmmajlkkabaaWord
import Derived.Test.YtcfcmmajlkkabaaKitA
namespace Go.Proofs.Ytcfcmmajlkkabaa
open Go.RowKit

theorem Try.info_mask : (Try.prog.info? 157).map (fun i => (i.zero, i.size, i.bytes)) = some (some (.agg #[.int .u32 0, .int .u32 0, .int .u32 0, .int .i64 0]), 4, 24) := by kernel_rfl

def wopCells (ops : List Wop) : List Value := ops.flatMap fun o => [.int .u32 (o.pre : Int), .int .u32 (o.add : Int), .int .u32 (o.del : Int), .int .i64 o.cost]
def wordsOf (ops : List Opr) : List Wop := ops.map Opr.word

theorem length_wopCells (ops : List Wop) : (wopCells ops).length = ops.length * 4 := by
  induction ops with
  | nil => rfl
  | cons o r ih =>
    have e : wopCells (o :: r) = .int .u32 (o.pre : Int) :: .int .u32 (o.add : Int) :: .int .u32 (o.del : Int) :: .int .i64 o.cost :: wopCells r := rfl
    rw [e]; simp only [List.length_cons]; omega
theorem wopCells_append (a b : List Wop) : wopCells (a ++ b) = wopCells a ++ wopCells b := by unfold wopCells; exact List.flatMap_append

theorem word_still {w : World} {v : Value} {l : List Int} (h : Ints w v l) (hl : ∀ x ∈ l, 0 ≤ x ∧ x < 32) :
    Calls Try.prog 65 #[v] w fun e w' => e = .returned (.int .u32 (wd l : Nat)) ∧ w' = w :=
  (word_any w v l h hl).mono fun _ _ ⟨he, hw⟩ => ⟨he, hw.symm⟩

theorem set_bound {l : List Int} {n : Int} (h : isSetB l n = true) (hn : n ≤ 24) : ∀ x ∈ l, 0 ≤ x ∧ x < 32 := fun x hx => by have := (isSet_iff.1 h).1 x hx; omega

/-- A block that holds the words of a task. -/
structure WordsAt (w : World) (base b : Nat) (s g : Nat) (v : Value) (ops : List Wop) : Prop where
  blk : w.heap[b]? = some (.cells #[.int .u32 (s : Int), .int .u32 (g : Int), v] 143 (0, 0))
  own : w.ownsRow base 157 4 v ops.length (wopCells ops)
  low : base ≤ b
  ne : v.ownBlock ≠ some b

set_option maxHeartbeats 1000000 in
theorem grown_cell {w4 w5 : World} {o : Obj} {row : Option Nat} (hg : ((w4.alloc o).drew).grownBy w5 row) {b j : Nat} {x : Value} (h : w4.cell? ⟨b, j, none⟩ = some x) (hne : row ≠ some b) : w5.cell? ⟨b, j, none⟩ = some x :=
  hg.cell (a := ⟨b, j, none⟩) (((Keeps.refl (fun _ => False) w4).alloc o).drew.cell h (fun h => h)) (fun e => hne e.symm)
theorem grown_heap {w4 w5 : World} {o o' : Obj} {row : Option Nat} (hg : ((w4.alloc o).drew).grownBy w5 row) {b : Nat} (h : w4.heap[b]? = some o') (hne : row ≠ some b) : w5.heap[b]? = some o' := by
  have h1 := (((Keeps.refl (fun _ => False) w4).alloc o).drew).heap h (fun h => h)
  exact (hg.block b (lt_of_heap h1) (fun e => hne e.symm)).trans h1

theorem set_far {w : World} {b j c : Nat} {x u : Value} (h : w.cell? ⟨b, j, none⟩ = some x) (hne : b ≠ c) : (w.setCell ⟨c, 2, none⟩ u).cell? ⟨b, j, none⟩ = some x :=
  (World.cell?_of_block (heap_setCell_other w ⟨c, 2, none⟩ b u hne)).trans h

theorem ownsRow_mono4 {w : World} {base base' : Nat} {e : TypeId} {size : Nat} {v : Value} {n : Nat} {xs : List Value} (h : w.ownsRow base e size v n xs) (hb : base' ≤ base) : w.ownsRow base' e size v n xs := ownsRow_mono h hb

theorem WordsAt.keeps0 {w w' : World} {base b s g : Nat} {v : Value} {ops : List Wop} (h : WordsAt w base b s g v ops) (hk : Keeps (fun _ => False) w w') : WordsAt w' base b s g v ops :=
  ⟨hk.heap h.blk (fun h => h), hk.ownsRow h.own (fun _ _ h => h), h.low, h.ne⟩

theorem WordsAt.push {w4 w5 : World} {base bb s g n cap gg : Nat} {v : Value} {ops : List Wop} {o : Obj} {p : Wop} (h : WordsAt w4 base bb s g v ops) (hg : ((w4.alloc o).drew).grownBy w5 v.ownBlock) (hn : n = ops.length + 1)
    (hown : w5.ownsRow base 157 4 (.slice (some ⟨gg, 0, none⟩) n cap) n (wopCells ops ++ [.int .u32 (p.pre : Int), .int .u32 (p.add : Int), .int .u32 (p.del : Int), .int .i64 p.cost])) (hat : v.ownBlock = some gg ∨ gg = w4.heap.size + 1) :
    WordsAt (w5.setCell ⟨bb, 2, none⟩ (.slice (some ⟨gg, 0, none⟩) n cap)) base bb s g (.slice (some ⟨gg, 0, none⟩) n cap) (ops ++ [p]) := by
  have hb := grown_heap (w4 := w4) hg h.blk h.ne
  have hne : gg ≠ bb := by
    rcases hat with e | e
    · intro e'; exact h.ne (by rw [e, e'])
    · have := lt_of_heap h.blk; omega
  refine ⟨by rw [blk_set_same hb]; rfl, ?_, h.low, by simpa [Value.ownBlock] using hne⟩
  have hk : Keeps (fun b => b = bb) w5 (w5.setCell ⟨bb, 2, none⟩ (.slice (some ⟨gg, 0, none⟩) n cap)) := (Keeps.refl (fun b => b = bb) w5).setCell (p := ⟨bb, 2, none⟩) (.inl rfl) _
  have h2 : w5.ownsRow base 157 4 (.slice (some ⟨gg, 0, none⟩) n cap) (ops ++ [p]).length (wopCells (ops ++ [p])) := by
    rw [wopCells_append, List.length_append, show ops.length + [p].length = n by simp [hn]]; exact hown
  exact hk.ownsRow h2 (fun k hk e => by simp [Value.ownBlock] at hk; omega)

theorem WordsAt.pushKeeps {w2 w4 w5 : World} {bb s g : Nat} {v : Value} {ops : List Wop} {o : Obj} (h : WordsAt w4 bb bb s g v ops) (hg : ((w4.alloc o).drew).grownBy w5 v.ownBlock) (hb : w2.heap.size = bb) (hk : Keeps (fun _ => False) w2 w4) (u : Value) : Keeps (fun _ => False) w2 (w5.setCell ⟨bb, 2, none⟩ u) := by
  have h1 : Keeps (fun b => v.ownBlock = some b) (w4.alloc o).drew w5 := (Keeps.refl _ _).grown hg (fun k hk => .inl hk)
  have h2 : Keeps (fun _ => False) w2 w5 := (hk.trans ((Keeps.refl _ w4).alloc o).drew).trans' h1 (fun b e => .inr (by have := (World.ownsRow.lt h.own b e).1; omega))
  exact h2.setCell (p := ⟨bb, 2, none⟩) (.inr (by simp only; omega)) u

set_option maxHeartbeats 4000000 in
set_option maxRecDepth 100000 in
theorem of_any (w : World) (vi vg vo : Value) (t : Tsk) (h : TaskAt w vi vg vo t) (ok : t.Ok) :
    Calls Try.prog 87 #[.agg #[.int .i64 t.n, vi, vg, vo]] w fun e w' => ∃ b v, e = .returned (.pointer (some ⟨b, 0, none⟩)) ∧ WordsAt w' w.heap.size b (wd t.init) (wd t.goal) v (wordsOf t.ops) ∧ Keeps (fun _ => False) w w' := by
  obtain ⟨ai, ci, h1, _⟩ := h.init.form
  obtain ⟨ag, cg, h2, _⟩ := h.goal.form
  obtain ⟨ao, co, h3, hmo⟩ := h.ops.form
  subst h1 h2 h3
  have K1 := (Keeps.refl (fun _ => False) w).alloc (.cells #[.int .i64 t.n, .slice ai t.init.length ci, .slice ag t.goal.length cg, .slice ao t.ops.length co] 25)
  have HT := h.keeps0 K1
  have HB := Four.new w (.int .i64 t.n) (.slice ai t.init.length ci) (.slice ag t.goal.length cg) (.slice ao t.ops.length co) 25
  replace HT := Lib.hid HT; replace HB := Lib.hid HB; have OK := Lib.hid ok; have K1 := Lib.hid K1
  clear h ok
  go_enter Try.func87, Try.ntmps87
  go_upto_region 1 with fail
  generalize (w.alloc (.cells #[.int .i64 t.n, .slice ai t.init.length ci, .slice ag t.goal.length cg, .slice ao t.ops.length co] 25)) = w1 at HT HB K1 ⊢
  obtain ⟨d0, d1, d2, d3⟩ := HB.out
  have hbx := HB.out.lt
  have BI := Lib.hid (set_bound OK.out.init OK.out.n1); have BG := Lib.hid (set_bound OK.out.goal OK.out.n1)
  go_still_tail 7, (by kernel_rfl)
  still_call (word_still (HT.out.init.keeps0 ((Keeps.refl _ _).drew)) BI.out)
  repeat still_step
  still_call (word_still (HT.out.goal.keeps0 ((Keeps.refl _ _).drew)) BG.out)
  repeat still_step
  refine wpStill_nil ?_
  change wpList _ _ _ _ _ w1.drew
  have K2 := Lib.hid (K1.out.drew)
  have HT2 := Lib.hid (HT.out.keeps0 ((Keeps.refl _ _).drew))
  have HB2 := Lib.hid (HB.out.keeps0 ((Keeps.refl _ _).drew))
  generalize w1.drew = w2 at K2 HT2 HB2 ⊢
  clear d0 d1 d2 d3 hbx
  obtain ⟨d0, d1, d2, d3⟩ := HB2.out
  have hbx := HB2.out.lt
  obtain ⟨i0, hi0, hz0, hz1, hz2⟩ := info_parts Try.info_mask
  have HC := Lib.hid (HT2.out.ops.cell rfl)
  go_wp2_with fail
  obtain ⟨bb, hbb⟩ : ∃ bb, w2.heap.size = bb := ⟨_, rfl⟩
  have HS : Hid (WordsAt (w2.alloc (.cells #[.int .u32 ((wd t.init : Nat) : Int), .int .u32 ((wd t.goal : Nat) : Int), .slice none 0 0] 143)) bb bb (wd t.init) (wd t.goal) (.slice none 0 0) (wordsOf (t.ops.take 0)) ∧ Keeps (fun _ => False) w2 (w2.alloc (.cells #[.int .u32 ((wd t.init : Nat) : Int), .int .u32 ((wd t.goal : Nat) : Int), .slice none 0 0] 143))) :=
    ⟨⟨by rw [← hbb]; exact heap_alloc_new _ _, World.ownsRow_nil _ _ _ _, Nat.le_refl _, by simp [Value.ownBlock]⟩, (Keeps.refl _ _).alloc _⟩
  rw [hbb]
  have HBB := Lib.hid hbb
  clear hbb
  generalize (w2.alloc (.cells #[.int .u32 ((wd t.init : Nat) : Int), .int .u32 ((wd t.goal : Nat) : Int), .slice none 0 0] 143)) = w3 at HS ⊢
  go_loopw [17] (fun i wr => ∃ k : Nat, k ≤ t.ops.length ∧ i = .int .i64 (k : Int) ∧ (∃ v, WordsAt wr bb bb (wd t.init) (wd t.goal) v (wordsOf (t.ops.take k))) ∧ Keeps (fun _ => False) w2 wr) (fun i _ => t.ops.length - (intOf i).toNat)
  case atStart => exact ⟨0, Nat.zero_le _, rfl, ⟨_, HS.out.1⟩, HS.out.2⟩
  case round =>
    obtain ⟨k, hk, rfl, ⟨v, hw⟩, hkw⟩ := hrel
    have HW := Lib.hid hw; have KW := Lib.hid hkw
    clear hw hkw
    by_cases hlt : k < t.ops.length
    · obtain ⟨bo, oo, rfl, hcell⟩ := HC.out (by omega)
      obtain ⟨o, ho⟩ : ∃ o, t.ops[k]? = some o := ⟨_, List.getElem?_eq_getElem hlt⟩
      obtain ⟨va, vb, vc, p0, p1, p2, p3, i1, i2, i3⟩ := hcell k o ho
      have hom := OK.out.ops o (List.mem_of_getElem? ho)
      have U1 := Lib.hid (set_bound hom.pre OK.out.n1); have U2 := Lib.hid (set_bound hom.add OK.out.n1); have U3 := Lib.hid (set_bound hom.del OK.out.n1)
      have HTK := Lib.hid (take_getS ho)
      have q0 := KW.out.cell p0 (fun h => h)
      have q1 := KW.out.cell p1 (fun h => h)
      have q2 := KW.out.cell p2 (fun h => h)
      have q3 := KW.out.cell p3 (fun h => h)
      obtain ⟨a1, k1, f1, _⟩ := i1.form
      obtain ⟨a2, k2, f2, _⟩ := i2.form
      obtain ⟨a3, k3, f3, _⟩ := i3.form
      subst f1 f2 f3
      have K4 := (Keeps.refl (fun _ => False) wr).alloc (.cells #[.slice a1 o.pre.length k1, .slice a2 o.add.length k2, .slice a3 o.del.length k3, .int .i64 o.cost] 78)
      have HO4 := Four.new wr (.slice a1 o.pre.length k1) (.slice a2 o.add.length k2) (.slice a3 o.del.length k3) (.int .i64 o.cost) 78
      have I1 := Lib.hid (i1.keeps0 (KW.out.trans K4)); have I2 := Lib.hid (i2.keeps0 (KW.out.trans K4)); have I3 := Lib.hid (i3.keeps0 (KW.out.trans K4))
      clear hcell ho hom p0 p1 p2 p3 i1 i2 i3
      go_upto_region 5 with fail
      have KW4 := Lib.hid (KW.out.trans K4)
      have HO4' := Lib.hid HO4
      have HW4 := Lib.hid (HW.out.keeps0 K4)
      clear K4 HO4
      obtain ⟨b4, hb4⟩ : ∃ b4, wr.heap.size = b4 := ⟨_, rfl⟩
      rw [hb4] at HO4' ⊢
      have hv4 : v.ownBlock ≠ some b4 := fun e => by have := (World.ownsRow.lt HW.out.own b4 e).2; omega
      have hbb4 : b4 ≠ bb := by have := lt_of_heap HW.out.blk; omega
      have HNE := Lib.hid hbb4
      clear q0 q1 q2 q3 hb4 hbb4
      generalize (wr.alloc (.cells #[.slice a1 o.pre.length k1, .slice a2 o.add.length k2, .slice a3 o.del.length k3, .int .i64 o.cost] 78)) = w4 at KW4 HO4' HW4 I1 I2 I3 ⊢
      obtain ⟨c0, c1, c2, c3⟩ := HO4'.out
      have g2 : w4.cell? ⟨bb, 2, none⟩ = some v := by rw [cell_of_blk HW4.out.blk]; rfl
      have gz : w4.frozen? ⟨bb, 2, none⟩ = false := frozen_of_blk HW4.out.blk
      have gl := lt_of_heap HW4.out.blk
      have hg4 := HO4'.out.lt
      have hbb4 := HNE.out
      have J1 := Lib.hid (word_still (I1.out.keeps0 ((Keeps.refl _ _).drew)) U1.out)
      have J2 := Lib.hid (word_still (I2.out.keeps0 ((Keeps.refl _ _).drew)) U2.out)
      have J3 := Lib.hid (word_still (I3.out.keeps0 ((Keeps.refl _ _).drew)) U3.out)
      have hnb : (wordsOf (t.ops.take k)).length ≤ 40 := by unfold wordsOf; simp; have := OK.out.few; omega
      have hbase : bb ≤ w4.heap.size := by omega
      have e1 := World.new_ne w4 ⟨bb, 2, none⟩ g2
      refine wp_region_L (by kernel_rfl) (fun w' => w'.cell? ⟨bb, 2, none⟩ = some v ∧ w'.cell? ⟨b4, 0, none⟩ = some (.slice a1 o.pre.length k1) ∧ w'.cell? ⟨b4, 1, none⟩ = some (.slice a2 o.add.length k2) ∧ w'.cell? ⟨b4, 2, none⟩ = some (.slice a3 o.del.length k3) ∧ w'.cell? ⟨b4, 3, none⟩ = some (.int .i64 o.cost)) [0, 1, 2, 3, 4, 5, 6, 8, 9, 11, 12, 14, 15, 16] ?_
      have hS : w4.drew.cell? ⟨bb, 2, none⟩ = some v ∧ w4.drew.cell? ⟨b4, 0, none⟩ = some (.slice a1 o.pre.length k1) ∧ w4.drew.cell? ⟨b4, 1, none⟩ = some (.slice a2 o.add.length k2) ∧ w4.drew.cell? ⟨b4, 2, none⟩ = some (.slice a3 o.del.length k3) ∧ w4.drew.cell? ⟨b4, 3, none⟩ = some (.int .i64 o.cost) := ⟨g2, c0, c1, c2, c3⟩
      refine wpAnyL_take (i := 0) (v := ?_) rfl (by decide) (by kernel_rfl) (by kernel_rfl) (by kernel_rfl) (fun _ _ _ h => h) rfl ?_ hS ?_
      rotate_left
      · (intro w' hSw; obtain ⟨t0, t1, t2, t3, t4⟩ := hSw; go_simp; try with_reducible rfl)
      try simp only [Act.put, List.setIfInBounds_toArray]
      refine wpAnyL_take (i := 1) (v := ?_) rfl (by decide) (by kernel_rfl) (by kernel_rfl) (by kernel_rfl) (fun _ _ _ h => h) rfl ?_ hS ?_
      rotate_left
      · (intro w' hSw; obtain ⟨t0, t1, t2, t3, t4⟩ := hSw; go_simp; try with_reducible rfl)
      try simp only [Act.put]
      refine wpAnyL_take (i := 2) (v := ?_) rfl (by decide) (by kernel_rfl) (by kernel_rfl) (by kernel_rfl) (fun _ _ _ h => h) rfl ?_ hS ?_
      rotate_left
      · (intro w' hSw; obtain ⟨t0, t1, t2, t3, t4⟩ := hSw; go_simp; try with_reducible rfl)
      try simp only [Act.put]
      refine wpAnyL_take (i := 3) (v := ?_) rfl (by decide) (by kernel_rfl) (by kernel_rfl) (by kernel_rfl) (fun _ _ _ h => h) rfl ?_ hS ?_
      rotate_left
      · (intro w' hSw; obtain ⟨t0, t1, t2, t3, t4⟩ := hSw; go_simp; try with_reducible rfl)
      try simp only [Act.put]
      refine wpAnyL_take (i := 4) (v := ?_) rfl (by decide) (by kernel_rfl) (by kernel_rfl) (by kernel_rfl) (fun _ _ _ h => h) rfl ?_ hS ?_
      rotate_left
      · (intro w' hSw; obtain ⟨t0, t1, t2, t3, t4⟩ := hSw; go_simp; try with_reducible rfl)
      try simp only [Act.put]
      refine wpAnyL_take (i := 5) (v := ?_) rfl (by decide) (by kernel_rfl) (by kernel_rfl) (by kernel_rfl) (fun _ _ _ h => h) rfl ?_ hS ?_
      rotate_left
      · (intro w' hSw; obtain ⟨t0, t1, t2, t3, t4⟩ := hSw; go_simp; try with_reducible rfl)
      try simp only [Act.put]
      refine wpAnyL_take (i := 6) (v := ?_) rfl (by decide) (by kernel_rfl) (by kernel_rfl) (by kernel_rfl) (fun _ _ _ h => h) rfl ?_ hS ?_
      rotate_left
      · (intro w' hSw; obtain ⟨t0, t1, t2, t3, t4⟩ := hSw; go_simp; try with_reducible rfl)
      try simp only [Act.put]
      refine wpAnyL_take (i := 8) (v := ?_) rfl (by decide) (by kernel_rfl) (by kernel_rfl) (by kernel_rfl) (fun _ _ _ h => h) rfl ?_ hS ?_
      rotate_left
      · (intro w' hSw; obtain ⟨t0, t1, t2, t3, t4⟩ := hSw; go_simp; try with_reducible rfl)
      try simp only [Act.put]
      refine wpAnyL_take (i := 9) (v := ?_) rfl (by decide) (by kernel_rfl) (by kernel_rfl) (by kernel_rfl) (fun _ _ _ h => h) rfl ?_ hS ?_
      rotate_left
      · (intro w' hSw; obtain ⟨t0, t1, t2, t3, t4⟩ := hSw; go_simp; try with_reducible rfl)
      try simp only [Act.put]
      refine wpAnyL_take (i := 11) (v := ?_) rfl (by decide) (by kernel_rfl) (by kernel_rfl) (by kernel_rfl) (fun _ _ _ h => h) rfl ?_ hS ?_
      rotate_left
      · (intro w' hSw; obtain ⟨t0, t1, t2, t3, t4⟩ := hSw; go_simp; try with_reducible rfl)
      try simp only [Act.put]
      refine wpAnyL_take (i := 12) (v := ?_) rfl (by decide) (by kernel_rfl) (by kernel_rfl) (by kernel_rfl) (fun _ _ _ h => h) rfl ?_ hS ?_
      rotate_left
      · (intro w' hSw; obtain ⟨t0, t1, t2, t3, t4⟩ := hSw; go_simp; try with_reducible rfl)
      try simp only [Act.put]
      refine wpAnyL_take (i := 14) (v := ?_) rfl (by decide) (by kernel_rfl) (by kernel_rfl) (by kernel_rfl) (fun _ _ _ h => h) rfl ?_ hS ?_
      rotate_left
      · (intro w' hSw; obtain ⟨t0, t1, t2, t3, t4⟩ := hSw; go_simp; try with_reducible rfl)
      try simp only [Act.put]
      refine wpAnyL_take (i := 15) (v := ?_) rfl (by decide) (by kernel_rfl) (by kernel_rfl) (by kernel_rfl) (fun _ _ _ h => h) rfl ?_ hS ?_
      rotate_left
      · (intro w' hSw; obtain ⟨t0, t1, t2, t3, t4⟩ := hSw; go_simp; try with_reducible rfl)
      try simp only [Act.put]
      refine wpAnyL_one (i := 7) rfl (by kernel_rfl) (fun K hK => ?_)
      go_simp
      refine J1.out.mono ?_; rintro e w' ⟨rfl, rfl⟩
      refine hK _ _ hS ?_
      clear hK K
      try simp only [Act.put, List.setIfInBounds_toArray, List.set_cons_zero, List.set_cons_succ]
      refine wpAnyL_one (i := 10) rfl (by kernel_rfl) (fun K hK => ?_)
      go_simp
      refine J2.out.mono ?_; rintro e w' ⟨rfl, rfl⟩
      refine hK _ _ hS ?_
      clear hK K
      try simp only [Act.put, List.setIfInBounds_toArray, List.set_cons_zero, List.set_cons_succ]
      refine wpAnyL_one (i := 13) rfl (by kernel_rfl) (fun K hK => ?_)
      go_simp
      refine J3.out.mono ?_; rintro e w' ⟨rfl, rfl⟩
      refine hK _ _ hS ?_
      clear hK K
      try simp only [Act.put, List.setIfInBounds_toArray, List.set_cons_zero, List.set_cons_succ]
      refine wpAnyL_take (i := 16) (v := ?_) rfl (by decide) (by kernel_rfl) (by kernel_rfl) (by kernel_rfl) (fun _ _ _ h => h) rfl ?_ hS ?_
      rotate_left
      · (intro w' hSw; obtain ⟨t0, t1, t2, t3, t4⟩ := hSw; go_simp; try with_reducible rfl)
      try simp only [Act.put, List.setIfInBounds_toArray]
      refine wpAnyL_one (i := 17) rfl (by kernel_rfl) (fun K hK => ?_)
      go_simp
      refine hK _ _ ?_ ?_
      · obtain ⟨t0, t1, t2, t3, t4⟩ := hS
        have kk := (Keeps.refl (fun _ => False) w4.drew).alloc (.cells #[.int .u32 ((wd o.pre : Nat) : Int), .int .u32 ((wd o.add : Nat) : Int), .int .u32 ((wd o.del : Nat) : Int), .int .i64 o.cost] 157)
        exact ⟨kk.cell t0 (fun h => h), kk.cell t1 (fun h => h), kk.cell t2 (fun h => h), kk.cell t3 (fun h => h), kk.cell t4 (fun h => h)⟩
      clear hK K hS
      try simp only [Act.put, List.setIfInBounds_toArray, List.set_cons_zero, List.set_cons_succ]
      refine wpAnyL_one (i := 18) rfl (by kernel_rfl) (fun K hK => ?_)
      refine step_append_lies _ (by rfl) (.tmp 25) (.tmp 38) 141 (by rfl) bb 157 i0 _ 4 24 Try.underlying141 hi0 hz0 hz1 hz2 rfl (by omega) v (wordsOf (t.ops.take k)).length (wopCells (wordsOf (t.ops.take k))) (by rfl) ((HW4.out.own.drew).alloc _) ⟨w4.heap.size, 0, none⟩ 1 1 [.int .u32 ((wd o.pre : Nat) : Int), .int .u32 ((wd o.add : Nat) : Int), .int .u32 ((wd o.del : Nat) : Int), .int .i64 o.cost] (by rfl) (by rfl) (World.news_of_block (cs := #[.int .u32 ((wd o.pre : Nat) : Int), .int .u32 ((wd o.add : Nat) : Int), .int .u32 ((wd o.del : Nat) : Int), .int .i64 o.cost]) (t := 157) (fr := (0, 0)) (heap_alloc_new w4.drew _)) (by simp [Value.oneCell']) (by omega) (by unfold maxLen; omega) (by omega) (by simp; omega) (w4.heap.size + 1) (by simp) ?_
      intro g cap w5 hown hgrow hat hlt5
      have s0 := grown_cell (w4 := w4) hgrow g2 HW4.out.ne
      have s1 := grown_cell (w4 := w4) hgrow c0 hv4
      have s2 := grown_cell (w4 := w4) hgrow c1 hv4
      have s3 := grown_cell (w4 := w4) hgrow c2 hv4
      have s4 := grown_cell (w4 := w4) hgrow c3 hv4
      have sb := Lib.hid (grown_heap (w4 := w4) hgrow HW4.out.blk HW4.out.ne)
      have sz := frozen_of_blk (o := 2) sb.out
      have sl := lt_of_heap sb.out
      refine hK _ _ ⟨s0, s1, s2, s3, s4⟩ ?_
      clear hK K s1 s2 s3 s4
      try simp only [Act.put, List.setIfInBounds_toArray]
      refine wpAnyL_late (i := 19) rfl (by kernel_rfl) (by kernel_rfl) (fun K hK => ?_)
      go_simp
      refine hK _ _ ?_
      clear hK K
      refine wpAnyL_late (i := 20) rfl (by kernel_rfl) (by kernel_rfl) (fun K hK => ?_)
      go_simp
      refine hK _ _ ?_
      clear hK K
      refine wpAnyL_late (i := 21) rfl (by kernel_rfl) (by kernel_rfl) (fun K hK => ?_)
      go_simp
      refine hK _ _ ?_
      clear hK K
      refine wpAnyL_done (by kernel_rfl) ?_ _
      have HN := Lib.hid (show WordsAt (w5.setCell ⟨bb, 2, none⟩ (.slice (some ⟨g, 0, none⟩) ((wordsOf (t.ops.take k)).length + 1) cap)) bb bb (wd t.init) (wd t.goal) (.slice (some ⟨g, 0, none⟩) ((wordsOf (t.ops.take k)).length + 1) cap) (wordsOf (t.ops.take (k + 1))) by
        have e : wordsOf (t.ops.take (k + 1)) = wordsOf (t.ops.take k) ++ [o.word] := by rw [HTK.out]; unfold wordsOf; simp
        rw [e]
        exact WordsAt.push (w4 := w4) (p := o.word) HW4.out hgrow rfl hown hat)
      have HKN := Lib.hid (WordsAt.pushKeeps (w4 := w4) HW4.out hgrow HBB.out KW4.out (.slice (some ⟨g, 0, none⟩) ((wordsOf (t.ops.take k)).length + 1) cap))
      clear hown hgrow hat s0 sz sl
      generalize (w5.setCell ⟨bb, 2, none⟩ (.slice (some ⟨g, 0, none⟩) ((wordsOf (t.ops.take k)).length + 1) cap)) = w6 at HN HKN ⊢
      go_wp2_with fail
      go_roundw
      case rel => exact ⟨k + 1, by omega, by go_num, ⟨_, HN.out⟩, HKN.out⟩
      case measure => simp [intOf]; omega
    · obtain rfl : k = t.ops.length := by omega
      have hf := HW.out
      rw [List.take_length] at hf
      have HFIN := Lib.hid (show WordsAt wr w.heap.size bb (wd t.init) (wd t.goal) v (wordsOf t.ops) from ⟨hf.blk, ownsRow_mono4 hf.own (by have := K2.out.size; have := HBB.out; omega), by have := K2.out.size; have := HBB.out; omega, hf.ne⟩)
      clear hf
      go_wp2_with fail
      go_ret
      exact ⟨bb, v, rfl, HFIN.out, K2.out.trans KW.out⟩

end Go.Proofs.Ytcfcmmajlkkabaa
