/- (*space.Words).Start, Goal, Steps, and the iterator that Steps returns. -/
import Derived.Test.YtcfcmmajlkkabaaOf
import Derived.Test.YtcfcmmajlkkabaaTaskA
import Derived.RangeFuncNested
import Derived.RangeFuncBound
import Derived.RangeFuncCalls
import Derived.RangeFuncLeaves
import Derived.Shelf.Abstract
import Derived.Shelf.RegionOpen
import Derived.OwnWalkIn
import Derived.TacticsInMore
import Derived.LoopNIn
import Derived.LoopIn
namespace Go.Proofs.Ytcfcmmajlkkabaa
open Go.RowKit Go.Shelf
attribute [local go_sem] Oper.semAt_some

structure Stp where
  op : Nat
  cost : Int
  to : Nat

def stepsFrom : Nat → List Wop → Nat → List Stp
  | _, [], _ => []
  | i, o :: r, s => if o.can s then ⟨i, o.cost, o.next s⟩ :: stepsFrom (i + 1) r s else stepsFrom (i + 1) r s
def wsteps (ops : List Wop) (s : Nat) : List Stp := stepsFrom 0 ops s

theorem stepsFrom_snoc (l : List Wop) (o : Wop) (s : Nat) : ∀ i, stepsFrom i (l ++ [o]) s = stepsFrom i l s ++ (if o.can s then [⟨i + l.length, o.cost, o.next s⟩] else []) := by
  induction l with
  | nil => intro i; simp only [List.nil_append, stepsFrom, List.length_nil, Nat.add_zero]
  | cons a r ih =>
    intro i
    rw [List.cons_append, stepsFrom, stepsFrom, ih]
    have : i + 1 + r.length = i + (a :: r).length := by simp; omega
    rw [this]
    split <;> simp

theorem wsteps_nexts (ops : List Wop) (s : Nat) : (wsteps ops s).map Stp.to = nexts ops s := by
  unfold wsteps nexts
  have : ∀ i, (stepsFrom i ops s).map Stp.to = (ops.filter fun o => o.can s).map fun o => o.next s := by
    induction ops with
    | nil => intro i; rfl
    | cons o r ih =>
      intro i
      rw [stepsFrom]
      cases h : o.can s
      · simp [h, ih]
      · simp [h, ih]
  exact this 0

theorem stepsFrom_mem {l : List Wop} {s : Nat} {x : Stp} : ∀ {i}, x ∈ stepsFrom i l s ↔ ∃ k o, l[k]? = some o ∧ o.can s = true ∧ x = ⟨i + k, o.cost, o.next s⟩ := by
  induction l with
  | nil => intro i; simp [stepsFrom]
  | cons a r ih =>
    intro i
    have hr : (∃ k o, r[k]? = some o ∧ o.can s = true ∧ x = ⟨i + 1 + k, o.cost, o.next s⟩) ↔ ∃ k o, (a :: r)[k + 1]? = some o ∧ o.can s = true ∧ x = ⟨i + (k + 1), o.cost, o.next s⟩ := by
      constructor
      · rintro ⟨k, o, h1, h2, h3⟩; exact ⟨k, o, by simpa using h1, h2, by rw [h3]; congr 1; omega⟩
      · rintro ⟨k, o, h1, h2, h3⟩; exact ⟨k, o, by simpa using h1, h2, by rw [h3]; congr 1; omega⟩
    rw [stepsFrom]
    by_cases h : a.can s = true
    · rw [if_pos h, List.mem_cons, ih, hr]
      constructor
      · rintro (rfl | ⟨k, o, h1, h2, h3⟩)
        · exact ⟨0, a, rfl, h, rfl⟩
        · exact ⟨k + 1, o, h1, h2, h3⟩
      · rintro ⟨k, o, h1, h2, h3⟩
        cases k with
        | zero => simp at h1; subst h1; exact .inl h3
        | succ k => exact .inr ⟨k, o, h1, h2, h3⟩
    · rw [if_neg h, ih, hr]
      constructor
      · rintro ⟨k, o, h1, h2, h3⟩; exact ⟨k + 1, o, h1, h2, h3⟩
      · rintro ⟨k, o, h1, h2, h3⟩
        cases k with
        | zero => simp at h1; subst h1; exact absurd h2 h
        | succ k => exact ⟨k, o, h1, h2, h3⟩

/-- All words of the operators fit 32 bits. -/
def WopsOk (ops : List Wop) : Prop := ∀ o ∈ ops, o.pre < 4294967296 ∧ o.add < 4294967296 ∧ o.del < 4294967296

theorem u32_andNot {a b : Nat} (ha : a < 4294967296) (hb : b < 4294967296) : bits .andNot .u32 (a : Int) (b : Int) = ((andN a b : Nat) : Int) := by
  have hB : ∀ (x y : BitVec 32), x.toNat = a → y.toNat = b → IntKind.u32.wrap ((x &&& ~~~y).toNat : Int) = ((andN a b : Nat) : Int) := by
    intro x y hx hy
    have hn : (~~~y).toNat = b ^^^ 4294967295 := by
      apply Nat.eq_of_testBit_eq
      intro i
      have h1 : (4294967295 : Nat).testBit i = decide (i < 32) := by rw [show (4294967295 : Nat) = 2 ^ 32 - 1 by decide, Nat.testBit_two_pow_sub_one]
      rw [Nat.testBit_xor, h1, ← hy, BitVec.testBit_toNat, BitVec.testBit_toNat, BitVec.getLsbD_not]
      by_cases hi : i < 32
      · simp [hi]
      · simp [hi, BitVec.getLsbD_of_ge y i (by omega)]
    rw [BitVec.toNat_and, hx, hn, IntKind.wrap_u32]
    unfold andN
    have : a &&& (b ^^^ 4294967295) ≤ a := Nat.and_le_left
    omega
  exact hB (BitVec.ofInt 32 (a : Int)) (BitVec.ofInt 32 (b : Int)) (by rw [BitVec.ofInt_natCast, BitVec.toNat_ofNat]; omega) (by rw [BitVec.ofInt_natCast, BitVec.toNat_ofNat]; omega)

theorem can_bits {s : Nat} {o : Wop} (hs : s < 4294967296) (ho : o.pre < 4294967296) : (bits .and .u32 (s : Int) (o.pre : Int) == (o.pre : Int)) = o.can s := by
  rw [(u32_bits hs ho).1]
  unfold Wop.can
  cases h : s &&& o.pre == o.pre with
  | true => rw [beq_iff_eq] at h ⊢; exact_mod_cast h
  | false => rw [beq_eq_false_iff_ne] at h ⊢; intro e; exact h (by exact_mod_cast e)

theorem next_bits {s : Nat} {o : Wop} (hs : s < 4294967296) (hd : o.del < 4294967296) (ha : o.add < 4294967296) : bits .or .u32 (bits .andNot .u32 (s : Int) (o.del : Int)) (o.add : Int) = ((o.next s : Nat) : Int) := by
  rw [u32_andNot hs hd]
  exact (u32_bits (andN_lt (m := 32) hs) ha).2

theorem next_lt {s : Nat} {o : Wop} (hs : s < 4294967296) (ha : o.add < 4294967296) : o.next s < 4294967296 := by
  unfold Wop.next
  exact Nat.or_lt_two_pow (n := 32) (andN_lt hs) ha

/-! ### the methods -/
theorem method_Start (a : Addr) (w : World) : (method 333 84 (.pointer (some a)) "Start").run Try.prog w = .ok (79, .pointer (some a)) w := by kernel_rfl
theorem method_Steps (a : Addr) (w : World) : (method 333 84 (.pointer (some a)) "Steps").run Try.prog w = .ok (80, .pointer (some a)) w := by kernel_rfl

theorem WordsAt.cells {w : World} {base b s g : Nat} {v : Value} {ops : List Wop} (h : WordsAt w base b s g v ops) : w.cell? ⟨b, 0, none⟩ = some (.int .u32 (s : Int)) ∧ w.cell? ⟨b, 1, none⟩ = some (.int .u32 (g : Int)) ∧ w.cell? ⟨b, 2, none⟩ = some v :=
  ⟨by rw [cell_of_blk h.blk]; rfl, by rw [cell_of_blk h.blk]; rfl, by rw [cell_of_blk h.blk]; rfl⟩

theorem start_any (w : World) (base b s g : Nat) (v : Value) (ops : List Wop) (h : WordsAt w base b s g v ops) :
    Calls Try.prog 79 #[.pointer (some ⟨b, 0, none⟩)] w fun e w' => e = .returned (.int .u32 (s : Int)) ∧ w = w' := by
  obtain ⟨c0, c1, c2⟩ := h.cells
  clear h
  go_enter Try.func79, Try.ntmps79
  go_wp2_with fail
  go_ret
  exact ⟨rfl, rfl⟩

theorem goal_any (w : World) (base b s g x : Nat) (v : Value) (ops : List Wop) (h : WordsAt w base b s g v ops) :
    Calls Try.prog 60 #[.pointer (some ⟨b, 0, none⟩), .int .u32 (x : Int)] w fun e w' => e = .returned (.bool (bits .and .u32 (x : Int) (g : Int) == (g : Int))) ∧ ∃ q, w' = w.drewN q := by
  obtain ⟨c0, c1, c2⟩ := h.cells
  clear h
  go_enter Try.func60, Try.ntmps60
  go_wp2_with fail
  go_quiet (fail)
  go_wp2_with fail
  go_ret
  exact ⟨rfl, nq, rfl⟩

theorem steps_any (w : World) (b : Nat) (x : Nat) :
    Calls Try.prog 80 #[.pointer (some ⟨b, 0, none⟩), .int .u32 (x : Int)] w fun e w' =>
      e = .returned (.func (.func 98) #[] #[.pointer (some ⟨w.heap.size, 0, none⟩), .pointer (some ⟨w.heap.size + 1, 0, none⟩)]) ∧ w' = (w.alloc (.cells #[.pointer (some ⟨b, 0, none⟩)] 84)).alloc (.cells #[.int .u32 (x : Int)] 90) := by
  go_enter Try.func80, Try.ntmps80
  go_wp2_with fail
  go_ret
  exact ⟨rfl, rfl⟩

/-! ### the iterator -/
/-- A step from the word s. -/
abbrev StpOf (ops : List Wop) (s : Nat) := { x : Stp // x ∈ wsteps ops s }
def Stp.val (x : Stp) : Value := .agg #[.int .i64 (x.op : Int), .int .i64 x.cost, .int .u32 (x.to : Int)]

theorem wopCells_get (ops : List Wop) (j : Nat) (o : Wop) (h : ops[j]? = some o) : (wopCells ops)[j * 4]? = some (.int .u32 (o.pre : Int)) ∧ (wopCells ops)[j * 4 + 1]? = some (.int .u32 (o.add : Int)) ∧ (wopCells ops)[j * 4 + 2]? = some (.int .u32 (o.del : Int)) ∧ (wopCells ops)[j * 4 + 3]? = some (.int .i64 o.cost) := by
  induction ops generalizing j with
  | nil => simp at h
  | cons a r ih =>
    have e : wopCells (a :: r) = [.int .u32 (a.pre : Int), .int .u32 (a.add : Int), .int .u32 (a.del : Int), .int .i64 a.cost] ++ wopCells r := by simp [wopCells]
    cases j with
    | zero => simp at h; subst h; simp [wopCells]
    | succ j =>
      simp at h
      obtain ⟨h0, h1, h2, h3⟩ := ih j h
      rw [e, show (j + 1) * 4 = 4 + j * 4 by omega]
      refine ⟨?_, ?_, ?_, ?_⟩
      · rw [List.getElem?_append_right (by simp)]; simpa using h0
      · rw [List.getElem?_append_right (by simp; omega), show 4 + j * 4 + 1 - [Value.int IntKind.u32 (a.pre : Int), Value.int IntKind.u32 (a.add : Int), Value.int IntKind.u32 (a.del : Int), Value.int IntKind.i64 a.cost].length = j * 4 + 1 by simp; omega]; exact h1
      · rw [List.getElem?_append_right (by simp; omega), show 4 + j * 4 + 2 - [Value.int IntKind.u32 (a.pre : Int), Value.int IntKind.u32 (a.add : Int), Value.int IntKind.u32 (a.del : Int), Value.int IntKind.i64 a.cost].length = j * 4 + 2 by simp; omega]; exact h2
      · rw [List.getElem?_append_right (by simp; omega), show 4 + j * 4 + 3 - [Value.int IntKind.u32 (a.pre : Int), Value.int IntKind.u32 (a.add : Int), Value.int IntKind.u32 (a.del : Int), Value.int IntKind.i64 a.cost].length = j * 4 + 3 by simp; omega]; exact h3

theorem WordsAt.opcell {w : World} {base b s g : Nat} {v : Value} {ops : List Wop} (h : WordsAt w base b s g v ops) {k : Nat} {o : Wop} (hk : ops[k]? = some o) :
    ∃ gg cap, v = .slice (some ⟨gg, 0, none⟩) ops.length cap ∧ gg < w.heap.size ∧ w.cell? ⟨gg, k * 4, none⟩ = some (.int .u32 (o.pre : Int)) ∧ w.cell? ⟨gg, k * 4 + 1, none⟩ = some (.int .u32 (o.add : Int)) ∧ w.cell? ⟨gg, k * 4 + 2, none⟩ = some (.int .u32 (o.del : Int)) ∧ w.cell? ⟨gg, k * 4 + 3, none⟩ = some (.int .i64 o.cost) := by
  have hl : k < ops.length := (List.getElem?_eq_some_iff.1 hk).1
  rcases h.own.2 with ⟨_, h0⟩ | ⟨gg, cap, cur, hv, hb, hg, hn, hm, hs, ht⟩
  · omega
  · obtain ⟨e0, e1, e2, e3⟩ := wopCells_get ops k o hk
    have get : ∀ j x, (wopCells ops)[j]? = some x → w.cell? ⟨gg, j, none⟩ = some x := by
      intro j x hx
      rw [cell_of_blk hg]
      rw [← ht, List.getElem?_take] at hx
      split at hx
      · simpa using hx
      · cases hx
    exact ⟨gg, cap, hv, lt_of_heap hg, get _ _ e0, get _ _ e1, get _ _ e2, get _ _ e3⟩

theorem WordsAt.len {w : World} {base b s g : Nat} {v : Value} {ops : List Wop} (h : WordsAt w base b s g v ops) : ∃ ao cap, v = .slice ao ops.length cap := by
  rcases h.own.2 with ⟨hv, h0⟩ | ⟨gg, cap, cur, hv, _⟩
  · exact ⟨none, 0, by rw [hv, h0]⟩
  · exact ⟨_, cap, hv⟩

theorem WordsAt.below {w w' : World} {base b s g n₀ : Nat} {v : Value} {ops : List Wop} (h : WordsAt w base b s g v ops) (hb : Below n₀ w w') (hn : w.heap.size ≤ n₀) : WordsAt w' base b s g v ops :=
  h.keeps0 (Keeps.ofBelow (hb.mono hn) _)

theorem stepsFrom_take {ops : List Wop} {s k : Nat} {o : Wop} (h : ops[k]? = some o) : stepsFrom 0 (ops.take (k + 1)) s = stepsFrom 0 (ops.take k) s ++ (if o.can s then [⟨k, o.cost, o.next s⟩] else []) := by
  have hl : k < ops.length := (List.getElem?_eq_some_iff.1 h).1
  rw [take_getS h, stepsFrom_snoc]
  simp only [List.length_take, Nat.zero_add]
  rw [Nat.min_eq_left (by omega)]

theorem stepsFrom_prefix (l r : List Wop) (s : Nat) : ∀ i, stepsFrom i l s <+: stepsFrom i (l ++ r) s := by
  induction l with
  | nil => intro i; exact List.nil_prefix
  | cons a l ih =>
    intro i
    rw [List.cons_append, stepsFrom, stepsFrom]
    split
    · exact (List.cons_prefix_cons).2 ⟨rfl, ih _⟩
    · exact ih _
theorem stepsTo_prefix (ops : List Wop) (s k : Nat) : stepsFrom 0 (ops.take k) s <+: wsteps ops s := by
  have := stepsFrom_prefix (ops.take k) (ops.drop k) s 0
  rwa [List.take_append_drop] at this

/-- What a round must keep: all that lay below n₀, and block B. -/
def KpS (n₀ B : Nat) (W W' : World) : Prop := Below n₀ W W' ∧ W'.heap[B]? = W.heap[B]?
theorem KpS.refl (n₀ B : Nat) (W : World) : KpS n₀ B W W := ⟨Below.refl _ _, rfl⟩
theorem KpS.trans {n₀ B : Nat} {X Y Z : World} (h : KpS n₀ B X Y) (k : KpS n₀ B Y Z) : KpS n₀ B X Z := ⟨h.1.trans k.1, k.2.trans h.2⟩
theorem KpS.alloc {n₀ B : Nat} {X Y : World} (h : KpS n₀ B X Y) (hn : n₀ ≤ Y.heap.size) (hB : B < Y.heap.size) (o : Obj) : KpS n₀ B X (Y.alloc o) := ⟨h.1.alloc hn o, (Below.heap_alloc Y o B hB).trans h.2⟩
theorem KpS.cell {n₀ B : Nat} {X Y : World} (h : KpS n₀ B X Y) {v : Value} (hc : X.cell? ⟨B, 0, none⟩ = some v) : Y.cell? ⟨B, 0, none⟩ = some v := (World.cell?_of_block h.2).trans hc
theorem KpS.ofKeeps {n₀ B : Nat} {S : Nat → Prop} {X Y : World} (h : Keeps S X Y) (hn : n₀ ≤ X.heap.size) (hs : ∀ k, k < n₀ → ¬ S k) (hB : B < X.heap.size) (hsB : ¬ S B) : KpS n₀ B X Y := ⟨h.toBelow hn hs, h.block B hB hsB⟩
theorem kpS_b {n₀ B : Nat} {w : World} (hn : n₀ ≤ w.heap.size) (hB : B < w.heap.size) (W : World) (l : Nat) (o o' : Obj) (hl : w.heap.size ≤ l) (h : W.heap[l]? = some o) (h1 : o.isCells = false) (h2 : o.isWalk = false) : KpS n₀ B W (W.putObj l o') :=
  ⟨belowK_b hn W l o o' hl h h1 h2, World.putObj_heap_other (by omega)⟩

set_option maxRecDepth 100000 in
set_option maxHeartbeats 2000000 in
theorem steps1_in (F : Fence) (n : Nat) (hF : F.fn 98) (hro : F.round = none) (hn : 1 ≤ n) (l Bw Bs n₀ base b st g s : Nat) (v : Value) (ops : List Wop) (hops : WopsOk ops) (hmany : ops.length ≤ 1000) (hs : s < 4294967296) (J Jx : List (StpOf ops s) → World → Prop)
    (hY : ∀ pre x W, J pre W → pre.length < (wsteps ops s).length → YieldAt F (n - 1) Try.prog l #[x.1.val] W fun e W' =>
      (e = .returned (.bool true) ∧ J (pre ++ [x]) W' ∧ KpS n₀ Bs W W') ∨ (e = .returned (.bool false) ∧ Jx (pre ++ [x]) W'))
    (W : World) (hJ : AbidesFrom W.heap.size J) (hn₀ : n₀ ≤ W.heap.size) (hBw : W.cell? ⟨Bw, 0, none⟩ = some (.pointer (some ⟨b, 0, none⟩))) (hBs : W.cell? ⟨Bs, 0, none⟩ = some (.int .u32 (s : Int))) (hls : Bs < W.heap.size) (hw : ∃ w0 : World, WordsAt w0 base b st g v ops ∧ w0.heap.size ≤ n₀ ∧ Below n₀ w0 W) (h0 : J [] W) :
    CallsIn F n Try.prog 98 #[.func (.yield l) #[] #[], .pointer (some ⟨Bw, 0, none⟩), .pointer (some ⟨Bs, 0, none⟩)] W fun e W' => (∃ v, e = .returned v) ∧
      ((∃ ys, ys.map Subtype.val = wsteps ops s ∧ J ys W') ∨ (∃ pre, pre.map Subtype.val <+: wsteps ops s ∧ Jx pre W')) := by
  obtain ⟨w0, hw0, hz0, hb0⟩ := hw
  have HW := Lib.hid hw0; have HB0 := Lib.hid hb0
  obtain ⟨c0, c1, c2⟩ := (hw0.below hb0 hz0).cells
  obtain ⟨ao, ca, hv⟩ := hw0.len
  have HLB := Lib.hid (lt_of_heap hw0.blk)
  subst hv
  clear hw0 hb0
  refine callsIn_of_wp Try.func98 rfl hF ?_ hro
  simp only [Try.ntmps98, List.size_toArray, List.length_cons, List.length_nil, Nat.reduceAdd, Nat.reduceSub, Array.replicate_succ, Array.replicate_zero, List.push_toArray, List.append_toArray, List.nil_append, List.cons_append]
  gi_wp2
  gi_loopw [11] (fun i wr => ∃ k : Nat, k ≤ ops.length ∧ i = .int .i64 (k : Int) ∧ (∃ pre : List (StpOf ops s), pre.map Subtype.val = stepsFrom 0 (ops.take k) s ∧ J pre wr) ∧ KpS n₀ Bs W wr) (fun i _ => ops.length - (intOf i).toNat)
  case atStart => exact ⟨0, Nat.zero_le _, rfl, ⟨[], rfl, h0⟩, KpS.refl _ _ _⟩
  case round =>
    obtain ⟨k, hk, rfl, ⟨pre, hpre, hJp⟩, hnx⟩ := hrel
    by_cases hlt : k < ops.length
    · obtain ⟨o, ho⟩ : ∃ o, ops[k]? = some o := ⟨_, List.getElem?_eq_getElem hlt⟩
      have hwr := HW.out.below (HB0.out.trans hnx.1) hz0
      obtain ⟨d0, d1, d2⟩ := hwr.cells
      obtain ⟨gg, cap, hv, hgl, p0, p1, p2, p3⟩ := hwr.opcell ho
      simp only [Value.slice.injEq] at hv
      obtain ⟨rfl, _, rfl⟩ := hv
      have q2 : wr.cell? ⟨Bs, 0, none⟩ = some (.int .u32 (s : Int)) := hnx.cell hBs
      have hn₀r : n₀ ≤ wr.heap.size := Nat.le_trans hn₀ hnx.1.size
      have hls' : Bs < wr.heap.size := Nat.lt_of_lt_of_le hls hnx.1.size
      obtain ⟨u1, u2, u3⟩ := hops o (List.mem_of_getElem? ho)
      have HTK := Lib.hid (stepsFrom_take (s := s) ho)
      have HPR := Lib.hid hpre
      have HNX := Lib.hid hnx
      cases hc : o.can s with
      | true =>
        have hb : (bits .and .u32 (s : Int) (o.pre : Int) == (o.pre : Int)) = true := by rw [can_bits hs u1, hc]
        have e1 := next_bits (o := o) hs u3 u2
        have hmem : (⟨k, o.cost, o.next s⟩ : Stp) ∈ wsteps ops s := stepsFrom_mem.2 ⟨k, o, ho, hc, by simp⟩
        have hJ' := hJ pre wr (wr.alloc (.cells #[.int .u32 (o.pre : Int), .int .u32 (o.add : Int), .int .u32 (o.del : Int), .int .i64 o.cost] 157)) none hJp (World.grownBy_alloc wr _ none) (fun r e => by cases e)
        have hlen : pre.length < (wsteps ops s).length := by
          have h1 := (stepsTo_prefix ops s (k + 1)).length_le
          rw [HTK.out, hc, if_pos rfl, List.length_append, ← HPR.out] at h1
          simp at h1; omega
        obtain ⟨sx, hsx⟩ : ∃ sx : StpOf ops s, sx.1 = ⟨k, o.cost, o.next s⟩ := ⟨⟨_, hmem⟩, rfl⟩
        obtain ⟨fn, tmps, assign, body, hy, hR⟩ := hY pre sx _ hJ' hlen
        rw [hsx] at hy
        simp only [Stp.val] at hy
        have HN : Hid ((pre ++ [sx]).map Subtype.val = stepsFrom 0 (ops.take (k + 1)) s) := by unfold Hid; rw [HTK.out, hc, if_pos rfl, List.map_append, HPR.out]; simp [hsx]
        have HSX := Lib.hid hsx
        have HC := Lib.hid hc
        have HR := Lib.hid hR
        clear hpre hnx hwr ho hc hmem hsx u1 u2 u3 hJ' hJp hlen hR
        gi_wp2
        refine HR.out.mono ?_
        rintro e W3 (⟨rfl, hJ3, hk3⟩ | ⟨rfl, hJx3⟩)
        · have HJ3 := Lib.hid hJ3
          have HN3 := Lib.hid ((HNX.out.alloc hn₀r hls' (.cells #[.int .u32 (o.pre : Int), .int .u32 (o.add : Int), .int .u32 (o.del : Int), .int .i64 o.cost] 157)).trans hk3)
          clear hJ3 hk3
          gi_wp2
          go_roundw
          case rel => exact ⟨k + 1, by omega, by go_num, ⟨_, HN.out, HJ3.out⟩, HN3.out⟩
          case measure => simp [intOf]; omega
        · have HJx3 := Lib.hid hJx3
          clear hJx3
          gi_wp2
          refine bodyPost_ret (results_none rfl _ _ _) rfl ?_
          exact ⟨⟨_, rfl⟩, .inr ⟨_, by rw [HN.out]; exact stepsTo_prefix ops s (k + 1), HJx3.out⟩⟩
      | false =>
        have hb : (bits .and .u32 (s : Int) (o.pre : Int) == (o.pre : Int)) = false := by rw [can_bits hs u1, hc]
        have HN : Hid (pre.map Subtype.val = stepsFrom 0 (ops.take (k + 1)) s) := by unfold Hid; rw [HTK.out, hc]; simpa using HPR.out
        have HJ' := Lib.hid (hJ pre wr (wr.alloc (.cells #[.int .u32 (o.pre : Int), .int .u32 (o.add : Int), .int .u32 (o.del : Int), .int .i64 o.cost] 157)) none hJp (World.grownBy_alloc wr _ none) (fun r e => by cases e))
        clear hpre hnx hwr ho hc u1 u2 u3 hJp
        gi_wp2
        refine ⟨fun _ h => (by cases h), ?_⟩
        gi_wp2
        go_roundw
        case rel => exact ⟨k + 1, by omega, by go_num, ⟨pre, HN.out, HJ'.out⟩, HNX.out.alloc hn₀r hls' _⟩
        case measure => simp [intOf]; omega
    · obtain rfl : k = ops.length := by omega
      rw [List.take_length] at hpre
      gi_wp2
      go_end0
      exact ⟨⟨_, rfl⟩, .inl ⟨pre, hpre, hJp⟩⟩

/-- What Steps hands back gives the steps, in their order; or the first of them. -/
theorem steps_stops (F : Fence) (n : Nat) (hF : F.fn 98) (hro : F.round = none) (hn : 1 ≤ n) (Bw Bs n₀ base b st g s : Nat) (v : Value) (ops : List Wop) (hops : WopsOk ops) (hmany : ops.length ≤ 1000) (hs : s < 4294967296)
    (w : World) (hn₀ : n₀ ≤ w.heap.size) (hBw : w.cell? ⟨Bw, 0, none⟩ = some (.pointer (some ⟨b, 0, none⟩))) (hBs : w.cell? ⟨Bs, 0, none⟩ = some (.int .u32 (s : Int))) (hlw : Bw < w.heap.size) (hls : Bs < w.heap.size) (hw : ∃ w0 : World, WordsAt w0 base b st g v ops ∧ w0.heap.size ≤ n₀ ∧ Below n₀ w0 w) :
    SeqStopsK F n Try.prog 98 #[.pointer (some ⟨Bw, 0, none⟩), .pointer (some ⟨Bs, 0, none⟩)] (fun x : StpOf ops s => #[x.1.val]) (KpS n₀ Bs) (fun ys => ys.map Subtype.val = wsteps ops s) (fun pre => pre.map Subtype.val <+: wsteps ops s) (wsteps ops s).length w := by
  intro l J Jx W hW hJ _ hY h0
  obtain ⟨w0, h1, h2, h3⟩ := hw
  have hlt : n₀ ≤ W.heap.size := Nat.le_trans hn₀ hW.size
  have := steps1_in F n hF hro hn l Bw Bs n₀ base b st g s v ops hops hmany hs J Jx hY W hJ hlt ((hW.cell (p := ⟨Bw, 0, none⟩) hlw).trans hBw) ((hW.cell (p := ⟨Bs, 0, none⟩) hls).trans hBs) (Nat.lt_of_lt_of_le hls hW.size) ⟨w0, h1, h2, h3.trans (hW.mono hn₀)⟩ h0
  exact this

end Go.Proofs.Ytcfcmmajlkkabaa
