/- compile.Clone: a task's copy, in memory of its own. compile.Scale: the task with all costs times a number. A scaled task, in plain Lean: the same states, the same trees, the costs times the number. space: SpaceScalesWithCosts walked. No condition beyond what each theorem says. -/
import Derived.Test.YtdonadeodioplaaK13
import Derived.Test.YtdonadeodioplaaK12
import Derived.Test.YtdonadeodioplaaK14
import Derived.Test.YtdonadeodioplaaK9

namespace Go.Proofs.Ytdonadeodioplaa
open Go.RowKit Go.Sort Go.Proofs

/-- A slice of integers in memory of its own, beside a row. -/
def OwnI (W : World) (base : Nat) (v a : Value) (l : List Int) : Prop := Ints W a l ∧ ∀ k, a.ownBlock = some k → v.ownBlock ≠ some k ∧ base ≤ k ∧ k < W.heap.size
theorem OwnI.keepsS {S : Nat → Prop} {W W' : World} {base : Nat} {v a : Value} {l : List Int} (h : OwnI W base v a l) (hk : Keeps S W W') (hs : ∀ k, a.ownBlock = some k → ¬ S k) : OwnI W' base v a l :=
  ⟨h.1.keepsS hk (fun _ k hk' => hs k hk'), fun k hk' => ⟨(h.2 k hk').1, (h.2 k hk').2.1, Nat.lt_of_lt_of_le (h.2 k hk').2.2 hk.size⟩⟩
theorem OwnI.turn {W : World} {base : Nat} {v v' a : Value} {l : List Int} (h : OwnI W base v a l) (hv : ∀ k, a.ownBlock = some k → v'.ownBlock ≠ some k) : OwnI W base v' a l := ⟨h.1, fun k hk => ⟨hv k hk, (h.2 k hk).2⟩⟩

/-- A row of operators of the call's own. -/
structure OprRow (W : World) (base : Nat) (v : Value) (os : List Opr) (xs : List Value) : Prop where
  out : W.ownsRow base 39 4 v os.length xs
  st : ∀ i o, os[i]? = some o → ∃ a b c, xs[i * 4]? = some a ∧ xs[i * 4 + 1]? = some b ∧ xs[i * 4 + 2]? = some c ∧ xs[i * 4 + 3]? = some (.int .i64 o.cost) ∧ OwnI W base v a o.pre ∧ OwnI W base v b o.add ∧ OwnI W base v c o.del
theorem OprRow.keepsS {S : Nat → Prop} {W W' : World} {base : Nat} {v : Value} {os : List Opr} {xs : List Value} (h : OprRow W base v os xs) (hk : Keeps S W W') (hs : ∀ k, S k → k < base) : OprRow W' base v os xs :=
  ⟨hk.ownsRow h.out (fun k hv hS => by have := (World.ownsRow.lt h.out k hv).1; have := hs k hS; omega), fun i o ho => by
    obtain ⟨a, b, c, h1, h2, h3, h4, h5, h6, h7⟩ := h.st i o ho
    exact ⟨a, b, c, h1, h2, h3, h4, h5.keepsS hk (fun k hk' hS => by have := (h5.2 k hk').2.1; have := hs k hS; omega), h6.keepsS hk (fun k hk' hS => by have := (h6.2 k hk').2.1; have := hs k hS; omega), h7.keepsS hk (fun k hk' hS => by have := (h7.2 k hk').2.1; have := hs k hS; omega)⟩⟩
theorem OprRow.nil (W : World) (base : Nat) : OprRow W base (.slice none 0 0) [] [] := ⟨World.ownsRow_nil _ _ _ _, fun i o ho => by simp at ho⟩
theorem OprRow.opsAt {W : World} {base : Nat} {v : Value} {os : List Opr} {xs : List Value} (h : OprRow W base v os xs) (hm : os.length ≤ 1000) : OpsAt W v os := by
  rcases h.out.2 with ⟨rfl, h0⟩ | ⟨g, cap, cur, rfl, hb, hg, hn, hcm, hs, ht⟩
  · exact ⟨none, 0, by rw [h0], by unfold maxLen; omega, fun hp => by omega⟩
  · refine ⟨some ⟨g, 0, none⟩, cap, rfl, by unfold maxLen; omega, fun _ => ⟨g, 0, rfl, fun i o ho => ?_⟩⟩
    obtain ⟨a, b, c, h1, h2, h3, h4, h5, h6, h7⟩ := h.st i o ho
    have hi := (List.getElem?_eq_some_iff.1 ho).1
    refine ⟨a, b, c, ?_, ?_, ?_, ?_, h5.1, h6.1, h7.1⟩
    · rw [Nat.zero_add, h.out.cellAt _ (by omega)]; exact h1
    · rw [Nat.zero_add, h.out.cellAt _ (by omega)]; exact h2
    · rw [Nat.zero_add, h.out.cellAt _ (by omega)]; exact h3
    · rw [Nat.zero_add, h.out.cellAt _ (by omega)]; exact h4
theorem OprRow.snoc {W7 W8 : World} {base : Nat} {v vo' a b c : Value} {Q : List Opr} {xs : List Value} {o : Opr} (h : OprRow W7 base v Q xs) (ha : OwnI W7 base v a o.pre) (hb : OwnI W7 base v b o.add) (hc : OwnI W7 base v c o.del)
    (K78 : Keeps (fun k => v.ownBlock = some k) W7 W8) (ho : W8.ownsRow base 39 4 vo' (Q.length + 1) (xs ++ [a, b, c, .int .i64 o.cost])) (hg : ∀ k, vo'.ownBlock = some k → v.ownBlock = some k ∨ W7.heap.size ≤ k) : OprRow W8 base vo' (Q ++ [o]) (xs ++ [a, b, c, .int .i64 o.cost]) := by
  have hxl : xs.length = Q.length * 4 := h.out.1
  have key : ∀ {u l}, OwnI W7 base v u l → OwnI W8 base vo' u l := fun {u l} hu => (hu.keepsS K78 (fun k hk e => (hu.2 k hk).1 e)).turn (fun k hk e => by
    rcases hg k e with h4 | h4
    · exact (hu.2 k hk).1 h4
    · have := (hu.2 k hk).2.2; omega)
  refine ⟨by rw [List.length_append]; exact ho, fun i p hp => ?_⟩
  by_cases hlt : i < Q.length
  · rw [List.getElem?_append_left hlt] at hp
    obtain ⟨a', b', c', h1, h2, h3, h4, h5, h6, h7⟩ := h.st i p hp
    exact ⟨a', b', c', by rw [List.getElem?_append_left (by omega)]; exact h1, by rw [List.getElem?_append_left (by omega)]; exact h2, by rw [List.getElem?_append_left (by omega)]; exact h3, by rw [List.getElem?_append_left (by omega)]; exact h4, key h5, key h6, key h7⟩
  · have hil := (List.getElem?_eq_some_iff.1 hp).1
    have hi : i = Q.length := by simp at hil; omega
    subst hi
    rw [List.getElem?_append_right (Nat.le_refl _)] at hp
    simp at hp; subst hp
    refine ⟨a, b, c, ?_, ?_, ?_, ?_, key ha, key hb, key hc⟩
    · rw [← hxl, List.getElem?_append_right (Nat.le_refl _)]; simp
    · rw [← hxl, List.getElem?_append_right (by omega)]; simp
    · rw [← hxl, List.getElem?_append_right (by omega)]; simp
    · rw [← hxl, List.getElem?_append_right (by omega)]; simp

theorem Try.info_oper : (Try.prog.info? 39).map (fun i => (i.zero, i.size, i.bytes)) = some (some (.agg #[.slice none 0 0, .slice none 0 0, .slice none 0 0, .int .i64 0]), 4, 80) := by kernel_rfl
theorem own_ne_box {W : World} {base b n : Nat} {e T : TypeId} {size : Nat} {v : Value} {xs : List Value} {cs : Array Value} {fr : Nat × Nat} (h : W.ownsRow base e size v n xs) (hb : W.heap[b]? = some (.cells cs T fr)) (hne : e ≠ T) : ∀ k, v.ownBlock = some k → k ≠ b := fun k hk e' => by
  subst e'
  rcases h.2 with ⟨rfl, _⟩ | ⟨g, cap, cur, rfl, _, hg, _⟩
  · cases hk
  · cases (show some g = some k from hk)
    rw [hb] at hg; cases hg; exact hne rfl

theorem quad_all {w : World} {B : Nat} {a b c d : Value} {T : TypeId} (h : w.heap[B]? = some (.cells #[a, b, c, d] T (0, 0))) : w.cell? ⟨B, 0, none⟩ = some a ∧ w.cell? ⟨B, 1, none⟩ = some b ∧ w.cell? ⟨B, 2, none⟩ = some c ∧ w.cell? ⟨B, 3, none⟩ = some d ∧
    w.frozen? ⟨B, 0, none⟩ = false ∧ w.frozen? ⟨B, 1, none⟩ = false ∧ w.frozen? ⟨B, 2, none⟩ = false ∧ w.frozen? ⟨B, 3, none⟩ = false ∧ B < w.heap.size :=
  ⟨by rw [cell_of_blk h]; rfl, by rw [cell_of_blk h]; rfl, by rw [cell_of_blk h]; rfl, by rw [cell_of_blk h]; rfl, frozen_of_blk h, frozen_of_blk h, frozen_of_blk h, frozen_of_blk h, lt_of_heap h⟩

structure CloneI (t : Tsk) (w7 : World) (bx : Nat) (v1 v2 : Value) (k : Nat) (v3 : Value) (xs : List Value) (wr : World) : Prop where
  box : wr.heap[bx]? = some (.cells #[.int .i64 t.n, v1, v2, v3] 25 (0, 0))
  row : OprRow wr w7.heap.size v3 (t.ops.take k) xs
  kp : Keeps (fun b => b = bx) w7 wr

theorem OwnI.of_own {W : World} {base b0 : Nat} {v a : Value} {l : List Int} (h : W.ownsRow b0 3 1 a l.length (l.map (Value.int .i64))) (hb : base ≤ b0) (hv : ∀ k, v.ownBlock = some k → k < b0) : OwnI W base v a l :=
  ⟨Ints.of_own h, fun k hk => by
    obtain ⟨h1, h2⟩ := World.ownsRow.lt h k hk
    exact ⟨fun e => by have := hv k e; omega, by omega, h2⟩⟩
theorem OprRow.mono {W : World} {base base' : Nat} {v : Value} {os : List Opr} {xs : List Value} (h : OprRow W base v os xs) (hb : base' ≤ base) : OprRow W base' v os xs :=
  ⟨ownsRow_mono h.out hb, fun i o ho => by
    obtain ⟨a, b, c, h1, h2, h3, h4, h5, h6, h7⟩ := h.st i o ho
    exact ⟨a, b, c, h1, h2, h3, h4, ⟨h5.1, fun k hk => ⟨(h5.2 k hk).1, by have := (h5.2 k hk).2.1; omega, (h5.2 k hk).2.2⟩⟩, ⟨h6.1, fun k hk => ⟨(h6.2 k hk).1, by have := (h6.2 k hk).2.1; omega, (h6.2 k hk).2.2⟩⟩, ⟨h7.1, fun k hk => ⟨(h7.2 k hk).1, by have := (h7.2 k hk).2.1; omega, (h7.2 k hk).2.2⟩⟩⟩⟩
/-- One operator more, the store into the box behind it. -/
theorem CloneI.push {t : Tsk} {w7 wr W7 w8 : World} {bx k cap gg : Nat} {v1 v2 v3 a b c : Value} {xs : List Value} {o : Opr} (h : CloneI t w7 bx v1 v2 k v3 xs wr) (ho : t.ops[k]? = some o) (hbx : bx < w7.heap.size) (K : Keeps (fun _ => False) wr W7) (ha : OwnI W7 w7.heap.size v3 a o.pre) (hb : OwnI W7 w7.heap.size v3 b o.add) (hc : OwnI W7 w7.heap.size v3 c o.del)
    (hg : W7.grownBy w8 v3.ownBlock) (hown : w8.ownsRow w7.heap.size 39 4 (.slice (some ⟨gg, 0, none⟩) (k + 1) cap) (k + 1) (xs ++ [a, b, c, .int .i64 o.cost])) (hat : v3.ownBlock = some gg ∨ gg = W7.heap.size) :
    CloneI t w7 bx v1 v2 (k + 1) (.slice (some ⟨gg, 0, none⟩) (k + 1) cap) (xs ++ [a, b, c, .int .i64 o.cost]) (w8.setCell ⟨bx, 3, none⟩ (.slice (some ⟨gg, 0, none⟩) (k + 1) cap)) := by
  have K78 : Keeps (fun k => v3.ownBlock = some k) W7 w8 := (Keeps.refl _ _).grown hg (fun k hk => .inl hk)
  have hkl : (t.ops.take k).length = k := by have := (List.getElem?_eq_some_iff.1 ho).1; simp; omega
  have R := (h.row.keepsS K (fun _ h => h.elim)).snoc ha hb hc K78 (vo' := .slice (some ⟨gg, 0, none⟩) (k + 1) cap) (by rw [hkl]; exact hown) (fun j hj => by
    cases (show some gg = some j from hj)
    rcases hat with e | e
    · exact .inl e
    · exact .inr (by omega))
  have hnb : ∀ j, v3.ownBlock = some j → w7.heap.size ≤ j := fun j hj => (World.ownsRow.lt h.row.out j hj).1
  have hb8 : w8.heap[bx]? = some (.cells #[.int .i64 t.n, v1, v2, v3] 25 (0, 0)) := K78.heap (K.heap h.box (fun h => h)) (fun e => by have := hnb _ e; omega)
  have KS : Keeps (fun b => b = bx) w8 (w8.setCell ⟨bx, 3, none⟩ (.slice (some ⟨gg, 0, none⟩) (k + 1) cap)) := (Keeps.refl (fun b => b = bx) w8).setCell (p := ⟨bx, 3, none⟩) (.inl rfl) _
  refine ⟨by rw [blk_set_same hb8]; rfl, ?_, ?_⟩
  · rw [take_getS ho]
    exact R.keepsS KS (fun j hj => by omega)
  · exact ((h.kp.trans' K (fun _ h => h.elim)).trans' K78 (fun j hj => .inr (hnb j hj))).trans' KS (fun j hj => .inl hj)

theorem keep5 {w w' : World} {bx b4 : Nat} {v a b c d : Value} (hk : Keeps (fun _ => False) w w') (h : w.cell? ⟨bx, 3, none⟩ = some v ∧ w.cell? ⟨b4, 0, none⟩ = some a ∧ w.cell? ⟨b4, 1, none⟩ = some b ∧ w.cell? ⟨b4, 2, none⟩ = some c ∧ w.cell? ⟨b4, 3, none⟩ = some d) :
    w'.cell? ⟨bx, 3, none⟩ = some v ∧ w'.cell? ⟨b4, 0, none⟩ = some a ∧ w'.cell? ⟨b4, 1, none⟩ = some b ∧ w'.cell? ⟨b4, 2, none⟩ = some c ∧ w'.cell? ⟨b4, 3, none⟩ = some d :=
  ⟨hk.cell h.1 (fun h => h), hk.cell h.2.1 (fun h => h), hk.cell h.2.2.1 (fun h => h), hk.cell h.2.2.2.1 (fun h => h), hk.cell h.2.2.2.2 (fun h => h)⟩
theorem keep5S {S : Nat → Prop} {w w' : World} {bx b4 : Nat} {v a b c d : Value} (hk : Keeps S w w') (h : w.cell? ⟨bx, 3, none⟩ = some v ∧ w.cell? ⟨b4, 0, none⟩ = some a ∧ w.cell? ⟨b4, 1, none⟩ = some b ∧ w.cell? ⟨b4, 2, none⟩ = some c ∧ w.cell? ⟨b4, 3, none⟩ = some d) (h1 : ¬ S bx) (h2 : ¬ S b4) :
    w'.cell? ⟨bx, 3, none⟩ = some v ∧ w'.cell? ⟨b4, 0, none⟩ = some a ∧ w'.cell? ⟨b4, 1, none⟩ = some b ∧ w'.cell? ⟨b4, 2, none⟩ = some c ∧ w'.cell? ⟨b4, 3, none⟩ = some d :=
  ⟨hk.cell h.1 h1, hk.cell h.2.1 h2, hk.cell h.2.2.1 h2, hk.cell h.2.2.2.1 h2, hk.cell h.2.2.2.2 h2⟩

set_option maxRecDepth 100000 in
set_option maxHeartbeats 4000000 in
theorem cloneT_any (w : World) (vi vg vo : Value) (t : Tsk) (h : TaskAt w vi vg vo t) (ok : t.Ok) :
    Calls Try.prog 49 #[.agg #[.int .i64 t.n, vi, vg, vo]] w fun e w' => ∃ v1 v2 v3 xs, e = .returned (.agg #[.int .i64 t.n, v1, v2, v3]) ∧ OwnI w' w.heap.size v3 v1 t.init ∧ OwnI w' w.heap.size v3 v2 t.goal ∧ OprRow w' w.heap.size v3 t.ops xs ∧ Keeps (fun _ => False) w w' := by
  obtain ⟨ai, ci, h1, _⟩ := h.init.form
  obtain ⟨ag, cg, h2, _⟩ := h.goal.form
  obtain ⟨ao, co, h3, hmo⟩ := h.ops.form
  subst h1 h2 h3
  have K1 := (Keeps.refl (fun _ => False) w).alloc (.cells #[.int .i64 t.n, .slice ai t.init.length ci, .slice ag t.goal.length cg, .slice ao t.ops.length co] 25)
  have KA2 := K1.alloc (.cells #[.int .i64 0, .slice none 0 0, .slice none 0 0, .slice none 0 0] 25)
  have HT0 := Lib.hid h
  have HT := Lib.hid (h.keeps0 KA2)
  have HB := Lib.hid ((Four.new w (.int .i64 t.n) (.slice ai t.init.length ci) (.slice ag t.goal.length cg) (.slice ao t.ops.length co) 25).keeps0 ((Keeps.refl _ _).alloc (.cells #[.int .i64 0, .slice none 0 0, .slice none 0 0, .slice none 0 0] 25)))
  have HR := Lib.hid (show ((w.alloc (.cells #[.int .i64 t.n, .slice ai t.init.length ci, .slice ag t.goal.length cg, .slice ao t.ops.length co] 25)).alloc (.cells #[.int .i64 0, .slice none 0 0, .slice none 0 0, .slice none 0 0] 25)).heap[w.heap.size + 1]? = some (.cells #[.int .i64 0, .slice none 0 0, .slice none 0 0, .slice none 0 0] 25 (0, 0)) by have := heap_alloc_new (w.alloc (.cells #[.int .i64 t.n, .slice ai t.init.length ci, .slice ag t.goal.length cg, .slice ao t.ops.length co] 25)) (.cells #[.int .i64 0, .slice none 0 0, .slice none 0 0, .slice none 0 0] 25); rwa [World.size_alloc] at this)
  have HK := Lib.hid KA2
  have hil : t.init.length ≤ 1000 := isSet_length ok.init (by have := ok.n1; omega)
  have hgl : t.goal.length ≤ 1000 := isSet_length ok.goal (by have := ok.n1; omega)
  have OK := Lib.hid ok
  clear h ok K1 KA2
  go_enter Try.func49, Try.ntmps49
  go_upto_region 1 with fail
  generalize ((w.alloc (.cells #[.int .i64 t.n, .slice ai t.init.length ci, .slice ag t.goal.length cg, .slice ao t.ops.length co] 25)).alloc (.cells #[.int .i64 0, .slice none 0 0, .slice none 0 0, .slice none 0 0] 25)) = w1 at HT HB HR HK ⊢
  have hbx := HB.out.lt
  obtain ⟨d0, d1, d2, d3⟩ := HB.out
  have KD : Keeps (fun _ => False) w1 w1.drew := (Keeps.refl (fun _ => False) w1).drew
  have KA : Keeps (fun _ => False) w1 (w1.alloc (.cells #[.int .i64 0, .slice none 0 0, .slice none 0 0, .slice none 0 0] 25)).drew := ((Keeps.refl (fun _ => False) w1).alloc (.cells #[.int .i64 0, .slice none 0 0, .slice none 0 0, .slice none 0 0] 25)).drew
  have HZ8 := Lib.hid (show (w1.alloc (.cells #[.int .i64 0, .slice none 0 0, .slice none 0 0, .slice none 0 0] 25)).drew.heap[w1.heap.size]? = some (.cells #[.int .i64 0, .slice none 0 0, .slice none 0 0, .slice none 0 0] 25 (0, 0)) from heap_alloc_new w1 _)
  have hKw := HK.out.size
  go_region_held3 (fun w' => w'.cell? ⟨w.heap.size, 0, none⟩ = some (.int .i64 t.n) ∧ w'.cell? ⟨w.heap.size, 1, none⟩ = some (.slice ai t.init.length ci) ∧ w'.cell? ⟨w.heap.size, 2, none⟩ = some (.slice ag t.goal.length cg))
    (first | go_keep | with_reducible exact ⟨(keeps_quad (w := w6) w1.heap.size (.int .i64 t.n) (.slice a5 t.init.length c5) (.slice a6 t.goal.length c6) (.slice none 0 0)).cell s0 (show ¬ w.heap.size = w1.heap.size by omega), (keeps_quad (w := w6) w1.heap.size (.int .i64 t.n) (.slice a5 t.init.length c5) (.slice a6 t.goal.length c6) (.slice none 0 0)).cell s1 (show ¬ w.heap.size = w1.heap.size by omega), (keeps_quad (w := w6) w1.heap.size (.int .i64 t.n) (.slice a5 t.init.length c5) (.slice a6 t.goal.length c6) (.slice none 0 0)).cell s2 (show ¬ w.heap.size = w1.heap.size by omega)⟩ | with_reducible exact ⟨(keeps_quad (w := w6) w5.heap.size (.int .i64 t.n) (.slice a5 t.init.length c5) (.slice a6 t.goal.length c6) (.slice none 0 0)).cell s0 (show ¬ w.heap.size = w5.heap.size by omega), (keeps_quad (w := w6) w5.heap.size (.int .i64 t.n) (.slice a5 t.init.length c5) (.slice a6 t.goal.length c6) (.slice none 0 0)).cell s1 (show ¬ w.heap.size = w5.heap.size by omega), (keeps_quad (w := w6) w5.heap.size (.int .i64 t.n) (.slice a5 t.init.length c5) (.slice a6 t.goal.length c6) (.slice none 0 0)).cell s2 (show ¬ w.heap.size = w5.heap.size by omega)⟩)
    (first
      | (go_at_call 90; (with_reducible refine (clone_any w1.drew _ _ (HT.out.init.keeps0 KD) (by omega)).mono ?_); rintro e w5 ⟨v1, rfl, hown, hk⟩; obtain ⟨a5, c5, hv5⟩ := ownsRow_form1 hown; subst hv5; have HC1 := Lib.hid (ownsRow_mono hown (Nat.le_trans (Nat.le_of_lt hbx) KD.size)); have KC1 := Lib.hid (KD.trans hk); have hz5 := KC1.out.size; have t0 := hk.cell d0 (fun h => h); have t1 := hk.cell d1 (fun h => h); have t2 := hk.cell d2 (fun h => h); clear hown hk)
      | (go_at_call 90; (with_reducible refine (clone_any (w1.alloc (.cells #[.int .i64 0, .slice none 0 0, .slice none 0 0, .slice none 0 0] 25)).drew _ _ (HT.out.init.keeps0 KA) (by omega)).mono ?_); rintro e w5 ⟨v1, rfl, hown, hk⟩; obtain ⟨a5, c5, hv5⟩ := ownsRow_form1 hown; subst hv5; have HC1 := Lib.hid (ownsRow_mono hown (Nat.le_trans (Nat.le_of_lt hbx) KA.size)); have KC1 := Lib.hid (KA.trans hk); have hz5 := KC1.out.size; have HX5 := Lib.hid (hk.heap HZ8.out (fun h => h)); have t0 := KC1.out.cell d0 (fun h => h); have t1 := KC1.out.cell d1 (fun h => h); have t2 := KC1.out.cell d2 (fun h => h); clear hown hk)
      | (go_at_call 90; (with_reducible refine (clone_any w5 _ _ (HT.out.goal.keeps0 KC1.out) (by omega)).mono ?_); rintro e w6 ⟨v2, rfl, hown, hk⟩; obtain ⟨a6, c6, hv6⟩ := ownsRow_form1 hown; subst hv6; have HC2 := Lib.hid (ownsRow_mono hown (Nat.le_trans (Nat.le_of_lt hbx) KC1.out.size)); have KC2 := Lib.hid (KC1.out.trans hk); have K56 := Lib.hid hk; have s0 := hk.cell t0 (fun h => h); have s1 := hk.cell t1 (fun h => h); have s2 := hk.cell t2 (fun h => h); (try (have HX6 := Lib.hid (hk.heap HX5.out (fun h => h)); obtain ⟨q0, q1, q2, q3, r0, r1, r2, r3, ql⟩ := quad_all HX6.out)); clear hown hk)
      | (go_at_call 90; (with_reducible refine (clone_any (w5.alloc (.cells #[.int .i64 0, .slice none 0 0, .slice none 0 0, .slice none 0 0] 25)) _ _ (HT.out.goal.keeps0 (KC1.out.alloc (.cells #[.int .i64 0, .slice none 0 0, .slice none 0 0, .slice none 0 0] 25))) (by omega)).mono ?_); rintro e w6 ⟨v2, rfl, hown, hk⟩; obtain ⟨a6, c6, hv6⟩ := ownsRow_form1 hown; subst hv6; have HC2 := Lib.hid (ownsRow_mono hown (Nat.le_trans (Nat.le_of_lt hbx) (KC1.out.alloc (.cells #[.int .i64 0, .slice none 0 0, .slice none 0 0, .slice none 0 0] 25)).size)); have KC2 := Lib.hid ((KC1.out.alloc (.cells #[.int .i64 0, .slice none 0 0, .slice none 0 0, .slice none 0 0] 25)).trans hk); have K56 := Lib.hid (((Keeps.refl (fun _ => False) w5).alloc (.cells #[.int .i64 0, .slice none 0 0, .slice none 0 0, .slice none 0 0] 25)).trans hk); have HX6 := Lib.hid (hk.heap (heap_alloc_new w5 (.cells #[.int .i64 0, .slice none 0 0, .slice none 0 0, .slice none 0 0] 25)) (fun h => h)); have s0 := KC2.out.cell d0 (fun h => h); have s1 := KC2.out.cell d1 (fun h => h); have s2 := KC2.out.cell d2 (fun h => h); obtain ⟨q0, q1, q2, q3, r0, r1, r2, r3, ql⟩ := quad_all HX6.out; clear hown hk))
  all_goals
    clear d0 d1 d2 d3 KD KA
    try clear t0 t1 t2
  all_goals first
    | (have HX7 := Lib.hid (show ((((w6.setCell ⟨w1.heap.size, 0, none⟩ (.int .i64 t.n)).setCell ⟨w1.heap.size, 1, none⟩ (.slice a5 t.init.length c5)).setCell ⟨w1.heap.size, 2, none⟩ (.slice a6 t.goal.length c6)).setCell ⟨w1.heap.size, 3, none⟩ (.slice none 0 0)).heap[w1.heap.size]? = some (.cells #[.int .i64 t.n, .slice a5 t.init.length c5, .slice a6 t.goal.length c6, .slice none 0 0] 25 (0, 0)) from quad_set HX6.out (.int .i64 t.n) (.slice a5 t.init.length c5) (.slice a6 t.goal.length c6) (.slice none 0 0))
       have kq := keeps_quad (w := w6) w1.heap.size (.int .i64 t.n) (.slice a5 t.init.length c5) (.slice a6 t.goal.length c6) (.slice none 0 0)
       have K7 := Lib.hid (HK.out.trans (KC2.out.trans' kq (fun i hi => .inr (by omega))))
       have HO1 := Lib.hid (kq.ownsRow (K56.out.ownsRow HC1.out (fun _ _ h => h)) (own_ne_box (K56.out.ownsRow HC1.out (fun _ _ h => h)) HX6.out (by decide)))
       have HO2 := Lib.hid (kq.ownsRow HC2.out (own_ne_box HC2.out HX6.out (by decide)))
       have HT7 := Lib.hid (HT.out.keeps0 (KC2.out.trans' kq (fun i hi => .inr (by omega)))); have HB7 := Lib.hid (HB.out.keeps0 (KC2.out.trans' kq (fun i hi => .inr (by omega)))); have HR7 := Lib.hid ((KC2.out.trans' kq (fun i hi => .inr (by omega))).heap HR.out (fun h => h))
       clear kq s0 s1 s2 q0 q1 q2 q3 r0 r1 r2 r3 ql
       generalize ((((w6.setCell ⟨w1.heap.size, 0, none⟩ (.int .i64 t.n)).setCell ⟨w1.heap.size, 1, none⟩ (.slice a5 t.init.length c5)).setCell ⟨w1.heap.size, 2, none⟩ (.slice a6 t.goal.length c6)).setCell ⟨w1.heap.size, 3, none⟩ (.slice none 0 0)) = w7 at HX7 K7 HO1 HO2 HT7 HB7 HR7 ⊢
       have HBX := Lib.hid (show w.heap.size + 2 ≤ w1.heap.size by have := lt_of_heap HR.out; omega)
       generalize w1.heap.size = bx at HX7 HBX ⊢)
    | (have HX7 := Lib.hid (show ((((w6.setCell ⟨w5.heap.size, 0, none⟩ (.int .i64 t.n)).setCell ⟨w5.heap.size, 1, none⟩ (.slice a5 t.init.length c5)).setCell ⟨w5.heap.size, 2, none⟩ (.slice a6 t.goal.length c6)).setCell ⟨w5.heap.size, 3, none⟩ (.slice none 0 0)).heap[w5.heap.size]? = some (.cells #[.int .i64 t.n, .slice a5 t.init.length c5, .slice a6 t.goal.length c6, .slice none 0 0] 25 (0, 0)) from quad_set HX6.out (.int .i64 t.n) (.slice a5 t.init.length c5) (.slice a6 t.goal.length c6) (.slice none 0 0))
       have kq := keeps_quad (w := w6) w5.heap.size (.int .i64 t.n) (.slice a5 t.init.length c5) (.slice a6 t.goal.length c6) (.slice none 0 0)
       have K7 := Lib.hid (HK.out.trans (KC2.out.trans' kq (fun i hi => .inr (by omega))))
       have HO1 := Lib.hid (kq.ownsRow (K56.out.ownsRow HC1.out (fun _ _ h => h)) (own_ne_box (K56.out.ownsRow HC1.out (fun _ _ h => h)) HX6.out (by decide)))
       have HO2 := Lib.hid (kq.ownsRow HC2.out (own_ne_box HC2.out HX6.out (by decide)))
       have HT7 := Lib.hid (HT.out.keeps0 (KC2.out.trans' kq (fun i hi => .inr (by omega)))); have HB7 := Lib.hid (HB.out.keeps0 (KC2.out.trans' kq (fun i hi => .inr (by omega)))); have HR7 := Lib.hid ((KC2.out.trans' kq (fun i hi => .inr (by omega))).heap HR.out (fun h => h))
       clear kq s0 s1 s2 q0 q1 q2 q3 r0 r1 r2 r3 ql
       generalize ((((w6.setCell ⟨w5.heap.size, 0, none⟩ (.int .i64 t.n)).setCell ⟨w5.heap.size, 1, none⟩ (.slice a5 t.init.length c5)).setCell ⟨w5.heap.size, 2, none⟩ (.slice a6 t.goal.length c6)).setCell ⟨w5.heap.size, 3, none⟩ (.slice none 0 0)) = w7 at HX7 K7 HO1 HO2 HT7 HB7 HR7 ⊢
       have HBX := Lib.hid (show w.heap.size + 2 ≤ w5.heap.size by have := lt_of_heap HR.out; have := KC1.out.size; omega)
       generalize w5.heap.size = bx at HX7 HBX ⊢)
    | (have HX7 := Lib.hid (heap_alloc_new w6 (.cells #[.int .i64 t.n, .slice a5 t.init.length c5, .slice a6 t.goal.length c6, .slice none 0 0] 25))
       have K7 := Lib.hid (HK.out.trans (KC2.out.alloc (.cells #[.int .i64 t.n, .slice a5 t.init.length c5, .slice a6 t.goal.length c6, .slice none 0 0] 25)))
       have HO1 := Lib.hid ((K56.out.alloc (.cells #[.int .i64 t.n, .slice a5 t.init.length c5, .slice a6 t.goal.length c6, .slice none 0 0] 25)).ownsRow HC1.out (fun _ _ h => h))
       have HO2 := Lib.hid (((Keeps.refl (fun _ => False) w6).alloc (.cells #[.int .i64 t.n, .slice a5 t.init.length c5, .slice a6 t.goal.length c6, .slice none 0 0] 25)).ownsRow HC2.out (fun _ _ h => h))
       have HT7 := Lib.hid (HT.out.keeps0 (KC2.out.alloc (.cells #[.int .i64 t.n, .slice a5 t.init.length c5, .slice a6 t.goal.length c6, .slice none 0 0] 25))); have HB7 := Lib.hid (HB.out.keeps0 (KC2.out.alloc (.cells #[.int .i64 t.n, .slice a5 t.init.length c5, .slice a6 t.goal.length c6, .slice none 0 0] 25))); have HR7 := Lib.hid ((KC2.out.alloc (.cells #[.int .i64 t.n, .slice a5 t.init.length c5, .slice a6 t.goal.length c6, .slice none 0 0] 25)).heap HR.out (fun h => h))
       clear s0 s1 s2
       generalize w6.alloc (.cells #[.int .i64 t.n, .slice a5 t.init.length c5, .slice a6 t.goal.length c6, .slice none 0 0] 25) = w7 at HX7 K7 HO1 HO2 HT7 HB7 HR7 ⊢
       have HBX := Lib.hid (show w.heap.size + 2 ≤ w6.heap.size by have := lt_of_heap HR.out; have := KC2.out.size; omega)
       generalize w6.heap.size = bx at HX7 HBX ⊢)
  all_goals
    clear HT HB HR HK HC1 HC2 KC1 KC2 K56
    clear hil hgl hKw hbx
    try clear hz5
    try clear HX5
    try clear HX6
    try clear HZ8
    obtain ⟨d0, d1, d2, d3⟩ := HB7.out
    have hbt := HB7.out.lt
    have HC := Lib.hid (HT0.out.ops.cell rfl)
    obtain ⟨i0, hi0, hz0, hz1, hz2⟩ := info_parts Try.info_oper
    have HBX7 := Lib.hid (lt_of_heap HX7.out)
    go_wp2_with fail
    go_loopw [18] (fun i wr => ∃ (k : Nat) (v3 : Value) (xs : List Value), k ≤ t.ops.length ∧ i = .int .i64 (k : Int) ∧ CloneI t w7 bx (.slice a5 t.init.length c5) (.slice a6 t.goal.length c6) k v3 xs wr) (fun i _ => t.ops.length - (intOf i).toNat)
    case atStart => exact ⟨0, _, [], Nat.zero_le _, rfl, ⟨HX7.out, OprRow.nil _ _, Keeps.refl _ _⟩⟩
    case round =>
      obtain ⟨k, v3, xs, hk, rfl, hi⟩ := hrel
      have HI := Lib.hid hi
      clear hi
      have KW := Lib.hid (show Keeps (fun _ => False) w wr from K7.out.trans' HI.out.kp (fun i hi => .inr (by have := HBX.out; omega)))
      clear d0 d1 d2 d3
      by_cases hlt : k < t.ops.length
      · obtain ⟨bo, oo, rfl, hcell⟩ := HC.out (by omega)
        obtain ⟨o, ho⟩ : ∃ o, t.ops[k]? = some o := ⟨_, List.getElem?_eq_getElem hlt⟩
        obtain ⟨va, vb, vc, p0, p1, p2, p3, i1, i2, i3⟩ := hcell k o ho
        have hom := OK.out.ops o (List.mem_of_getElem? ho)
        have U1 := Lib.hid (show o.pre.length ≤ 1000000 by have := isSet_length hom.pre (by have := OK.out.n1; omega); omega)
        have U2 := Lib.hid (show o.add.length ≤ 1000000 by have := isSet_length hom.add (by have := OK.out.n1; omega); omega)
        have U3 := Lib.hid (show o.del.length ≤ 1000000 by have := isSet_length hom.del (by have := OK.out.n1; omega); omega)
        have HO := Lib.hid ho
        have q0 := KW.out.cell p0 (fun h => h)
        have q1 := KW.out.cell p1 (fun h => h)
        have q2 := KW.out.cell p2 (fun h => h)
        have q3 := KW.out.cell p3 (fun h => h)
        obtain ⟨a1, k1, f1, _⟩ := i1.form
        obtain ⟨a2, k2, f2, _⟩ := i2.form
        obtain ⟨a3, k3, f3, _⟩ := i3.form
        subst f1 f2 f3
        have K4 := (Keeps.refl (fun _ => False) wr).alloc (.cells #[.slice a1 o.pre.length k1, .slice a2 o.add.length k2, .slice a3 o.del.length k3, .int .i64 o.cost] 39)
        have HO4 := Four.new wr (.slice a1 o.pre.length k1) (.slice a2 o.add.length k2) (.slice a3 o.del.length k3) (.int .i64 o.cost) 39
        have I1 := Lib.hid (i1.keeps0 (KW.out.trans K4)); have I2 := Lib.hid (i2.keeps0 (KW.out.trans K4)); have I3 := Lib.hid (i3.keeps0 (KW.out.trans K4))
        clear hcell ho hom p0 p1 p2 p3 i1 i2 i3
        go_upto_region 5 with fail
        have K4' := Lib.hid K4
        have HO4' := Lib.hid HO4
        clear K4 HO4
        have hbr := lt_of_heap HI.out.box
        obtain ⟨b4, hb4⟩ : ∃ b4, wr.heap.size = b4 := ⟨_, rfl⟩
        rw [hb4] at HO4' ⊢
        have hv4 : ∀ j, v3.ownBlock = some j → j < b4 := fun j e => by have := (World.ownsRow.lt HI.out.row.out j e).2; omega
        have hbb4 : b4 ≠ bx := by omega
        have hbase : w7.heap.size ≤ b4 := by have := HI.out.kp.size; omega
        have g3 : wr.cell? ⟨bx, 3, none⟩ = some v3 := by rw [cell_of_blk HI.out.box]; rfl
        replace g3 := K4'.out.cell g3 (fun h => h)
        have HB4 := Lib.hid hbb4
        have hs4 := HO4'.out.lt
        clear q0 q1 q2 q3 hb4 hbr hbb4
        generalize (wr.alloc (.cells #[.slice a1 o.pre.length k1, .slice a2 o.add.length k2, .slice a3 o.del.length k3, .int .i64 o.cost] 39)) = w4 at K4' HO4' I1 I2 I3 g3 hs4 ⊢
        obtain ⟨c0, c1, c2, c3⟩ := HO4'.out
        refine wp_region_L (by kernel_rfl) (fun w' => w'.cell? ⟨bx, 3, none⟩ = some v3 ∧ w'.cell? ⟨b4, 0, none⟩ = some (.slice a1 o.pre.length k1) ∧ w'.cell? ⟨b4, 1, none⟩ = some (.slice a2 o.add.length k2) ∧ w'.cell? ⟨b4, 2, none⟩ = some (.slice a3 o.del.length k3) ∧ w'.cell? ⟨b4, 3, none⟩ = some (.int .i64 o.cost)) [0, 1, 2, 3, 5, 6, 8, 9, 11, 12, 13] ?_
        have hS : w4.drew.cell? ⟨bx, 3, none⟩ = some v3 ∧ w4.drew.cell? ⟨b4, 0, none⟩ = some (.slice a1 o.pre.length k1) ∧ w4.drew.cell? ⟨b4, 1, none⟩ = some (.slice a2 o.add.length k2) ∧ w4.drew.cell? ⟨b4, 2, none⟩ = some (.slice a3 o.del.length k3) ∧ w4.drew.cell? ⟨b4, 3, none⟩ = some (.int .i64 o.cost) := ⟨g3, c0, c1, c2, c3⟩
        clear g3 c0 c1 c2 c3
        refine wpAnyL_take (i := 0) (v := ?_) rfl (by decide) (by kernel_rfl) (by kernel_rfl) (by kernel_rfl) (fun _ _ _ h => h) rfl ?_ hS ?_
        rotate_left
        · (intro w' hSw; obtain ⟨t0, t1, t2, t3, t4⟩ := hSw; go_simp; try with_reducible rfl)
        try simp only [Act.put, List.setIfInBounds_toArray]
        refine wpAnyL_take (i := 1) (v := ?_) rfl (by decide) (by kernel_rfl) (by kernel_rfl) (by kernel_rfl) (fun _ _ _ h => h) rfl ?_ hS ?_
        rotate_left
        · (intro w' hSw; obtain ⟨t0, t1, t2, t3, t4⟩ := hSw; go_simp; try with_reducible rfl)
        try simp only [Act.put, List.setIfInBounds_toArray]
        refine wpAnyL_take (i := 2) (v := ?_) rfl (by decide) (by kernel_rfl) (by kernel_rfl) (by kernel_rfl) (fun _ _ _ h => h) rfl ?_ hS ?_
        rotate_left
        · (intro w' hSw; obtain ⟨t0, t1, t2, t3, t4⟩ := hSw; go_simp; try with_reducible rfl)
        try simp only [Act.put, List.setIfInBounds_toArray]
        refine wpAnyL_take (i := 3) (v := ?_) rfl (by decide) (by kernel_rfl) (by kernel_rfl) (by kernel_rfl) (fun _ _ _ h => h) rfl ?_ hS ?_
        rotate_left
        · (intro w' hSw; obtain ⟨t0, t1, t2, t3, t4⟩ := hSw; go_simp; try with_reducible rfl)
        try simp only [Act.put, List.setIfInBounds_toArray]
        refine wpAnyL_take (i := 5) (v := ?_) rfl (by decide) (by kernel_rfl) (by kernel_rfl) (by kernel_rfl) (fun _ _ _ h => h) rfl ?_ hS ?_
        rotate_left
        · (intro w' hSw; obtain ⟨t0, t1, t2, t3, t4⟩ := hSw; go_simp; try with_reducible rfl)
        try simp only [Act.put, List.setIfInBounds_toArray]
        refine wpAnyL_take (i := 6) (v := ?_) rfl (by decide) (by kernel_rfl) (by kernel_rfl) (by kernel_rfl) (fun _ _ _ h => h) rfl ?_ hS ?_
        rotate_left
        · (intro w' hSw; obtain ⟨t0, t1, t2, t3, t4⟩ := hSw; go_simp; try with_reducible rfl)
        try simp only [Act.put, List.setIfInBounds_toArray]
        refine wpAnyL_take (i := 8) (v := ?_) rfl (by decide) (by kernel_rfl) (by kernel_rfl) (by kernel_rfl) (fun _ _ _ h => h) rfl ?_ hS ?_
        rotate_left
        · (intro w' hSw; obtain ⟨t0, t1, t2, t3, t4⟩ := hSw; go_simp; try with_reducible rfl)
        try simp only [Act.put, List.setIfInBounds_toArray]
        refine wpAnyL_take (i := 9) (v := ?_) rfl (by decide) (by kernel_rfl) (by kernel_rfl) (by kernel_rfl) (fun _ _ _ h => h) rfl ?_ hS ?_
        rotate_left
        · (intro w' hSw; obtain ⟨t0, t1, t2, t3, t4⟩ := hSw; go_simp; try with_reducible rfl)
        try simp only [Act.put, List.setIfInBounds_toArray]
        refine wpAnyL_take (i := 11) (v := ?_) rfl (by decide) (by kernel_rfl) (by kernel_rfl) (by kernel_rfl) (fun _ _ _ h => h) rfl ?_ hS ?_
        rotate_left
        · (intro w' hSw; obtain ⟨t0, t1, t2, t3, t4⟩ := hSw; go_simp; try with_reducible rfl)
        try simp only [Act.put, List.setIfInBounds_toArray]
        refine wpAnyL_take (i := 12) (v := ?_) rfl (by decide) (by kernel_rfl) (by kernel_rfl) (by kernel_rfl) (fun _ _ _ h => h) rfl ?_ hS ?_
        rotate_left
        · (intro w' hSw; obtain ⟨t0, t1, t2, t3, t4⟩ := hSw; go_simp; try with_reducible rfl)
        try simp only [Act.put, List.setIfInBounds_toArray]
        refine wpAnyL_one (i := 4) rfl (by kernel_rfl) (fun K hK => ?_)
        go_simp
        refine (clone_any w4.drew _ _ (I1.out.keeps0 ((Keeps.refl _ _).drew)) U1.out).mono ?_
        rintro e wa ⟨va, rfl, hown, hka⟩
        obtain ⟨m1, n1, hvv⟩ := ownsRow_form1 hown; subst hvv
        have hS2 := keep5 hka hS
        refine hK _ _ hS2 ?_
        clear hK K hS
        have Ka := Lib.hid (((Keeps.refl (fun _ => False) w4).drew).trans hka)
        have A1 := Lib.hid (OwnI.of_own (base := w7.heap.size) (v := v3) hown (by have : w4.drew.heap.size = w4.heap.size := rfl; omega) (fun j hj => by have : w4.drew.heap.size = w4.heap.size := rfl; have := hv4 j hj; omega))
        have hsa : w4.heap.size ≤ wa.heap.size := Ka.out.size
        clear hown hka
        try simp only [Act.put, List.setIfInBounds_toArray, List.set_cons_zero, List.set_cons_succ]
        refine wpAnyL_one (i := 7) rfl (by kernel_rfl) (fun K hK => ?_)
        go_simp
        refine (clone_any wa _ _ (I2.out.keeps0 Ka.out) U2.out).mono ?_
        rintro e wb ⟨vb, rfl, hown, hkb⟩
        obtain ⟨m2, n2, hvv⟩ := ownsRow_form1 hown; subst hvv
        have hS3 := keep5 hkb hS2
        refine hK _ _ hS3 ?_
        clear hK K hS2
        have Kb := Lib.hid (Ka.out.trans hkb)
        have A2 := Lib.hid (OwnI.of_own (base := w7.heap.size) (v := v3) hown (by omega) (fun j hj => by have := hv4 j hj; omega))
        have B1 := Lib.hid (A1.out.keepsS hkb (fun _ _ h => h))
        have hsb : wa.heap.size ≤ wb.heap.size := hkb.size
        clear hown hkb A1
        try simp only [Act.put, List.setIfInBounds_toArray, List.set_cons_zero, List.set_cons_succ]
        refine wpAnyL_one (i := 10) rfl (by kernel_rfl) (fun K hK => ?_)
        go_simp
        refine (clone_any wb _ _ (I3.out.keeps0 Kb.out) U3.out).mono ?_
        rintro e wc ⟨vc, rfl, hown, hkc⟩
        obtain ⟨m3, n3, hvv⟩ := ownsRow_form1 hown; subst hvv
        have hS4 := keep5 hkc hS3
        refine hK _ _ hS4 ?_
        clear hK K hS3
        have Kc := Lib.hid (Kb.out.trans hkc)
        have A3 := Lib.hid (OwnI.of_own (base := w7.heap.size) (v := v3) hown (by omega) (fun j hj => by have := hv4 j hj; omega))
        have C1 := Lib.hid (B1.out.keepsS hkc (fun _ _ h => h))
        have C2 := Lib.hid (A2.out.keepsS hkc (fun _ _ h => h))
        have hsc : wb.heap.size ≤ wc.heap.size := hkc.size
        clear hown hkc B1 A2
        try simp only [Act.put, List.setIfInBounds_toArray, List.set_cons_zero, List.set_cons_succ]
        refine wpAnyL_take (i := 13) (v := ?_) rfl (by decide) (by kernel_rfl) (by kernel_rfl) (by kernel_rfl) (fun _ _ _ h => h) rfl ?_ hS4 ?_
        rotate_left
        · (intro w' hSw; obtain ⟨t0, t1, t2, t3, t4⟩ := hSw; go_simp; try with_reducible rfl)
        try simp only [Act.put, List.setIfInBounds_toArray]
        refine wpAnyL_one (i := 14) rfl (by kernel_rfl) (fun K hK => ?_)
        go_simp
        refine hK _ _ (keep5 ((Keeps.refl (fun _ => False) wc).alloc (.cells #[.slice m1 o.pre.length n1, .slice m2 o.add.length n2, .slice m3 o.del.length n3, .int .i64 o.cost] 39)) hS4) ?_
        clear hK K
        try simp only [Act.put, List.setIfInBounds_toArray, List.set_cons_zero, List.set_cons_succ]
        refine wpAnyL_one (i := 15) rfl (by kernel_rfl) (fun K hK => ?_)
        have KD := Lib.hid (K4'.out.trans (Kc.out.alloc (.cells #[.slice m1 o.pre.length n1, .slice m2 o.add.length n2, .slice m3 o.del.length n3, .int .i64 o.cost] 39)))
        have D1 := Lib.hid (C1.out.keepsS ((Keeps.refl (fun _ => False) wc).alloc (.cells #[.slice m1 o.pre.length n1, .slice m2 o.add.length n2, .slice m3 o.del.length n3, .int .i64 o.cost] 39)) (fun _ _ h => h))
        have D2 := Lib.hid (C2.out.keepsS ((Keeps.refl (fun _ => False) wc).alloc (.cells #[.slice m1 o.pre.length n1, .slice m2 o.add.length n2, .slice m3 o.del.length n3, .int .i64 o.cost] 39)) (fun _ _ h => h))
        have D3 := Lib.hid (A3.out.keepsS ((Keeps.refl (fun _ => False) wc).alloc (.cells #[.slice m1 o.pre.length n1, .slice m2 o.add.length n2, .slice m3 o.del.length n3, .int .i64 o.cost] 39)) (fun _ _ h => h))
        have hkl : (t.ops.take k).length = k := by simp; omega
        have HROW := Lib.hid (show (wc.alloc (.cells #[.slice m1 o.pre.length n1, .slice m2 o.add.length n2, .slice m3 o.del.length n3, .int .i64 o.cost] 39)).ownsRow w7.heap.size 39 4 v3 k xs by have := KD.out.ownsRow HI.out.row.out (fun _ _ h => h); rwa [hkl] at this)
        refine step_append_lies _ (by rfl) (.tmp 23) (.tmp 36) 23 (by rfl) w7.heap.size 39 i0 _ 4 80 Try.underlying23 hi0 hz0 hz1 hz2 rfl (by omega) v3 k xs (by rfl) HROW.out ⟨wc.heap.size, 0, none⟩ 1 1 [.slice m1 o.pre.length n1, .slice m2 o.add.length n2, .slice m3 o.del.length n3, .int .i64 o.cost] (by rfl) (by rfl) (World.news_of_block (cs := #[.slice m1 o.pre.length n1, .slice m2 o.add.length n2, .slice m3 o.del.length n3, .int .i64 o.cost]) (t := 39) (fr := (0, 0)) (heap_alloc_new wc _)) (by simp [Value.oneCell']) (by omega) (by unfold maxLen; have := OK.out.few; omega) (by have := OK.out.few; omega) (by simp; omega) (wc.heap.size + 1) (by simp) ?_
        intro g cap w8 hown hgrow hat hlt8
        have hatt : v3.ownBlock = some g ∨ g = (wc.alloc (.cells #[.slice m1 o.pre.length n1, .slice m2 o.add.length n2, .slice m3 o.del.length n3, .int .i64 o.cost] 39)).heap.size := by rw [World.size_alloc]; exact hat
        have HN := Lib.hid (CloneI.push HI.out HO.out HBX7.out KD.out D1.out D2.out D3.out hgrow hown hatt)
        have hS5 := keep5S ((Keeps.refl (fun b => v3.ownBlock = some b) _).grown hgrow (fun k hk => .inl hk)) (keep5 ((Keeps.refl (fun _ => False) wc).alloc (.cells #[.slice m1 o.pre.length n1, .slice m2 o.add.length n2, .slice m3 o.del.length n3, .int .i64 o.cost] 39)) hS4) (fun e => by have := (World.ownsRow.lt HROW.out bx e).1; have := HBX7.out; omega) (fun e => by have := hv4 b4 e; omega)
        have s0 := hS5.1
        have sbx : w8.heap[bx]? = some (.cells #[.int .i64 t.n, .slice a5 t.init.length c5, .slice a6 t.goal.length c6, v3] 25 (0, 0)) := (((Keeps.refl (fun b => v3.ownBlock = some b) _).grown hgrow (fun k hk => .inl hk)).heap (KD.out.heap HI.out.box (fun h => h)) (fun e => by have := (World.ownsRow.lt HROW.out bx e).1; have := HBX7.out; omega))
        have sz := frozen_of_blk (o := 3) sbx
        have sl := lt_of_heap sbx
        refine hK _ _ hS5 ?_
        clear hK K hS5 hS4 sbx
        try simp only [Act.put, List.setIfInBounds_toArray]
        refine wpAnyL_late (i := 16) rfl (by kernel_rfl) (by kernel_rfl) (fun K hK => ?_)
        go_simp
        refine hK _ _ ?_
        clear hK K
        refine wpAnyL_late (i := 17) rfl (by kernel_rfl) (by kernel_rfl) (fun K hK => ?_)
        go_simp
        refine hK _ _ ?_
        clear hK K
        refine wpAnyL_done (by kernel_rfl) ?_ _
        clear hown hgrow hat hatt s0 sz sl
        generalize (w8.setCell ⟨bx, 3, none⟩ (.slice (some ⟨g, 0, none⟩) (k + 1) cap)) = w9 at HN ⊢
        go_wp2_with fail
        go_roundw
        case rel => exact ⟨k + 1, _, _, by omega, by go_num, HN.out⟩
        case measure => simp [intOf]; omega
      · obtain rfl : k = t.ops.length := by omega
        have hrow := HI.out.row
        rw [List.take_length] at hrow
        obtain ⟨a7, c7, hv7, _⟩ := (hrow.opsAt (by have := OK.out.few; omega)).form
        subst hv7
        obtain ⟨q0, q1, q2, q3, r0, r1, r2, r3, ql⟩ := quad_all HI.out.box
        have hR9 : wr.heap[w.heap.size + 1]? = some (.cells #[.int .i64 0, .slice none 0 0, .slice none 0 0, .slice none 0 0] 25 (0, 0)) := HI.out.kp.heap HR7.out (fun e => by have := HBX.out; omega)
        obtain ⟨x0, x1, x2, x3, y0, y1, y2, y3, yl⟩ := quad_all hR9
        go_wp2_with fail
        have kq := keeps_quad (w := wr) (w.heap.size + 1) (.int .i64 t.n) (.slice a5 t.init.length c5) (.slice a6 t.goal.length c6) (.slice a7 t.ops.length c7)
        have hlt7 := HBX7.out
        have HO1' : OwnI wr w.heap.size (.slice a7 t.ops.length c7) (.slice a5 t.init.length c5) t.init := by
          have hh := HI.out.kp.ownsRow HO1.out (own_ne_box HO1.out HX7.out (by decide))
          refine ⟨Ints.of_own hh, fun j hj => ⟨fun e => ?_, (World.ownsRow.lt hh j hj).1, (World.ownsRow.lt hh j hj).2⟩⟩
          have := (World.ownsRow.lt hrow.out j e).1
          have := (World.ownsRow.lt HO1.out j hj).2
          omega
        have HO2' : OwnI wr w.heap.size (.slice a7 t.ops.length c7) (.slice a6 t.goal.length c6) t.goal := by
          have hh := HI.out.kp.ownsRow HO2.out (own_ne_box HO2.out HX7.out (by decide))
          refine ⟨Ints.of_own hh, fun j hj => ⟨fun e => ?_, (World.ownsRow.lt hh j hj).1, (World.ownsRow.lt hh j hj).2⟩⟩
          have := (World.ownsRow.lt hrow.out j e).1
          have := (World.ownsRow.lt HO2.out j hj).2
          omega
        refine bodyPost_ret (results_cell_row rfl _ _ (w.heap.size + 1) 25 _ (0, 0) _ rfl (quad_set hR9 (.int .i64 t.n) (.slice a5 t.init.length c5) (.slice a6 t.goal.length c6) (.slice a7 t.ops.length c7)) Try.underlying25 rfl (by kernel_rfl)) rfl ?_
        have hw7 : w.heap.size + 2 ≤ w7.heap.size := by have := HBX.out; omega
        exact ⟨_, _, _, _, rfl, HO1'.keepsS kq (own_ne_box (HI.out.kp.ownsRow HO1.out (own_ne_box HO1.out HX7.out (by decide))) hR9 (by decide)), HO2'.keepsS kq (own_ne_box (HI.out.kp.ownsRow HO2.out (own_ne_box HO2.out HX7.out (by decide))) hR9 (by decide)), (hrow.keepsS kq (fun j hj => by omega)).mono (by omega), KW.out.trans' kq (fun i hi => .inr (by omega))⟩

end Go.Proofs.Ytdonadeodioplaa

namespace Go.Proofs.Ytdonadeodioplaa
open Go.RowKit Go.Sort Go.Proofs

def Opr.scaled (k : Int) (o : Opr) : Opr := { o with cost := o.cost * k }
def Tsk.scaled (t : Tsk) (k : Int) : Tsk := { t with ops := t.ops.map (Opr.scaled k) }
/-- The first operators scaled, the others as they were. -/
def mixO (k : Int) : Nat → List Opr → List Opr
  | 0, l => l
  | _ + 1, [] => []
  | n + 1, o :: l => o.scaled k :: mixO k n l
theorem mixO_length (k : Int) : ∀ (n : Nat) (l : List Opr), (mixO k n l).length = l.length
  | 0, l => rfl
  | _ + 1, [] => rfl
  | n + 1, o :: l => by simp [mixO, mixO_length k n l]
theorem mixO_at (k : Int) : ∀ (n : Nat) (l : List Opr), (mixO k n l)[n]? = l[n]?
  | 0, l => rfl
  | _ + 1, [] => rfl
  | n + 1, o :: l => by simpa [mixO] using mixO_at k n l
theorem mixO_set (k : Int) : ∀ (n : Nat) (l : List Opr) (o : Opr), l[n]? = some o → (mixO k n l).set n (o.scaled k) = mixO k (n + 1) l
  | 0, o :: l, o', h => by simp at h; subst h; rfl
  | n + 1, o :: l, o', h => by simp [mixO]; exact mixO_set k n l o' (by simpa using h)
theorem mixO_all (k : Int) : ∀ (l : List Opr), mixO k l.length l = l.map (Opr.scaled k)
  | [] => rfl
  | o :: l => by simp [mixO, mixO_all k l]

/-! ### two blocks of results -/
structure TFl (w w1 : World) (R F : Nat) : Prop where
  res : w1.heap[R]? = some (.cells #[.int .i64 0, .slice none 0 0, .slice none 0 0, .slice none 0 0] 25 (0, 0))
  flt : Flt w w1 F 30
  base : w.heap.size ≤ R
  ne : R ≠ F
theorem TFl.keepsS {S : Nat → Prop} {w w1 w2 : World} {R F : Nat} (h : TFl w w1 R F) (hk : Keeps S w1 w2) (hr : ¬ S R) (hf : ¬ S F) (hs : ∀ i, S i → w.heap.size ≤ i) : TFl w w2 R F := ⟨hk.heap h.res hr, h.flt.keepsS hk hf hs, h.base, h.ne⟩
theorem TFl.keeps0 {w w1 w2 : World} {R F : Nat} (h : TFl w w1 R F) (hk : Keeps (fun _ => False) w1 w2) : TFl w w2 R F := ⟨hk.heap h.res (fun h => h), h.flt.keeps0 hk, h.base, h.ne⟩
theorem TFl.cells {w w1 : World} {R F : Nat} (h : TFl w w1 R F) : w1.cell? ⟨R, 0, none⟩ = some (.int .i64 0) ∧ w1.cell? ⟨R, 1, none⟩ = some (.slice none 0 0) ∧ w1.cell? ⟨R, 2, none⟩ = some (.slice none 0 0) ∧ w1.cell? ⟨R, 3, none⟩ = some (.slice none 0 0) ∧
    w1.frozen? ⟨R, 0, none⟩ = false ∧ w1.frozen? ⟨R, 1, none⟩ = false ∧ w1.frozen? ⟨R, 2, none⟩ = false ∧ w1.frozen? ⟨R, 3, none⟩ = false ∧ R < w1.heap.size := quad_all h.res
theorem TFl.set {w w1 : World} {R F : Nat} (h : TFl w w1 R F) (a b c d x y : Value) :
    ((((((w1.setCell ⟨R, 0, none⟩ a).setCell ⟨R, 1, none⟩ b).setCell ⟨R, 2, none⟩ c).setCell ⟨R, 3, none⟩ d).setCell ⟨F, 0, none⟩ x).setCell ⟨F, 1, none⟩ y).heap[R]? = some (.cells #[a, b, c, d] 25 (0, 0)) ∧
    ((((((w1.setCell ⟨R, 0, none⟩ a).setCell ⟨R, 1, none⟩ b).setCell ⟨R, 2, none⟩ c).setCell ⟨R, 3, none⟩ d).setCell ⟨F, 0, none⟩ x).setCell ⟨F, 1, none⟩ y).heap[F]? = some (.cells #[x, y] 30 (0, 0)) ∧
    Keeps (fun _ => False) w ((((((w1.setCell ⟨R, 0, none⟩ a).setCell ⟨R, 1, none⟩ b).setCell ⟨R, 2, none⟩ c).setCell ⟨R, 3, none⟩ d).setCell ⟨F, 0, none⟩ x).setCell ⟨F, 1, none⟩ y) ∧
    Keeps (fun k => k = R ∨ k = F) w1 ((((((w1.setCell ⟨R, 0, none⟩ a).setCell ⟨R, 1, none⟩ b).setCell ⟨R, 2, none⟩ c).setCell ⟨R, 3, none⟩ d).setCell ⟨F, 0, none⟩ x).setCell ⟨F, 1, none⟩ y) := by
  have kq := keeps_quad (w := w1) R a b c d
  have hq := quad_set h.res a b c d
  have hf := h.flt.keepsS kq (fun e => h.ne e.symm) (fun i hi => by subst hi; exact h.base)
  have hs := hf.set x y
  exact ⟨(keeps_pair F x y).heap hq h.ne, hs.1, hs.2, (kq.mono (fun _ _ h => .inl h)).trans ((keeps_pair F x y).mono (fun _ _ h => .inr h))⟩
theorem TFl.ids {w w1 : World} {R F : Nat} (h : TFl w w1 R F) : w1.setCell ⟨R, 0, none⟩ (.int .i64 0) = w1 ∧ w1.setCell ⟨R, 1, none⟩ (.slice none 0 0) = w1 ∧ w1.setCell ⟨R, 2, none⟩ (.slice none 0 0) = w1 ∧ w1.setCell ⟨R, 3, none⟩ (.slice none 0 0) = w1 :=
  ⟨setCell_id h.cells.1, setCell_id h.cells.2.1, setCell_id h.cells.2.2.1, setCell_id h.cells.2.2.2.1⟩
theorem TFl.fin {w w1 : World} {R F : Nat} (h : TFl w w1 R F) (x y : Value) : ((w1.setCell ⟨F, 0, none⟩ x).setCell ⟨F, 1, none⟩ y).drew.heap[R]? = some (.cells #[.int .i64 0, .slice none 0 0, .slice none 0 0, .slice none 0 0] 25 (0, 0)) ∧
    ((w1.setCell ⟨F, 0, none⟩ x).setCell ⟨F, 1, none⟩ y).drew.heap[F]? = some (.cells #[x, y] 30 (0, 0)) ∧ Keeps (fun _ => False) w ((w1.setCell ⟨F, 0, none⟩ x).setCell ⟨F, 1, none⟩ y).drew :=
  ⟨(keeps_pair F x y).drew.heap h.res h.ne, (h.flt.set x y).1, (h.flt.set x y).2.drew⟩

/-! ### the loop -/
structure ScaleI (t : Tsk) (k : Int) (w : World) (base R F b7 : Nat) (v1 v2 v3 : Value) (i : Nat) (xs : List Value) (wr : World) : Prop where
  box : wr.heap[b7]? = some (.cells #[.int .i64 t.n, v1, v2, v3] 25 (0, 0))
  row : OprRow wr base v3 (mixO k i t.ops) xs
  i1 : OwnI wr base v3 v1 t.init
  i2 : OwnI wr base v3 v2 t.goal
  fl : TFl w wr R F
  rb : R < base
  fb : F < base
  low : w.heap.size ≤ base
theorem ScaleI.next {t : Tsk} {k : Int} {w wr : World} {base R F b7 g c : Nat} {v1 v2 : Value} {i : Nat} {xs : List Value} {o : Opr} (h : ScaleI t k w base R F b7 v1 v2 (.slice (some ⟨g, 0, none⟩) t.ops.length c) i xs wr) (ho : t.ops[i]? = some o) :
    ∃ xs', ScaleI t k w base R F b7 v1 v2 (.slice (some ⟨g, 0, none⟩) t.ops.length c) (i + 1) xs' (wr.setCell ⟨g, i * 4 + 3, none⟩ (.int .i64 (o.cost * k))) := by
  have hil := (List.getElem?_eq_some_iff.1 ho).1
  have hout := h.row.out
  rw [mixO_length] at hout
  have hg0 : base ≤ g := (World.ownsRow.lt hout g rfl).1
  obtain ⟨hst, _⟩ := hout.stored (i * 4 + 3) (.int .i64 (o.cost * k))
  have KS : Keeps (fun b => b = g) wr (wr.setCell ⟨g, i * 4 + 3, none⟩ (.int .i64 (o.cost * k))) := (Keeps.refl (fun b => b = g) wr).setCell (p := ⟨g, i * 4 + 3, none⟩) (.inl rfl) _
  have own : ∀ {u l}, OwnI wr base (.slice (some ⟨g, 0, none⟩) t.ops.length c) u l → OwnI (wr.setCell ⟨g, i * 4 + 3, none⟩ (.int .i64 (o.cost * k))) base (.slice (some ⟨g, 0, none⟩) t.ops.length c) u l := fun {u l} hu => hu.keepsS KS (fun j hj e => (hu.2 j hj).1 (by rw [e]; rfl))
  have hrx : xs.length = t.ops.length * 4 := hout.1
  refine ⟨xs.set (i * 4 + 3) (.int .i64 (o.cost * k)), ?_, ⟨by rw [mixO_length]; exact hst, fun j p hp => ?_⟩, own h.i1, own h.i2, h.fl.keepsS KS (fun e => by have := h.rb; omega) (fun e => by have := h.fb; omega) (fun j hj => by have := h.low; omega), h.rb, h.fb, h.low⟩
  · exact KS.heap h.box (own_ne_box hout h.box (by decide) g rfl).symm
  · rw [← mixO_set k i t.ops o ho] at hp
    by_cases hji : j = i
    · subst hji
      rw [List.getElem?_set_self (by rw [mixO_length]; exact hil)] at hp
      cases hp
      obtain ⟨a, b, c', h1, h2, h3, h4, h5, h6, h7⟩ := h.row.st j o (by rw [mixO_at]; exact ho)
      exact ⟨a, b, c', by rw [List.getElem?_set_ne (by omega)]; exact h1, by rw [List.getElem?_set_ne (by omega)]; exact h2, by rw [List.getElem?_set_ne (by omega)]; exact h3, by rw [List.getElem?_set_self (by omega)]; rfl, own h5, own h6, own h7⟩
    · rw [List.getElem?_set_ne (fun e => hji e.symm)] at hp
      obtain ⟨a, b, c', h1, h2, h3, h4, h5, h6, h7⟩ := h.row.st j p hp
      exact ⟨a, b, c', by rw [List.getElem?_set_ne (by omega)]; exact h1, by rw [List.getElem?_set_ne (by omega)]; exact h2, by rw [List.getElem?_set_ne (by omega)]; exact h3, by rw [List.getElem?_set_ne (by omega)]; exact h4, own h5, own h6, own h7⟩
/-- The cell of a cost, ahead of its store. -/
theorem ScaleI.cost {t : Tsk} {k : Int} {w wr : World} {base R F b7 : Nat} {v1 v2 v3 : Value} {i : Nat} {xs : List Value} {o : Opr} (h : ScaleI t k w base R F b7 v1 v2 v3 i xs wr) (ho : t.ops[i]? = some o) :
    ∃ g c, v3 = .slice (some ⟨g, 0, none⟩) t.ops.length c ∧ wr.cell? ⟨g, i * 4 + 3, none⟩ = some (.int .i64 o.cost) ∧ wr.frozen? ⟨g, i * 4 + 3, none⟩ = false ∧ g < wr.heap.size ∧ g ≠ b7 := by
  have hil := (List.getElem?_eq_some_iff.1 ho).1
  have hout := h.row.out
  rw [mixO_length] at hout
  have hnb := own_ne_box hout h.box (by decide)
  have hlt := World.ownsRow.lt hout
  obtain ⟨a, b, c', h1, h2, h3, h4, _⟩ := h.row.st i o (by rw [mixO_at]; exact ho)
  rcases hout.2 with ⟨rfl, h0⟩ | ⟨g, cap, cur, rfl, hb, hg, hn, hcm, hs, ht⟩
  · omega
  · exact ⟨g, cap, rfl, by rw [hout.cellAt _ (by omega)]; exact h4, frozen_of_blk hg, (hlt g rfl).2, hnb g rfl⟩
theorem ScaleI.done {t : Tsk} {k : Int} {w wr : World} {base R F b7 : Nat} {v1 v2 v3 : Value} {xs : List Value} (h : ScaleI t k w base R F b7 v1 v2 v3 t.ops.length xs wr) (hm : t.ops.length ≤ 1000) {S : Nat → Prop} {w' : World} (hk : Keeps S wr w') (hs : ∀ i, S i → i < base) : TaskAt w' v1 v2 v3 (t.scaled k) := by
  have hr := h.row.keepsS hk hs
  rw [mixO_all] at hr
  exact ⟨(h.i1.keepsS hk (fun j hj hS => by have := (h.i1.2 j hj).2.1; have := hs j hS; omega)).1, (h.i2.keepsS hk (fun j hj hS => by have := (h.i2.2 j hj).2.1; have := hs j hS; omega)).1, hr.opsAt (by simp; omega)⟩

def ScalePost (t : Tsk) (k : Int) (w : World) (e : Ending) (w' : World) : Prop := Keeps (fun _ => False) w w' ∧
  ((∃ c i : Int, c ≠ 0 ∧ e = .returned (.tuple #[.agg #[.int .i64 0, .slice none 0 0, .slice none 0 0, .slice none 0 0], fltV c i])) ∨
   (t.Ok ∧ 0 ≤ k ∧ k ≤ 100 ∧ (∀ o ∈ t.ops, o.cost * k ≤ 100) ∧ ∃ v1 v2 v3, e = .returned (.tuple #[.agg #[.int .i64 t.n, v1, v2, v3], fltV 0 0]) ∧ TaskAt w' v1 v2 v3 (t.scaled k)))

set_option maxRecDepth 100000 in
set_option maxHeartbeats 4000000 in
theorem scaleT_any (w : World) (vi vg vo : Value) (t : Tsk) (k : Int) (h : TaskAt w vi vg vo t) :
    Calls Try.prog 20 #[.agg #[.int .i64 t.n, vi, vg, vo], .int .i64 k] w (ScalePost t k w) := by
  obtain ⟨ai, ci, h1, _⟩ := h.init.form
  obtain ⟨ag, cg, h2, _⟩ := h.goal.form
  obtain ⟨ao, co, h3, hmo⟩ := h.ops.form
  subst h1 h2 h3
  have K1 := (Keeps.refl (fun _ => False) w).alloc (.cells #[.int .i64 t.n, .slice ai t.init.length ci, .slice ag t.goal.length cg, .slice ao t.ops.length co] 25)
  have KA := (Keeps.refl (fun _ => False) (w.alloc (.cells #[.int .i64 t.n, .slice ai t.init.length ci, .slice ag t.goal.length cg, .slice ao t.ops.length co] 25))).alloc (.cells #[.int .i64 0, .slice none 0 0, .slice none 0 0, .slice none 0 0] 25)
  have KB := (Keeps.refl (fun _ => False) ((w.alloc (.cells #[.int .i64 t.n, .slice ai t.init.length ci, .slice ag t.goal.length cg, .slice ao t.ops.length co] 25)).alloc (.cells #[.int .i64 0, .slice none 0 0, .slice none 0 0, .slice none 0 0] 25))).alloc (.cells #[.int .i64 0, .int .i64 0] 30)
  have HB := Lib.hid ((Four.new w (.int .i64 t.n) (.slice ai t.init.length ci) (.slice ag t.goal.length cg) (.slice ao t.ops.length co) 25).keeps0 (KA.trans KB))
  have hr := KB.heap (heap_alloc_new (w.alloc (.cells #[.int .i64 t.n, .slice ai t.init.length ci, .slice ag t.goal.length cg, .slice ao t.ops.length co] 25)) (.cells #[.int .i64 0, .slice none 0 0, .slice none 0 0, .slice none 0 0] 25)) (fun h => h)
  have hf : Flt w _ _ 30 := ⟨heap_alloc_new ((w.alloc (.cells #[.int .i64 t.n, .slice ai t.init.length ci, .slice ag t.goal.length cg, .slice ao t.ops.length co] 25)).alloc (.cells #[.int .i64 0, .slice none 0 0, .slice none 0 0, .slice none 0 0] 25)) (.cells #[.int .i64 0, .int .i64 0] 30), by simp; omega, K1.trans (KA.trans KB)⟩
  have HT := Lib.hid (h.keeps0 (K1.trans (KA.trans KB)))
  rw [World.size_alloc] at hr hf
  rw [World.size_alloc] at hf
  have HR := Lib.hid (show TFl w _ (w.heap.size + 1) (w.heap.size + 1 + 1) from ⟨hr, hf, by omega, by omega⟩)
  clear h K1 KA KB hr hf
  go_enter Try.func20, Try.ntmps20
  go_upto_region 1 with fail
  generalize (((w.alloc (.cells #[.int .i64 t.n, .slice ai t.init.length ci, .slice ag t.goal.length cg, .slice ao t.ops.length co] 25)).alloc (.cells #[.int .i64 0, .slice none 0 0, .slice none 0 0, .slice none 0 0] 25)).alloc (.cells #[.int .i64 0, .int .i64 0] 30)) = w1 at HB HR HT ⊢
  have hbx := HB.out.lt
  obtain ⟨d0, d1, d2, d3⟩ := HB.out
  go_wp2_with fail
  refine (validate_any _ _ _ _ t HT.out).mono ?_; rintro e w2 ⟨rfl, hk⟩
  have HB2 := Lib.hid (HB.out.keeps0 hk); have HT2 := Lib.hid (HT.out.keeps0 hk); have HR2 := Lib.hid (HR.out.keeps0 hk)
  clear d0 d1 d2 d3 hk hbx HB HT HR
  by_cases hc : (taskFault t).1 = 0
  · have hok := taskFault_zero.1 hc
    have hft := taskFault_ok hok
    have OK := Lib.hid hok
    rw [hft]
    clear hc hft hok
    have KA := (Keeps.refl (fun _ => False) w2).alloc (.cells #[.int .i64 0, .int .i64 0] 30)
    have HB3 := Lib.hid (HB2.out.keeps0 KA); have HT3 := Lib.hid (HT2.out.keeps0 KA); have HR3 := Lib.hid (HR2.out.keeps0 KA)
    have F0 := heap_alloc_new w2 (.cells #[.int .i64 0, .int .i64 0] 30)
    clear KA
    go_upto_region 2 with fail
    generalize w2.alloc (.cells #[.int .i64 0, .int .i64 0] 30) = w3 at HB3 HT3 HR3 F0 ⊢
    have f0 : w3.cell? ⟨w2.heap.size, 0, none⟩ = some (.int .i64 0) := by rw [cell_of_blk F0]; rfl
    have f1 : w3.cell? ⟨w2.heap.size, 1, none⟩ = some (.int .i64 0) := by rw [cell_of_blk F0]; rfl
    clear F0
    by_cases hk : k < 0 ∨ 100 < k
    · have q : (decide (k < 0) = true) ∨ (decide (k < 0) = false ∧ decide (100 < k) = true) := by
        by_cases h0 : k < 0
        · exact .inl (by simpa using h0)
        · exact .inr ⟨by simpa using h0, by simpa using hk.resolve_left h0⟩
      have HFIN := Lib.hid (HR3.out.set (.int .i64 0) (.slice none 0 0) (.slice none 0 0) (.slice none 0 0) (.int .i64 3) (.int .i64 (-8)))
      obtain ⟨r0, r1, r2, r3, y0, y1, y2, y3, hlR⟩ := HR3.out.cells
      obtain ⟨e0, e1, z0, z1, hF⟩ := HR3.out.flt.cells
      clear hk
      rcases q with q | ⟨q, q2⟩
      all_goals
        go_wp2_with fail
        refine bodyPost_ret (results_cell_cell _ _ (w.heap.size + 1 + 1) 30 #[.int .i64 3, .int .i64 (-8)] (0, 0) _ rfl rfl HFIN.out.2.1 Try.underlying30 rfl (by kernel_rfl) rfl HFIN.out.1 Try.underlying25 rfl (by kernel_rfl)) rfl ?_
        exact ⟨HFIN.out.2.2.1, .inl ⟨3, -8, by decide, rfl⟩⟩
    · have q1 : decide (k < 0) = false := by simp; omega
      have q2 : decide (100 < k) = false := by simp; omega
      have HK2 := Lib.hid (show 0 ≤ k ∧ k ≤ 100 by omega)
      obtain ⟨d0, d1, d2, d3⟩ := HB3.out
      have hbx := HB3.out.lt
      clear hk
      go_wp2_with fail
      refine (cloneT_any _ _ _ _ t HT3.out OK.out).mono ?_; rintro e w4 ⟨v1, v2, v3, xs, rfl, ho1, ho2, hrow, hk⟩
      obtain ⟨a5, c5, g1, _⟩ := ho1.1.form
      obtain ⟨a6, c6, g2, _⟩ := ho2.1.form
      obtain ⟨a7, c7, g3, _⟩ := (hrow.opsAt (by have := OK.out.few; omega)).form
      subst g1 g2 g3
      have KC := (Keeps.refl (fun _ => False) w4).alloc (.cells #[.int .i64 t.n, .slice a5 t.init.length c5, .slice a6 t.goal.length c6, .slice a7 t.ops.length c7] 25)
      have HR5 := HR3.out.keeps0 (hk.trans KC)
      have HS5 := Lib.hid (show ScaleI t k w w3.heap.size (w.heap.size + 1) (w.heap.size + 1 + 1) w4.heap.size (.slice a5 t.init.length c5) (.slice a6 t.goal.length c6) (.slice a7 t.ops.length c7) 0 xs (w4.alloc (.cells #[.int .i64 t.n, .slice a5 t.init.length c5, .slice a6 t.goal.length c6, .slice a7 t.ops.length c7] 25)) from
        ⟨heap_alloc_new w4 _, hrow.keepsS KC (fun _ h => h.elim), ho1.keepsS KC (fun _ _ h => h), ho2.keepsS KC (fun _ _ h => h), HR5, lt_of_heap HR3.out.res, HR3.out.flt.cells.2.2.2.2, by have := lt_of_heap HR3.out.res; omega⟩)
      clear d0 d1 d2 d3 hk hbx f0 f1 ho1 ho2 hrow KC HR5
      go_upto_region 7 with fail
      generalize (w4.alloc (.cells #[.int .i64 t.n, .slice a5 t.init.length c5, .slice a6 t.goal.length c6, .slice a7 t.ops.length c7] 25)) = w5 at HS5 ⊢
      obtain ⟨p0, p1, p2, p3, _, _, _, _, pl⟩ := quad_all HS5.out.box
      generalize w4.heap.size = b7 at HS5 p0 p1 p2 p3 pl ⊢
      go_wp2_with fail
      clear p0 p1 p2 p3 pl
      go_loopw [29] (fun i wr => ∃ (j : Nat) (xs : List Value), j ≤ t.ops.length ∧ i = .int .i64 (j : Int) ∧ (∀ o ∈ t.ops.take j, o.cost * k ≤ 100) ∧ ScaleI t k w w3.heap.size (w.heap.size + 1) (w.heap.size + 1 + 1) b7 (.slice a5 t.init.length c5) (.slice a6 t.goal.length c6) (.slice a7 t.ops.length c7) j xs wr) (fun i _ => t.ops.length - (intOf i).toNat)
      case atStart => exact ⟨0, xs, Nat.zero_le _, rfl, by simp, HS5.out⟩
      case round =>
        obtain ⟨j, xs, hj, rfl, hall, hi⟩ := hrel
        have HI := Lib.hid hi; have HALL := Lib.hid hall
        clear hi hall
        obtain ⟨p0, p1, p2, p3, _, _, _, _, pl⟩ := quad_all HI.out.box
        by_cases hlt : j < t.ops.length
        · obtain ⟨o, ho⟩ : ∃ o, t.ops[j]? = some o := ⟨_, List.getElem?_eq_getElem hlt⟩
          obtain ⟨g, c, hv, gc, gf, gl, gne⟩ := HI.out.cost ho
          have hcost := (OK.out.ops o (List.mem_of_getElem? ho))
          have hc0 : 0 ≤ o.cost := hcost.cost0
          have hc1 : o.cost ≤ 100 := hcost.cost1
          have hprod0 : 0 ≤ o.cost * k := Int.mul_nonneg hc0 HK2.out.1
          have hprod1 : o.cost * k ≤ 10000 := Int.le_trans (Int.mul_le_mul_of_nonneg_left HK2.out.2 hc0) (by omega)
          cases hv
          obtain ⟨xs', hn⟩ := HI.out.next ho
          have HN := Lib.hid hn
          have HO := Lib.hid ho
          clear hn ho hcost
          have gN : (wr.setCell ⟨g, j * 4 + 3, none⟩ (.int .i64 (o.cost * k))).cell? ⟨g, j * 4 + 3, none⟩ = some (.int .i64 (o.cost * k)) := World.cell?_setCell_same' _ _ _ (by rw [gc]; rfl)
          have s3 := (quad_all HN.out.box).2.2.2.1
          go_upto_region 11 with fail
          generalize (wr.setCell ⟨g, j * 4 + 3, none⟩ (.int .i64 (o.cost * k))) = w9 at HN gN s3 ⊢
          clear gc gf gl
          by_cases hbig : 100 < o.cost * k
          · have q3 : decide (100 < o.cost * k) = true := by simpa using hbig
            have HFIN := Lib.hid (HN.out.fl.set (.int .i64 0) (.slice none 0 0) (.slice none 0 0) (.slice none 0 0) (.int .i64 10) (.int .i64 (j : Int)))
            obtain ⟨r0, r1, r2, r3, y0, y1, y2, y3, hlR⟩ := HN.out.fl.cells
            obtain ⟨e0, e1, z0, z1, hF⟩ := HN.out.fl.flt.cells
            go_wp2_with fail
            refine bodyPost_ret (results_cell_cell _ _ (w.heap.size + 1 + 1) 30 #[.int .i64 10, .int .i64 (j : Int)] (0, 0) _ rfl rfl HFIN.out.2.1 Try.underlying30 rfl (by kernel_rfl) rfl HFIN.out.1 Try.underlying25 rfl (by kernel_rfl)) rfl ?_
            exact ⟨HFIN.out.2.2.1, .inl ⟨10, (j : Int), by decide, rfl⟩⟩
          · have q3 : decide (100 < o.cost * k) = false := by simpa using hbig
            go_wp2_with fail
            go_roundw
            case rel =>
              refine ⟨j + 1, xs', by omega, by go_num, fun o' ho' => ?_, HN.out⟩
              rw [take_getS HO.out] at ho'
              rcases List.mem_append.1 ho' with h | h
              · exact HALL.out o' h
              · obtain rfl : o' = o := by simpa using h
                omega
            case measure => simp [intOf]; omega
        · obtain rfl : j = t.ops.length := by omega
          have HFIN := Lib.hid (HI.out.fl.set (.int .i64 t.n) (.slice a5 t.init.length c5) (.slice a6 t.goal.length c6) (.slice a7 t.ops.length c7) (.int .i64 0) (.int .i64 0))
          obtain ⟨r0, r1, r2, r3, y0, y1, y2, y3, hlR⟩ := HI.out.fl.cells
          obtain ⟨e0, e1, z0, z1, hF⟩ := HI.out.fl.flt.cells
          go_wp2_with fail
          refine bodyPost_ret (results_cell_cell _ _ (w.heap.size + 1 + 1) 30 #[.int .i64 0, .int .i64 0] (0, 0) _ rfl rfl HFIN.out.2.1 Try.underlying30 rfl (by kernel_rfl) rfl HFIN.out.1 Try.underlying25 rfl (by kernel_rfl)) rfl ?_
          have hall := HALL.out
          rw [List.take_length] at hall
          exact ⟨HFIN.out.2.2.1, .inr ⟨OK.out, HK2.out.1, HK2.out.2, hall, _, _, _, rfl, HI.out.done (by have := OK.out.few; omega) HFIN.out.2.2.2 (fun i hi => by have := HI.out.rb; have := HI.out.fb; rcases hi with rfl | rfl <;> assumption)⟩⟩
  · have hc2 : ((taskFault t).1 == 0) = false := by simpa using hc
    have HC := Lib.hid hc
    clear hc
    generalize hfe : taskFault t = f at hc2 HC ⊢
    clear hfe
    have HR3 := Lib.hid (HR2.out.keeps0 ((Keeps.refl _ _).alloc (.cells #[.int .i64 f.1, .int .i64 f.2] 30)))
    have F0 := heap_alloc_new w2 (.cells #[.int .i64 f.1, .int .i64 f.2] 30)
    go_upto_region 2 with fail
    generalize w2.alloc (.cells #[.int .i64 f.1, .int .i64 f.2] 30) = w3 at HR3 F0 ⊢
    have f0 : w3.cell? ⟨w2.heap.size, 0, none⟩ = some (.int .i64 f.1) := by rw [cell_of_blk F0]; rfl
    have f1 : w3.cell? ⟨w2.heap.size, 1, none⟩ = some (.int .i64 f.2) := by rw [cell_of_blk F0]; rfl
    have HFIN := Lib.hid (HR3.out.fin (.int .i64 f.1) (.int .i64 f.2))
    obtain ⟨r0, r1, r2, r3, y0, y1, y2, y3, hlR⟩ := HR3.out.cells
    obtain ⟨e0, e1, z0, z1, hF⟩ := HR3.out.flt.cells
    obtain ⟨s0, s1, s2, s3⟩ := HR3.out.ids
    clear F0
    go_wp2_with fail
    go_region
    all_goals
      go_wp2
      refine bodyPost_ret (results_cell_cell _ _ (w.heap.size + 1 + 1) 30 #[.int .i64 f.1, .int .i64 f.2] (0, 0) _ rfl rfl HFIN.out.2.1 Try.underlying30 rfl (by kernel_rfl) rfl HFIN.out.1 Try.underlying25 rfl (by kernel_rfl)) rfl ?_
      exact ⟨HFIN.out.2.2, .inl ⟨f.1, f.2, HC.out, rfl⟩⟩

end Go.Proofs.Ytdonadeodioplaa

namespace Go.Proofs.Ytdonadeodioplaa

def Wop.sc (k : Int) (o : Wop) : Wop := { o with cost := o.cost * k }
def Stp.sc (k : Int) (x : Stp) : Stp := { x with cost := x.cost * k }
def Arc.sc (k : Int) (a : Arc) : Arc := { a with cost := a.cost * k }
theorem words_scaled (t : Tsk) (k : Int) : wordsOf (t.scaled k).ops = (wordsOf t.ops).map (Wop.sc k) := by
  unfold wordsOf Tsk.scaled
  rw [List.map_map, List.map_map]
  rfl
theorem nexts_sc (k : Int) (x : Nat) : ∀ S : List Wop, nexts (S.map (Wop.sc k)) x = nexts S x
  | [] => rfl
  | o :: r => by
    have h := nexts_sc k x r
    unfold nexts at h ⊢
    have e1 : (Wop.sc k o).can x = o.can x := rfl
    have e2 : (Wop.sc k o).next x = o.next x := rfl
    rw [List.map_cons, List.filter_cons, List.filter_cons, e1]
    split
    · rw [List.map_cons, List.map_cons, h, e2]
    · exact h
theorem bfs_sc (k : Int) (S : List Wop) (s : Nat) : ∀ i, bfs (S.map (Wop.sc k)) s i = bfs S s i
  | 0 => rfl
  | i + 1 => by
    rw [bfs, bfs, bfs_sc k S s i]
    simp only [nexts_sc]
theorem steps_sc (k : Int) (s : Nat) : ∀ (S : List Wop) (i : Nat), stepsFrom i (S.map (Wop.sc k)) s = (stepsFrom i S s).map (Stp.sc k)
  | [], i => rfl
  | o :: r, i => by
    have h := steps_sc k s r (i + 1)
    have e1 : (Wop.sc k o).can s = o.can s := rfl
    rw [List.map_cons, stepsFrom, stepsFrom, e1, h]
    split <;> rfl
theorem frs_sc (k : Int) (e : Ent) : ∀ (xs : List Stp) (seen : List Nat), frs e seen (xs.map (Stp.sc k)) = frs e seen xs
  | [], seen => rfl
  | x :: r, seen => by
    have e1 : (Stp.sc k x).to = x.to := rfl
    have e2 : e.of (Stp.sc k x) = e.of x := rfl
    rw [List.map_cons, frs, frs, e1, e2, frs_sc k e r, frs_sc k e r]
theorem tree_sc (k : Int) (S : List Wop) (s : Nat) : ∀ i, tree (S.map (Wop.sc k)) s i = tree S s i
  | 0 => rfl
  | i + 1 => by
    rw [tree, tree, tree_sc k S s i]
    have : ∀ x, wsteps (S.map (Wop.sc k)) x = (wsteps S x).map (Stp.sc k) := fun x => steps_sc k x S 0
    simp only [this, frs_sc]
theorem tree_stay {ops : List Wop} {s i : Nat} (h : (tree ops s i).length ≤ i) : ∀ k, tree ops s (i + k) = tree ops s i
  | 0 => rfl
  | k + 1 => by
    have ih := tree_stay h k
    rw [← Nat.add_assoc, tree, ih, List.getElem?_eq_none (by omega)]
theorem tree_same {ops : List Wop} {s i j : Nat} (hi : (tree ops s i).length ≤ i) (hj : (tree ops s j).length ≤ j) : tree ops s i = tree ops s j := by
  by_cases h : i ≤ j
  · obtain ⟨k, rfl⟩ := Nat.le.dest h; exact (tree_stay hi k).symm
  · obtain ⟨k, rfl⟩ := Nat.le.dest (Nat.le_of_not_le h); exact tree_stay hj k

/-! ### the arcs -/
theorem hits_sc (k : Int) (L : List Nat) (i j : Nat) (c : Int) (y : Nat) : ∀ n, hits L i j (c * k) y n = (hits L i j c y n).map (Arc.sc k)
  | 0 => rfl
  | n + 1 => by
    rw [hits, hits, hits_sc k L i j c y n, List.map_append]
    split <;> rfl
theorem opArcs_sc (k : Int) (S : List Wop) (L : List Nat) (i x : Nat) : ∀ j, opArcs (S.map (Wop.sc k)) L i x j = (opArcs S L i x j).map (Arc.sc k)
  | 0 => rfl
  | j + 1 => by
    rw [opArcs, opArcs, opArcs_sc k S L i x j, List.map_append, List.getElem?_map]
    cases S[j]? with
    | none => rfl
    | some o =>
      have e1 : (Wop.sc k o).can x = o.can x := rfl
      have e2 : (Wop.sc k o).next x = o.next x := rfl
      have e3 : (Wop.sc k o).cost = o.cost * k := rfl
      simp only [Option.map_some, e1, e2, e3]
      split
      · rw [hits_sc]
      · rfl
theorem arcsTo_sc (k : Int) (S : List Wop) (L : List Nat) : ∀ i, arcsTo (S.map (Wop.sc k)) L i = (arcsTo S L i).map (Arc.sc k)
  | 0 => rfl
  | i + 1 => by
    rw [arcsTo, arcsTo, arcsTo_sc k S L i, List.map_append]
    cases L[i]? with
    | none => rfl
    | some x => simp only [List.length_map, opArcs_sc]
theorem arcs_sc (k : Int) (S : List Wop) (L : List Nat) : arcs (S.map (Wop.sc k)) L = (arcs S L).map (Arc.sc k) := arcsTo_sc k S L _

/-! ### the costs -/
def costS (k x : Int) : Int := if x = bigC then bigC else x * k
theorem costS_fin {k x : Int} (h : x < bigC) : costS k x = x * k := by unfold costS; rw [if_neg (by omega)]
theorem Down.sc {A : List Arc} {acc : List Bool} {i : Nat} {x : Int} (k : Int) (h : Down A acc i x) : Down (A.map (Arc.sc k)) acc i (x * k) := by
  induction h with
  | nil h => rw [Int.zero_mul]; exact .nil h
  | @cons a c ha hd ih =>
    rw [Int.add_mul]
    exact Down.cons (a := a.sc k) (List.mem_map.2 ⟨a, ha, rfl⟩) ih
theorem CostOk.scaled {A : List Arc} {acc : List Bool} {d : List Int} (h : CostOk A acc d) {k : Int} (k0 : 0 ≤ k) (k1 : k ≤ 100) (hA : ∀ a ∈ A, 0 ≤ a.cost ∧ a.cost ≤ 100) (hs : ∀ x ∈ d, x < bigC → x ≤ 200000) : CostOk (A.map (Arc.sc k)) acc (d.map (costS k)) := by
  have hbig : bigC = 1000000000 := rfl
  have key : ∀ x ∈ d, (x = bigC ∧ costS k x = bigC) ∨ (x < bigC ∧ costS k x = x * k ∧ 0 ≤ x * k ∧ x * k ≤ 20000000) := fun x hx => by
    have := h.lo x hx
    by_cases e : x = bigC
    · exact .inl ⟨e, by unfold costS; rw [if_pos e]⟩
    · have hl : x < bigC := by omega
      have := hs x hx hl
      refine .inr ⟨hl, costS_fin hl, Int.mul_nonneg (by omega) k0, ?_⟩
      exact Int.le_trans (Int.mul_le_mul_of_nonneg_left k1 (by omega)) (by omega)
  refine ⟨⟨by rw [List.length_map]; exact h.len, fun x hx => ?_, fun i hi => ?_, fun i x hx hl => ?_⟩, fun a' ha' => ?_⟩
  · obtain ⟨y, hy, rfl⟩ := List.mem_map.1 hx
    rcases key y hy with ⟨_, e⟩ | ⟨_, e, h1, h2⟩ <;> rw [e] <;> omega
  · rw [List.getElem?_map, h.zero i hi]
    simp [costS, hbig]
  · rw [List.getElem?_map] at hx
    obtain ⟨y, hy, rfl⟩ := Option.map_eq_some_iff.1 hx
    rcases key y (List.mem_of_getElem? hy) with ⟨_, e⟩ | ⟨hl', e, _, _⟩
    · omega
    · rw [e]; exact (h.real i y hy hl').sc k
  · obtain ⟨a, ha, rfl⟩ := List.mem_map.1 ha'
    intro z hz hl
    rw [List.getElem?_map] at hz
    obtain ⟨y, hy, rfl⟩ := Option.map_eq_some_iff.1 hz
    rcases key y (List.mem_of_getElem? hy) with ⟨_, e⟩ | ⟨hl', e, _, _⟩
    · omega
    · obtain ⟨x, hx, hle⟩ := h.relax a ha y hy hl'
      have hy2 := hs y (List.mem_of_getElem? hy) hl'
      have hc := hA a ha
      refine ⟨costS k x, by rw [List.getElem?_map, show (Arc.sc k a).frm = a.frm from rfl, hx]; rfl, ?_⟩
      rcases key x (List.mem_of_getElem? hx) with ⟨e', _⟩ | ⟨_, e', _, _⟩
      · omega
      · rw [e, e', show (Arc.sc k a).cost = a.cost * k from rfl, ← Int.add_mul]
        exact Int.mul_le_mul_of_nonneg_right hle k0

/-- The scaled task is a task. -/
theorem Tsk.Ok.scaled {t : Tsk} (ok : t.Ok) {k : Int} (k0 : 0 ≤ k) (hc : ∀ o ∈ t.ops, o.cost * k ≤ 100) : (t.scaled k).Ok :=
  ⟨ok.n0, ok.n1, ok.init, ok.goal, by unfold Tsk.scaled; simpa using ok.few, fun o ho => by
    unfold Tsk.scaled at ho
    obtain ⟨o', ho', rfl⟩ := List.mem_map.1 ho
    have h := ok.ops o' ho'
    exact ⟨h.pre, h.add, h.del, h.disj, Int.mul_nonneg h.cost0 k0, hc o' ho'⟩⟩
theorem explored_scaled (t : Tsk) (k : Int) : explored (t.scaled k) = explored t := by
  unfold explored reached
  rw [words_scaled, bfs_sc]; rfl

/-- The cheapest costs of the scaled task. -/
theorem costs_scaled {t : Tsk} (ok : t.Ok) {k : Int} (k0 : 0 ≤ k) (k1 : k ≤ 100) {l ws : List Nat} (hx : explored t = some l) (hp : ws.Perm l) {D D' : Nat → Int} (hD : CostOk (arcs (wordsOf t.ops) ws) (ws.map (goalB (wd t.goal))) (ws.map D))
    (hD' : CostOk (arcs (wordsOf (t.scaled k).ops) ws) (ws.map (goalB (wd t.goal))) (ws.map D')) :
    D' (wd t.init) = costS k (D (wd t.init)) ∧ 0 ≤ D (wd t.init) ∧ (D (wd t.init) = bigC ∨ D (wd t.init) ≤ 200000) := by
  obtain ⟨_, _, _, hsh, hfew, _, _, n8⟩ := costs_need ok hx hp
  have hbig : bigC = 1000000000 := rfl
  have hw : ∀ o ∈ wordsOf t.ops, 0 ≤ o.cost ∧ o.cost ≤ 100 := fun o ho => by
    unfold wordsOf at ho
    obtain ⟨o', ho', rfl⟩ := List.mem_map.1 ho
    exact ⟨(ok.ops o' ho').cost0, (ok.ops o' ho').cost1⟩
  have hA : ∀ a ∈ arcs (wordsOf t.ops) ws, 0 ≤ a.cost ∧ a.cost ≤ 100 := fun a ha => by
    obtain ⟨y, o, _, h2, _, h4, _⟩ := mem_arcs.1 ha
    rw [h4]; exact hw o (List.mem_of_getElem? h2)
  have hsm : ∀ x ∈ ws, D x < bigC → D x ≤ 200000 := fun x hx hl => by
    have := opt_small hD hw hx hl
    omega
  have hS := hD.scaled k0 k1 hA (fun y hy hl => by
    obtain ⟨x, hx, rfl⟩ := List.mem_map.1 hy
    exact hsm x hx hl)
  rw [words_scaled, arcs_sc] at hD'
  have e := hD'.unique hS (fun a ha => by
    obtain ⟨b, hb, rfl⟩ := List.mem_map.1 ha
    exact Int.mul_nonneg (hA b hb).1 k0)
  rw [List.map_map] at e
  have e2 := List.map_inj_left.1 e _ n8
  have hlo := hD.lo (D (wd t.init)) (List.mem_map.2 ⟨_, n8, rfl⟩)
  refine ⟨e2, hlo.1, ?_⟩
  by_cases hl : D (wd t.init) < bigC
  · exact .inr (hsm _ n8 hl)
  · exact .inl (by omega)
theorem expF_scaled {t : Tsk} (ok : t.Ok) {k : Int} (ok' : (t.scaled k).Ok) : expF (t.scaled k) = expF t := by
  unfold expF
  rw [if_pos (taskFault_zero.2 ok), if_pos (taskFault_zero.2 ok'), explored_scaled]
theorem deps_scaled {t : Tsk} {k : Int} {ws : List Nat} {i j : Nat} (hi : (tree (wordsOf t.ops) (wd t.init) i).length ≤ i) (hj : (tree (wordsOf (t.scaled k).ops) (wd (t.scaled k).init) j).length ≤ j) :
    ws.map (depT (tree (wordsOf (t.scaled k).ops) (wd (t.scaled k).init) j)) = ws.map (depT (tree (wordsOf t.ops) (wd t.init) i)) := by
  rw [words_scaled, tree_sc] at hj ⊢
  rw [tree_same hi (show (tree (wordsOf t.ops) (wd t.init) j).length ≤ j from hj)]; rfl

end Go.Proofs.Ytdonadeodioplaa

namespace Go.Proofs.Ytdonadeodioplaa
open Go.RowKit

set_option maxRecDepth 100000 in
set_option maxHeartbeats 1000000 in
theorem scLaw_any (w : World) (vi vg vo : Value) (t : Tsk) (k : Int) (h : TaskAt w vi vg vo t) :
    Calls Try.prog 4 #[.agg #[.int .i64 t.n, vi, vg, vo], .int .i64 k] w fun e w' => e = .returned (.bool true) ∧ Keeps (fun _ => False) w w' := by
  obtain ⟨ai, ci, h1, _⟩ := h.init.form
  obtain ⟨ag, cg, h2, _⟩ := h.goal.form
  obtain ⟨ao, co, h3, hmo⟩ := h.ops.form
  subst h1 h2 h3
  have HB := Lib.hid (Four.new w (.int .i64 t.n) (.slice ai t.init.length ci) (.slice ag t.goal.length cg) (.slice ao t.ops.length co) 25)
  have K1 := (Keeps.refl (fun _ => False) w).alloc (.cells #[.int .i64 t.n, .slice ai t.init.length ci, .slice ag t.goal.length cg, .slice ao t.ops.length co] 25)
  have HT := Lib.hid (h.keeps0 K1); have HK := Lib.hid K1
  clear h K1
  go_enter Try.func4, Try.ntmps4
  go_upto_region 1 with fail
  generalize (w.alloc (.cells #[.int .i64 t.n, .slice ai t.init.length ci, .slice ag t.goal.length cg, .slice ao t.ops.length co] 25)) = w1 at HB HT HK ⊢
  generalize w.heap.size = bt at HB ⊢
  go_wp2_with fail
  refine (spaceExample_any _).mono ?_; rintro e w2 ⟨rfl, hk⟩
  have HB1 := Lib.hid (HB.out.keeps0 hk); have HT1 := Lib.hid (HT.out.keeps0 hk); have HK1 := Lib.hid (HK.out.trans hk)
  clear HB HT HK
  clear hk
  have hbxd := HB1.out.lt
  obtain ⟨d0, d1, d2, d3⟩ := HB1.out
  go_wp2_with fail
  refine (scaleT_any _ _ _ _ t k HT1.out).mono ?_; rintro e w3 ⟨hk, hr⟩
  rcases hr with ⟨c, i, hc, rfl⟩ | ⟨ok, k0, k1, hcs, v1, v2, v3, rfl, ht⟩
  ·
    have hcb : (c != 0) = true := by simpa using hc
    clear hc
    clear hbxd d0 d1 d2 d3
    simp only [fltV]
    have KA := (Keeps.refl (fun _ => False) w3).alloc (.cells #[.int .i64 0, .slice none 0 0, .slice none 0 0, .slice none 0 0] 25)
    have KA2 := (Keeps.refl (fun _ => False) (w3.alloc (.cells #[.int .i64 0, .slice none 0 0, .slice none 0 0, .slice none 0 0] 25))).alloc (.cells #[.int .i64 c, .int .i64 i] 30)
    have KB := hk.trans (KA.trans KA2)
    have HB2 := Lib.hid (HB1.out.keeps0 KB); have HT2 := Lib.hid (HT1.out.keeps0 KB); have HK2 := Lib.hid (HK1.out.trans KB)
    clear HB1 HT1 HK1
    have F0 := Lib.hid (heap_alloc_new (w3.alloc (.cells #[.int .i64 0, .slice none 0 0, .slice none 0 0, .slice none 0 0] 25)) (.cells #[.int .i64 c, .int .i64 i] 30))
    clear hk KA KA2 KB
    go_upto_region 4 with fail
    rw [World.size_alloc] at F0
    generalize (w3.alloc (.cells #[.int .i64 0, .slice none 0 0, .slice none 0 0, .slice none 0 0] 25)).alloc (.cells #[.int .i64 c, .int .i64 i] 30) = z0 at HB2 HT2 HK2 F0 ⊢
    obtain ⟨p0, q0, r0, s0, l0⟩ := pair_cells F0.out
    clear r0 s0
    go_wp2_with fail
    go_ret
    exact ⟨rfl, HK2.out⟩
  ·
    obtain ⟨a5, c5, g1, _⟩ := ht.init.form
    obtain ⟨a6, c6, g2, _⟩ := ht.goal.form
    obtain ⟨a7, c7, g3, _⟩ := ht.ops.form
    subst g1 g2 g3
    have OK := Lib.hid ok; have K01 := Lib.hid (And.intro k0 k1); have OK' := Lib.hid (ok.scaled k0 hcs)
    clear ok k0 k1 hcs
    clear hbxd d0 d1 d2 d3
    simp only [fltV]
    have KA := (Keeps.refl (fun _ => False) w3).alloc (.cells #[.int .i64 t.n, .slice a5 (t.scaled k).init.length c5, .slice a6 (t.scaled k).goal.length c6, .slice a7 (t.scaled k).ops.length c7] 25)
    have KA2 := (Keeps.refl (fun _ => False) (w3.alloc (.cells #[.int .i64 t.n, .slice a5 (t.scaled k).init.length c5, .slice a6 (t.scaled k).goal.length c6, .slice a7 (t.scaled k).ops.length c7] 25))).alloc (.cells #[.int .i64 0, .int .i64 0] 30)
    have KB := hk.trans (KA.trans KA2)
    have HB2 := Lib.hid (HB1.out.keeps0 KB); have HT2 := Lib.hid (HT1.out.keeps0 KB); have HK2 := Lib.hid (HK1.out.trans KB)
    clear HB1 HT1 HK1
    have F0 := Lib.hid (heap_alloc_new (w3.alloc (.cells #[.int .i64 t.n, .slice a5 (t.scaled k).init.length c5, .slice a6 (t.scaled k).goal.length c6, .slice a7 (t.scaled k).ops.length c7] 25)) (.cells #[.int .i64 0, .int .i64 0] 30))
    have HT5 := Lib.hid (ht.keeps0 (KA.trans KA2))
    have HB5 := Lib.hid ((Four.new w3 (.int .i64 t.n) (.slice a5 (t.scaled k).init.length c5) (.slice a6 (t.scaled k).goal.length c6) (.slice a7 (t.scaled k).ops.length c7) 25).keeps0 KA2)
    clear hk KA KA2 KB
    go_upto_region 4 with fail
    rw [World.size_alloc] at F0
    generalize (w3.alloc (.cells #[.int .i64 t.n, .slice a5 (t.scaled k).init.length c5, .slice a6 (t.scaled k).goal.length c6, .slice a7 (t.scaled k).ops.length c7] 25)).alloc (.cells #[.int .i64 0, .int .i64 0] 30) = z0 at HB2 HT2 HK2 F0 HT5 HB5 ⊢
    generalize w3.heap.size = b5 at F0 HB5 ⊢
    clear ht
    obtain ⟨p0, q0, r0, s0, l0⟩ := pair_cells F0.out
    clear r0 s0
    have hbxd := HB2.out.lt
    obtain ⟨d0, d1, d2, d3⟩ := HB2.out
    go_wp2_with fail
    refine (optimal_any _ _ _ _ t HT2.out).mono ?_; rintro e y1 ⟨hk, hr⟩
    clear p0 q0 l0
    clear F0
    rcases hr with ⟨c, i, hc, he, rfl⟩ | ⟨_, l, ws, D, hx, hperm, hsort, hd, rfl⟩
    ·
      have HC := Lib.hid hc; have HE := Lib.hid he; have HE' := Lib.hid ((expF_scaled OK.out OK'.out).trans he)
      have hcb : (c != 0) = true := by simpa using hc
      clear hc he
      clear hbxd d0 d1 d2 d3
      simp only [fltV]
      have KA := (Keeps.refl (fun _ => False) y1).alloc (.cells #[.int .i64 c, .int .i64 i] 30)
      have KB := hk.trans KA
      have HB3 := Lib.hid (HB2.out.keeps0 KB); have HT3 := Lib.hid (HT2.out.keeps0 KB); have HK3 := Lib.hid (HK2.out.trans KB); have HT51 := Lib.hid (HT5.out.keeps0 KB); have HB51 := Lib.hid (HB5.out.keeps0 KB)
      clear HB2 HT2 HK2 HT5 HB5
      have F1 := Lib.hid (heap_alloc_new y1 (.cells #[.int .i64 c, .int .i64 i] 30))
      clear hk KA KB
      go_upto_region 7 with fail
      generalize y1.alloc (.cells #[.int .i64 c, .int .i64 i] 30) = z1 at HB3 HT3 HK3 HT51 HB51 F1 ⊢
      generalize y1.heap.size = b1 at F1 ⊢
      have hbxd := HB51.out.lt
      obtain ⟨d0, d1, d2, d3⟩ := HB51.out
      go_wp2_with fail
      refine (optimal_bad HT51.out HC.out HE'.out).mono ?_; rintro e y2 ⟨rfl, hk⟩
      clear hbxd d0 d1 d2 d3
      simp only [fltV]
      have KA := (Keeps.refl (fun _ => False) y2).alloc (.cells #[.int .i64 c, .int .i64 i] 30)
      have KB := hk.trans KA
      have HB4 := Lib.hid (HB3.out.keeps0 KB); have HT4 := Lib.hid (HT3.out.keeps0 KB); have HK4 := Lib.hid (HK3.out.trans KB); have HT52 := Lib.hid (HT51.out.keeps0 KB); have HB52 := Lib.hid (HB51.out.keeps0 KB); have F11 := Lib.hid (KB.heap F1.out (fun h => h))
      clear HB3 HT3 HK3 HT51 HB51 F1
      have F2 := Lib.hid (heap_alloc_new y2 (.cells #[.int .i64 c, .int .i64 i] 30))
      clear hk KA KB
      go_upto_region 8 with fail
      generalize y2.alloc (.cells #[.int .i64 c, .int .i64 i] 30) = z2 at HB4 HT4 HK4 HT52 HB52 F11 F2 ⊢
      generalize y2.heap.size = b2 at F2 ⊢
      have hbxd := HB4.out.lt
      obtain ⟨d0, d1, d2, d3⟩ := HB4.out
      go_wp2_with fail
      refine (explore_bad HT4.out HC.out HE.out).mono ?_; rintro e y3 ⟨rfl, hk⟩
      clear hbxd d0 d1 d2 d3
      simp only [fltV]
      have KA := (Keeps.refl (fun _ => False) y3).alloc (.cells #[.int .i64 c, .int .i64 i] 30)
      have KB := hk.trans KA
      have HB5 := Lib.hid (HB4.out.keeps0 KB); have HT5 := Lib.hid (HT4.out.keeps0 KB); have HK5 := Lib.hid (HK4.out.trans KB); have HT53 := Lib.hid (HT52.out.keeps0 KB); have HB53 := Lib.hid (HB52.out.keeps0 KB); have F12 := Lib.hid (KB.heap F11.out (fun h => h)); have F21 := Lib.hid (KB.heap F2.out (fun h => h))
      clear HB4 HT4 HK4 HT52 HB52 F11 F2
      have F3 := Lib.hid (heap_alloc_new y3 (.cells #[.int .i64 c, .int .i64 i] 30))
      clear hk KA KB
      go_upto_region 9 with fail
      generalize y3.alloc (.cells #[.int .i64 c, .int .i64 i] 30) = z3 at HB5 HT5 HK5 HT53 HB53 F12 F21 F3 ⊢
      generalize y3.heap.size = b3 at F3 ⊢
      have hbxd := HB53.out.lt
      obtain ⟨d0, d1, d2, d3⟩ := HB53.out
      go_wp2_with fail
      refine (explore_bad HT53.out HC.out HE'.out).mono ?_; rintro e y4 ⟨rfl, hk⟩
      clear hbxd d0 d1 d2 d3
      simp only [fltV]
      have KA := (Keeps.refl (fun _ => False) y4).alloc (.cells #[.int .i64 c, .int .i64 i] 30)
      have KB := hk.trans KA
      have HB6 := Lib.hid (HB5.out.keeps0 KB); have HT6 := Lib.hid (HT5.out.keeps0 KB); have HK6 := Lib.hid (HK5.out.trans KB); have HT54 := Lib.hid (HT53.out.keeps0 KB); have HB54 := Lib.hid (HB53.out.keeps0 KB); have F13 := Lib.hid (KB.heap F12.out (fun h => h)); have F22 := Lib.hid (KB.heap F21.out (fun h => h)); have F31 := Lib.hid (KB.heap F3.out (fun h => h))
      clear HB5 HT5 HK5 HT53 HB53 F12 F21 F3
      have F4 := Lib.hid (heap_alloc_new y4 (.cells #[.int .i64 c, .int .i64 i] 30))
      clear hk KA KB
      go_upto_region 10 with fail
      generalize y4.alloc (.cells #[.int .i64 c, .int .i64 i] 30) = z4 at HB6 HT6 HK6 HT54 HB54 F13 F22 F31 F4 ⊢
      generalize y4.heap.size = b4 at F4 ⊢
      have hbxd := HB6.out.lt
      obtain ⟨d0, d1, d2, d3⟩ := HB6.out
      go_wp2_with fail
      refine (spsteps_bad HT6.out HC.out HE.out).mono ?_; rintro e y5 ⟨rfl, hk⟩
      clear hbxd d0 d1 d2 d3
      simp only [fltV]
      have KA := (Keeps.refl (fun _ => False) y5).alloc (.cells #[.int .i64 c, .int .i64 i] 30)
      have KB := hk.trans KA
      have HB7 := Lib.hid (HB6.out.keeps0 KB); have HT7 := Lib.hid (HT6.out.keeps0 KB); have HK7 := Lib.hid (HK6.out.trans KB); have HT55 := Lib.hid (HT54.out.keeps0 KB); have HB55 := Lib.hid (HB54.out.keeps0 KB); have F14 := Lib.hid (KB.heap F13.out (fun h => h)); have F23 := Lib.hid (KB.heap F22.out (fun h => h)); have F32 := Lib.hid (KB.heap F31.out (fun h => h)); have F41 := Lib.hid (KB.heap F4.out (fun h => h))
      clear HB6 HT6 HK6 HT54 HB54 F13 F22 F31 F4
      have F5 := Lib.hid (heap_alloc_new y5 (.cells #[.int .i64 c, .int .i64 i] 30))
      clear hk KA KB
      go_upto_region 11 with fail
      generalize y5.alloc (.cells #[.int .i64 c, .int .i64 i] 30) = z5 at HB7 HT7 HK7 HT55 HB55 F14 F23 F32 F41 F5 ⊢
      generalize y5.heap.size = b5 at F5 ⊢
      have hbxd := HB55.out.lt
      obtain ⟨d0, d1, d2, d3⟩ := HB55.out
      go_wp2_with fail
      refine (spsteps_bad HT55.out HC.out HE'.out).mono ?_; rintro e y6 ⟨rfl, hk⟩
      clear hbxd d0 d1 d2 d3
      simp only [fltV]
      have KA := (Keeps.refl (fun _ => False) y6).alloc (.cells #[.int .i64 c, .int .i64 i] 30)
      have KB := hk.trans KA
      have HB8 := Lib.hid (HB7.out.keeps0 KB); have HT8 := Lib.hid (HT7.out.keeps0 KB); have HK8 := Lib.hid (HK7.out.trans KB); have HT56 := Lib.hid (HT55.out.keeps0 KB); have HB56 := Lib.hid (HB55.out.keeps0 KB); have F15 := Lib.hid (KB.heap F14.out (fun h => h)); have F24 := Lib.hid (KB.heap F23.out (fun h => h)); have F33 := Lib.hid (KB.heap F32.out (fun h => h)); have F42 := Lib.hid (KB.heap F41.out (fun h => h)); have F51 := Lib.hid (KB.heap F5.out (fun h => h))
      clear HB7 HT7 HK7 HT55 HB55 F14 F23 F32 F41 F5
      have F6 := Lib.hid (heap_alloc_new y6 (.cells #[.int .i64 c, .int .i64 i] 30))
      clear hk KA KB
      go_upto_region 12 with fail
      generalize y6.alloc (.cells #[.int .i64 c, .int .i64 i] 30) = z6 at HB8 HT8 HK8 HT56 HB56 F15 F24 F33 F42 F51 F6 ⊢
      generalize y6.heap.size = b6 at F6 ⊢
      obtain ⟨p1, q1, r1, s1, l1⟩ := pair_cells F15.out
      clear r1 s1
      obtain ⟨p2, q2, r2, s2, l2⟩ := pair_cells F24.out
      clear r2 s2
      obtain ⟨p3, q3, r3, s3, l3⟩ := pair_cells F33.out
      clear r3 s3
      obtain ⟨p4, q4, r4, s4, l4⟩ := pair_cells F42.out
      clear r4 s4
      obtain ⟨p5, q5, r5, s5, l5⟩ := pair_cells F51.out
      clear r5 s5
      obtain ⟨p6, q6, r6, s6, l6⟩ := pair_cells F6.out
      clear r6 s6
      go_wp2_with fail
      go_ret
      exact ⟨rfl, HK8.out⟩
    ·
      have HX := Lib.hid hx; have PM := Lib.hid hperm; have HD := Lib.hid hd
      have WS := Lib.hid (show WsOf t l ws from ⟨hperm, hsort⟩); have HX' := Lib.hid ((explored_scaled t k).trans hx)
      clear hx hperm hd hsort
      clear hbxd d0 d1 d2 d3
      simp only [fltV]
      have KA := (Keeps.refl (fun _ => False) y1).alloc (.cells #[.int .i64 0, .int .i64 0] 30)
      have KB := hk.trans KA
      have HB3 := Lib.hid (HB2.out.keeps0 KB); have HT3 := Lib.hid (HT2.out.keeps0 KB); have HK3 := Lib.hid (HK2.out.trans KB); have HT51 := Lib.hid (HT5.out.keeps0 KB); have HB51 := Lib.hid (HB5.out.keeps0 KB)
      clear HB2 HT2 HK2 HT5 HB5
      have F1 := Lib.hid (heap_alloc_new y1 (.cells #[.int .i64 0, .int .i64 0] 30))
      clear hk KA KB
      go_upto_region 7 with fail
      generalize y1.alloc (.cells #[.int .i64 0, .int .i64 0] 30) = z1 at HB3 HT3 HK3 HT51 HB51 F1 ⊢
      generalize y1.heap.size = b1 at F1 ⊢
      have hbxd := HB51.out.lt
      obtain ⟨d0, d1, d2, d3⟩ := HB51.out
      go_wp2_with fail
      refine (optimal_good HT51.out OK'.out HX'.out (show WsOf (t.scaled k) l ws from WS.out)).mono ?_; rintro e y2 ⟨D', rfl, hd', hk⟩
      have HD' := Lib.hid hd'
      clear hd'
      clear hbxd d0 d1 d2 d3
      simp only [fltV]
      have KA := (Keeps.refl (fun _ => False) y2).alloc (.cells #[.int .i64 0, .int .i64 0] 30)
      have KB := hk.trans KA
      have HB4 := Lib.hid (HB3.out.keeps0 KB); have HT4 := Lib.hid (HT3.out.keeps0 KB); have HK4 := Lib.hid (HK3.out.trans KB); have HT52 := Lib.hid (HT51.out.keeps0 KB); have HB52 := Lib.hid (HB51.out.keeps0 KB); have F11 := Lib.hid (KB.heap F1.out (fun h => h))
      clear HB3 HT3 HK3 HT51 HB51 F1
      have F2 := Lib.hid (heap_alloc_new y2 (.cells #[.int .i64 0, .int .i64 0] 30))
      clear hk KA KB
      go_upto_region 8 with fail
      generalize y2.alloc (.cells #[.int .i64 0, .int .i64 0] 30) = z2 at HB4 HT4 HK4 HT52 HB52 F11 F2 ⊢
      generalize y2.heap.size = b2 at F2 ⊢
      have hbxd := HB4.out.lt
      obtain ⟨d0, d1, d2, d3⟩ := HB4.out
      go_wp2_with fail
      refine (explore_good HT4.out OK.out HX.out).mono ?_; rintro e y3 ⟨ws1, v3, hw, rfl, hv3, hk⟩
      obtain rfl : ws = ws1 := WsOf.same OK.out HX.out WS.out hw
      clear hw
      clear hbxd d0 d1 d2 d3
      simp only [fltV]
      have KA := (Keeps.refl (fun _ => False) y3).alloc (.cells #[.int .i64 0, .int .i64 0] 30)
      have KB := hk.trans KA
      have HB5 := Lib.hid (HB4.out.keeps0 KB); have HT5 := Lib.hid (HT4.out.keeps0 KB); have HK5 := Lib.hid (HK4.out.trans KB); have HT53 := Lib.hid (HT52.out.keeps0 KB); have HB53 := Lib.hid (HB52.out.keeps0 KB); have F12 := Lib.hid (KB.heap F11.out (fun h => h)); have F21 := Lib.hid (KB.heap F2.out (fun h => h))
      clear HB4 HT4 HK4 HT52 HB52 F11 F2
      have F3 := Lib.hid (heap_alloc_new y3 (.cells #[.int .i64 0, .int .i64 0] 30))
      have HV3 := Lib.hid (show Lists _ v3 (ws.map facts) from hv3.keeps0 KA)
      clear hk KA KB
      go_upto_region 9 with fail
      generalize y3.alloc (.cells #[.int .i64 0, .int .i64 0] 30) = z3 at HB5 HT5 HK5 HT53 HB53 F12 F21 F3 HV3 ⊢
      generalize y3.heap.size = b3 at F3 ⊢
      clear hv3
      have hbxd := HB53.out.lt
      obtain ⟨d0, d1, d2, d3⟩ := HB53.out
      go_wp2_with fail
      refine (explore_good HT53.out OK'.out HX'.out).mono ?_; rintro e y4 ⟨ws1, v4, hw, rfl, hv4, hk⟩
      obtain rfl : ws = ws1 := WsOf.same OK'.out HX'.out (show WsOf (t.scaled k) l ws from WS.out) hw
      clear hw
      clear hbxd d0 d1 d2 d3
      simp only [fltV]
      have KA := (Keeps.refl (fun _ => False) y4).alloc (.cells #[.int .i64 0, .int .i64 0] 30)
      have KB := hk.trans KA
      have HB6 := Lib.hid (HB5.out.keeps0 KB); have HT6 := Lib.hid (HT5.out.keeps0 KB); have HK6 := Lib.hid (HK5.out.trans KB); have HT54 := Lib.hid (HT53.out.keeps0 KB); have HB54 := Lib.hid (HB53.out.keeps0 KB); have F13 := Lib.hid (KB.heap F12.out (fun h => h)); have F22 := Lib.hid (KB.heap F21.out (fun h => h)); have F31 := Lib.hid (KB.heap F3.out (fun h => h)); have HV31 := Lib.hid (show Lists _ v3 (ws.map facts) from HV3.out.keeps0 KB)
      clear HB5 HT5 HK5 HT53 HB53 F12 F21 F3 HV3
      have F4 := Lib.hid (heap_alloc_new y4 (.cells #[.int .i64 0, .int .i64 0] 30))
      have HV4 := Lib.hid (show Lists _ v4 (ws.map facts) from hv4.keeps0 KA)
      clear hk KA KB
      go_upto_region 10 with fail
      generalize y4.alloc (.cells #[.int .i64 0, .int .i64 0] 30) = z4 at HB6 HT6 HK6 HT54 HB54 F13 F22 F31 HV31 F4 HV4 ⊢
      generalize y4.heap.size = b4 at F4 ⊢
      clear hv4
      have hbxd := HB6.out.lt
      obtain ⟨d0, d1, d2, d3⟩ := HB6.out
      go_wp2_with fail
      refine (spsteps_good HT6.out OK.out HX.out WS.out).mono ?_; rintro e y5 ⟨v5, i5, rfl, hi5, hv5, hk⟩
      clear hbxd d0 d1 d2 d3
      simp only [fltV]
      have KA := (Keeps.refl (fun _ => False) y5).alloc (.cells #[.int .i64 0, .int .i64 0] 30)
      have KB := hk.trans KA
      have HB7 := Lib.hid (HB6.out.keeps0 KB); have HT7 := Lib.hid (HT6.out.keeps0 KB); have HK7 := Lib.hid (HK6.out.trans KB); have HT55 := Lib.hid (HT54.out.keeps0 KB); have HB55 := Lib.hid (HB54.out.keeps0 KB); have F14 := Lib.hid (KB.heap F13.out (fun h => h)); have F23 := Lib.hid (KB.heap F22.out (fun h => h)); have F32 := Lib.hid (KB.heap F31.out (fun h => h)); have HV32 := Lib.hid (show Lists _ v3 (ws.map facts) from HV31.out.keeps0 KB); have F41 := Lib.hid (KB.heap F4.out (fun h => h)); have HV41 := Lib.hid (show Lists _ v4 (ws.map facts) from HV4.out.keeps0 KB)
      clear HB6 HT6 HK6 HT54 HB54 F13 F22 F31 HV31 F4 HV4
      have F5 := Lib.hid (heap_alloc_new y5 (.cells #[.int .i64 0, .int .i64 0] 30))
      have HV5 := Lib.hid (show Ints _ v5 (ws.map (depT (tree (wordsOf t.ops) (wd t.init) i5))) from hv5.keeps0 KA)
      clear hk KA KB
      go_upto_region 11 with fail
      generalize y5.alloc (.cells #[.int .i64 0, .int .i64 0] 30) = z5 at HB7 HT7 HK7 HT55 HB55 F14 F23 F32 HV32 F41 HV41 F5 HV5 ⊢
      generalize y5.heap.size = b5 at F5 ⊢
      clear hv5
      have hbxd := HB55.out.lt
      obtain ⟨d0, d1, d2, d3⟩ := HB55.out
      go_wp2_with fail
      refine (spsteps_good HT55.out OK'.out HX'.out (show WsOf (t.scaled k) l ws from WS.out)).mono ?_; rintro e y6 ⟨v6, i6, rfl, hi6, hv6, hk⟩
      rw [deps_scaled hi5 hi6] at hv6
      clear hbxd d0 d1 d2 d3
      simp only [fltV]
      have KA := (Keeps.refl (fun _ => False) y6).alloc (.cells #[.int .i64 0, .int .i64 0] 30)
      have KB := hk.trans KA
      have HB8 := Lib.hid (HB7.out.keeps0 KB); have HT8 := Lib.hid (HT7.out.keeps0 KB); have HK8 := Lib.hid (HK7.out.trans KB); have HT56 := Lib.hid (HT55.out.keeps0 KB); have HB56 := Lib.hid (HB55.out.keeps0 KB); have F15 := Lib.hid (KB.heap F14.out (fun h => h)); have F24 := Lib.hid (KB.heap F23.out (fun h => h)); have F33 := Lib.hid (KB.heap F32.out (fun h => h)); have HV33 := Lib.hid (show Lists _ v3 (ws.map facts) from HV32.out.keeps0 KB); have F42 := Lib.hid (KB.heap F41.out (fun h => h)); have HV42 := Lib.hid (show Lists _ v4 (ws.map facts) from HV41.out.keeps0 KB); have F51 := Lib.hid (KB.heap F5.out (fun h => h)); have HV51 := Lib.hid (show Ints _ v5 (ws.map (depT (tree (wordsOf t.ops) (wd t.init) i5))) from HV5.out.keeps0 KB)
      clear HB7 HT7 HK7 HT55 HB55 F14 F23 F32 HV32 F41 HV41 F5 HV5
      have F6 := Lib.hid (heap_alloc_new y6 (.cells #[.int .i64 0, .int .i64 0] 30))
      have HV6 := Lib.hid (show Ints _ v6 (ws.map (depT (tree (wordsOf t.ops) (wd t.init) i5))) from hv6.keeps0 KA)
      clear hk KA KB
      go_upto_region 12 with fail
      generalize y6.alloc (.cells #[.int .i64 0, .int .i64 0] 30) = z6 at HB8 HT8 HK8 HT56 HB56 F15 F24 F33 HV33 F42 HV42 F51 HV51 F6 HV6 ⊢
      generalize y6.heap.size = b6 at F6 ⊢
      clear hv6 hi5 hi6
      obtain ⟨p1, q1, r1, s1, l1⟩ := pair_cells F15.out
      clear r1 s1
      obtain ⟨p2, q2, r2, s2, l2⟩ := pair_cells F24.out
      clear r2 s2
      obtain ⟨p3, q3, r3, s3, l3⟩ := pair_cells F33.out
      clear r3 s3
      obtain ⟨p4, q4, r4, s4, l4⟩ := pair_cells F42.out
      clear r4 s4
      obtain ⟨p5, q5, r5, s5, l5⟩ := pair_cells F51.out
      clear r5 s5
      obtain ⟨p6, q6, r6, s6, l6⟩ := pair_cells F6.out
      clear r6 s6
      obtain ⟨e1, e2, e3⟩ := costs_scaled OK.out K01.out.1 K01.out.2 HX.out PM.out HD.out (show CostOk (arcs (wordsOf (t.scaled k).ops) ws) (ws.map (goalB (wd t.goal))) (ws.map D') from HD'.out)
      have e1 : D' (wd (t.scaled k).init) = costS k (D (wd t.init)) := e1
      generalize D (wd t.init) = d0 at e1 e2 e3 ⊢
      generalize D' (wd (t.scaled k).init) = d1 at e1 ⊢
      subst e1
      have HE2 := Lib.hid e2
      have hbig : bigC = 1000000000 := rfl
      rcases e3 with e3 | e3
      ·
        subst e3
        have hz : costS k bigC = 1000000000 := by unfold costS; rw [if_pos rfl, hbig]
        rw [hz, hbig]
        clear e2 hz hbig
        go_wp2_with fail
        refine (lists_any _ _ _ _ _ HV33.out HV42.out).mono ?_; rintro e y7 ⟨rfl, hk⟩
        rw [show (ws.map facts == ws.map facts) = true by simp]
        clear p1 q1 l1
        clear p2 q2 l2
        clear p3 q3 l3
        clear p4 q4 l4
        clear p5 q5 l5
        clear p6 q6 l6
        have HB9 := Lib.hid (HB8.out.keeps0 hk); have HT9 := Lib.hid (HT8.out.keeps0 hk); have HK9 := Lib.hid (HK8.out.trans hk); have HT57 := Lib.hid (HT56.out.keeps0 hk); have HB57 := Lib.hid (HB56.out.keeps0 hk); have F16 := Lib.hid (hk.heap F15.out (fun h => h)); have F25 := Lib.hid (hk.heap F24.out (fun h => h)); have F34 := Lib.hid (hk.heap F33.out (fun h => h)); have HV34 := Lib.hid (show Lists _ v3 (ws.map facts) from HV33.out.keeps0 hk); have F43 := Lib.hid (hk.heap F42.out (fun h => h)); have HV43 := Lib.hid (show Lists _ v4 (ws.map facts) from HV42.out.keeps0 hk); have F52 := Lib.hid (hk.heap F51.out (fun h => h)); have HV52 := Lib.hid (show Ints _ v5 (ws.map (depT (tree (wordsOf t.ops) (wd t.init) i5))) from HV51.out.keeps0 hk); have F61 := Lib.hid (hk.heap F6.out (fun h => h)); have HV61 := Lib.hid (show Ints _ v6 (ws.map (depT (tree (wordsOf t.ops) (wd t.init) i5))) from HV6.out.keeps0 hk)
        clear HB8 HT8 HK8 HT56 HB56 F15 F24 F33 HV33 F42 HV42 F51 HV51 F6 HV6
        clear hk
        obtain ⟨p1, q1, r1, s1, l1⟩ := pair_cells F16.out
        clear r1 s1
        obtain ⟨p2, q2, r2, s2, l2⟩ := pair_cells F25.out
        clear r2 s2
        obtain ⟨p3, q3, r3, s3, l3⟩ := pair_cells F34.out
        clear r3 s3
        obtain ⟨p4, q4, r4, s4, l4⟩ := pair_cells F43.out
        clear r4 s4
        obtain ⟨p5, q5, r5, s5, l5⟩ := pair_cells F52.out
        clear r5 s5
        obtain ⟨p6, q6, r6, s6, l6⟩ := pair_cells F61.out
        clear r6 s6
        go_wp2_with fail
        refine (ints_any _ _ _ _ _ HV52.out HV61.out).mono ?_; rintro e y8 ⟨rfl, hk⟩
        rw [show (ws.map (depT (tree (wordsOf t.ops) (wd t.init) i5)) == ws.map (depT (tree (wordsOf t.ops) (wd t.init) i5))) = true by simp]
        have HB10 := Lib.hid (HB9.out.keeps0 hk); have HT10 := Lib.hid (HT9.out.keeps0 hk); have HK10 := Lib.hid (HK9.out.trans hk); have HT58 := Lib.hid (HT57.out.keeps0 hk); have HB58 := Lib.hid (HB57.out.keeps0 hk); have F17 := Lib.hid (hk.heap F16.out (fun h => h)); have F26 := Lib.hid (hk.heap F25.out (fun h => h)); have F35 := Lib.hid (hk.heap F34.out (fun h => h)); have HV35 := Lib.hid (show Lists _ v3 (ws.map facts) from HV34.out.keeps0 hk); have F44 := Lib.hid (hk.heap F43.out (fun h => h)); have HV44 := Lib.hid (show Lists _ v4 (ws.map facts) from HV43.out.keeps0 hk); have F53 := Lib.hid (hk.heap F52.out (fun h => h)); have HV53 := Lib.hid (show Ints _ v5 (ws.map (depT (tree (wordsOf t.ops) (wd t.init) i5))) from HV52.out.keeps0 hk); have F62 := Lib.hid (hk.heap F61.out (fun h => h)); have HV62 := Lib.hid (show Ints _ v6 (ws.map (depT (tree (wordsOf t.ops) (wd t.init) i5))) from HV61.out.keeps0 hk)
        clear HB9 HT9 HK9 HT57 HB57 F16 F25 F34 HV34 F43 HV43 F52 HV52 F61 HV61
        clear hk
        go_wp2_with fail
        go_ret
        exact ⟨rfl, HK10.out⟩
      ·
        rw [costS_fin (show d0 < bigC by omega)]
        have hp0 : 0 ≤ d0 * k := Int.mul_nonneg e2 K01.out.1
        have hp1 : d0 * k ≤ 20000000 := Int.le_trans (Int.mul_le_mul_of_nonneg_left K01.out.2 e2) (by omega)
        have hq1 : (d0 == 1000000000) = false := by simp; omega
        have hq2 : decide (d0 < 1000000000) = true := by simp; omega
        clear hbig
        go_wp2_with fail
        refine (lists_any _ _ _ _ _ HV33.out HV42.out).mono ?_; rintro e y7 ⟨rfl, hk⟩
        rw [show (ws.map facts == ws.map facts) = true by simp]
        clear p1 q1 l1
        clear p2 q2 l2
        clear p3 q3 l3
        clear p4 q4 l4
        clear p5 q5 l5
        clear p6 q6 l6
        have HB9 := Lib.hid (HB8.out.keeps0 hk); have HT9 := Lib.hid (HT8.out.keeps0 hk); have HK9 := Lib.hid (HK8.out.trans hk); have HT57 := Lib.hid (HT56.out.keeps0 hk); have HB57 := Lib.hid (HB56.out.keeps0 hk); have F16 := Lib.hid (hk.heap F15.out (fun h => h)); have F25 := Lib.hid (hk.heap F24.out (fun h => h)); have F34 := Lib.hid (hk.heap F33.out (fun h => h)); have HV34 := Lib.hid (show Lists _ v3 (ws.map facts) from HV33.out.keeps0 hk); have F43 := Lib.hid (hk.heap F42.out (fun h => h)); have HV43 := Lib.hid (show Lists _ v4 (ws.map facts) from HV42.out.keeps0 hk); have F52 := Lib.hid (hk.heap F51.out (fun h => h)); have HV52 := Lib.hid (show Ints _ v5 (ws.map (depT (tree (wordsOf t.ops) (wd t.init) i5))) from HV51.out.keeps0 hk); have F61 := Lib.hid (hk.heap F6.out (fun h => h)); have HV61 := Lib.hid (show Ints _ v6 (ws.map (depT (tree (wordsOf t.ops) (wd t.init) i5))) from HV6.out.keeps0 hk)
        clear HB8 HT8 HK8 HT56 HB56 F15 F24 F33 HV33 F42 HV42 F51 HV51 F6 HV6
        clear hk
        obtain ⟨p1, q1, r1, s1, l1⟩ := pair_cells F16.out
        clear r1 s1
        obtain ⟨p2, q2, r2, s2, l2⟩ := pair_cells F25.out
        clear r2 s2
        obtain ⟨p3, q3, r3, s3, l3⟩ := pair_cells F34.out
        clear r3 s3
        obtain ⟨p4, q4, r4, s4, l4⟩ := pair_cells F43.out
        clear r4 s4
        obtain ⟨p5, q5, r5, s5, l5⟩ := pair_cells F52.out
        clear r5 s5
        obtain ⟨p6, q6, r6, s6, l6⟩ := pair_cells F61.out
        clear r6 s6
        go_wp2_with fail
        refine (ints_any _ _ _ _ _ HV52.out HV61.out).mono ?_; rintro e y8 ⟨rfl, hk⟩
        rw [show (ws.map (depT (tree (wordsOf t.ops) (wd t.init) i5)) == ws.map (depT (tree (wordsOf t.ops) (wd t.init) i5))) = true by simp]
        have HB10 := Lib.hid (HB9.out.keeps0 hk); have HT10 := Lib.hid (HT9.out.keeps0 hk); have HK10 := Lib.hid (HK9.out.trans hk); have HT58 := Lib.hid (HT57.out.keeps0 hk); have HB58 := Lib.hid (HB57.out.keeps0 hk); have F17 := Lib.hid (hk.heap F16.out (fun h => h)); have F26 := Lib.hid (hk.heap F25.out (fun h => h)); have F35 := Lib.hid (hk.heap F34.out (fun h => h)); have HV35 := Lib.hid (show Lists _ v3 (ws.map facts) from HV34.out.keeps0 hk); have F44 := Lib.hid (hk.heap F43.out (fun h => h)); have HV44 := Lib.hid (show Lists _ v4 (ws.map facts) from HV43.out.keeps0 hk); have F53 := Lib.hid (hk.heap F52.out (fun h => h)); have HV53 := Lib.hid (show Ints _ v5 (ws.map (depT (tree (wordsOf t.ops) (wd t.init) i5))) from HV52.out.keeps0 hk); have F62 := Lib.hid (hk.heap F61.out (fun h => h)); have HV62 := Lib.hid (show Ints _ v6 (ws.map (depT (tree (wordsOf t.ops) (wd t.init) i5))) from HV61.out.keeps0 hk)
        clear HB9 HT9 HK9 HT57 HB57 F16 F25 F34 HV34 F43 HV43 F52 HV52 F61 HV61
        clear hk
        go_wp2_with fail
        go_ret
        exact ⟨rfl, HK10.out⟩

end Go.Proofs.Ytdonadeodioplaa
