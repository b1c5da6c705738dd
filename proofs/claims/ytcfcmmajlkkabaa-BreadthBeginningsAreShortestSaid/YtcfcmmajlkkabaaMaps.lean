/- Maps with integer keys: the block reads as a list of pairs; look-up, store, delete, at the run and at the operation. Nothing here speaks of one program. -/
import Derived.Test.YtcfcmmajlkkabaaBase
import Derived.Maps.OwnOps
import Derived.Maps.OwnSet
namespace Go.Proofs.Ytcfcmmajlkkabaa
open Go.RowKit

/-- Block b is a map with the keys and values of l, in the order of l. -/
def IMap (w : World) (b : Nat) (kd : IntKind) (l : List (Int × Value)) : Prop :=
  ∃ es clock, w.heap[b]? = some (.map es clock) ∧ es.toList.map (fun e => (e.key, e.val)) = l.map (fun p => (Value.int kd p.1, p.2))

theorem IMap.keeps {S : Nat → Prop} {w w' : World} {b : Nat} {kd : IntKind} {l : List (Int × Value)} (h : IMap w b kd l) (hk : Keeps S w w') (hs : ¬ S b) : IMap w' b kd l := by
  obtain ⟨es, c, hb, he⟩ := h
  exact ⟨es, c, hk.heap hb hs, he⟩
theorem IMap.lt {w : World} {b : Nat} {kd : IntKind} {l : List (Int × Value)} (h : IMap w b kd l) : b < w.heap.size := by
  obtain ⟨es, c, hb, he⟩ := h; exact lt_of_heap hb
theorem IMap.alloc {w : World} {b : Nat} {kd : IntKind} {l : List (Int × Value)} (h : IMap w b kd l) (o : Obj) : IMap (w.alloc o) b kd l := h.keeps ((Keeps.refl (fun _ => False) w).alloc o) (fun h => h)
theorem IMap.drewN {w : World} {b : Nat} {kd : IntKind} {l : List (Int × Value)} (h : IMap w b kd l) (n : Nat) : IMap (w.drewN n) b kd l := h
theorem IMap.made (w : World) (kd : IntKind) : IMap (w.alloc (.map #[] 0)) w.heap.size kd [] := ⟨#[], 0, MapKept.heap_alloc w _ |>.1, by simp⟩

theorem findNow_none {kd : IntKind} {x : Int} : ∀ {es : List MapEntry} {l : List (Int × Value)} (i : Nat), es.map (fun e => (e.key, e.val)) = l.map (fun p => (Value.int kd p.1, p.2)) → (∀ p ∈ l, p.1 ≠ x) →
    Instr.findNow (.int kd) (.int kd x) es i = some none
  | [], _, _, _, _ => rfl
  | e :: es, [], _, h, _ => by simp at h
  | e :: es, p :: l, i, h, hx => by
    simp only [List.map_cons, List.cons.injEq, Prod.mk.injEq] at h
    obtain ⟨⟨h1, h2⟩, h3⟩ := h
    have hp : p.1 ≠ x := hx p (by simp)
    have : Instr.sameNow (.int kd) (.int kd x) e.key = some false := by rw [h1]; simp [Instr.sameNow]; omega
    simp only [Instr.findNow, this]
    exact findNow_none (i + 1) h3 (fun q hq => hx q (by simp [hq]))

theorem findNow_some {kd : IntKind} {x : Int} {v : Value} : ∀ {es : List MapEntry} {l : List (Int × Value)} (i j : Nat), es.map (fun e => (e.key, e.val)) = l.map (fun p => (Value.int kd p.1, p.2)) → l[j]? = some (x, v) → (∀ k p, k < j → l[k]? = some p → p.1 ≠ x) →
    Instr.findNow (.int kd) (.int kd x) es i = some (some (i + j, v))
  | [], l, _, _, h, hj, _ => by
    have : l = [] := by simpa using h.symm
    subst this; simp at hj
  | e :: es, [], _, _, h, _, _ => by simp at h
  | e :: es, p :: l, i, 0, h, hj, _ => by
    simp only [List.map_cons, List.cons.injEq, Prod.mk.injEq] at h
    obtain ⟨⟨h1, h2⟩, h3⟩ := h
    simp at hj
    subst hj
    have : Instr.sameNow (.int kd) (.int kd x) e.key = some true := by rw [h1]; simp [Instr.sameNow]
    simp only [Instr.findNow, this, h2]; rfl
  | e :: es, p :: l, i, j + 1, h, hj, hx => by
    simp only [List.map_cons, List.cons.injEq, Prod.mk.injEq] at h
    obtain ⟨⟨h1, h2⟩, h3⟩ := h
    have hp : p.1 ≠ x := hx 0 p (by omega) rfl
    have : Instr.sameNow (.int kd) (.int kd x) e.key = some false := by rw [h1]; simp [Instr.sameNow]; omega
    simp only [Instr.findNow, this]
    rw [findNow_some (i + 1) j h3 (by simpa using hj) (fun k q hk hq => hx (k + 1) q (by omega) (by simpa using hq))]
    rw [show i + 1 + j = i + (j + 1) by omega]

theorem firstOf {l : List (Int × Value)} (hn : (l.map Prod.fst).Nodup) {j : Nat} {x : Int} {v : Value} (hj : l[j]? = some (x, v)) : ∀ k p, k < j → l[k]? = some p → p.1 ≠ x := by
  intro k p hk hp e
  have h1 : (l.map Prod.fst)[k]? = some x := by rw [List.getElem?_map, hp]; simp [e]
  have h2 : (l.map Prod.fst)[j]? = some x := by rw [List.getElem?_map, hj]; rfl
  have lj : j < (l.map Prod.fst).length := (List.getElem?_eq_some_iff.1 h2).1
  have := (List.getElem?_inj (by omega) hn).1 (h1.trans h2.symm)
  omega

section
variable {P : Program} {w : World} {b : Nat} {kd : IntKind} {l : List (Int × Value)} {t k e : TypeId}

theorem run_checkKey_int' (hk : P.underlying k = some (.int kd)) (em : Bool) (n : Nat) (x : Int) (w : World) : (Instr.checkKey em (n + 1) k (.int kd x)).run P w = .ok () w := by
  simp [Instr.checkKey, run_underlying hk]
theorem run_checkKey_int (hk : P.underlying k = some (.int kd)) (em : Bool) (x : Int) (w : World) : (Instr.checkKey em 10000 k (.int kd x)).run P w = .ok () w := run_checkKey_int' hk em 9999 x w

theorem run_findKey_none (hk : P.underlying k = some (.int kd)) {es : List MapEntry} (h : es.map (fun e => (e.key, e.val)) = l.map (fun p => (Value.int kd p.1, p.2))) {x : Int} (hx : ∀ p ∈ l, p.1 ≠ x) :
    (Instr.findKey k (.int kd x) es).run P w = .ok none w := by
  simp [Instr.findKey, run_underlying hk, findNow_none 0 h hx]

theorem run_findKey_some (hk : P.underlying k = some (.int kd)) (hn : (l.map Prod.fst).Nodup) {es : List MapEntry} (h : es.map (fun e => (e.key, e.val)) = l.map (fun p => (Value.int kd p.1, p.2))) {x : Int} {v : Value} {j : Nat} (hj : l[j]? = some (x, v)) :
    (Instr.findKey k (.int kd x) es).run P w = .ok (some (j, v)) w := by
  simp [Instr.findKey, run_underlying hk, findNow_some 0 j h hj (firstOf hn hj)]

theorem IMap.run_lookup_hit (h : IMap w b kd l) (ht : P.underlying t = some (.map k e)) (hk : P.underlying k = some (.int kd)) (hn : (l.map Prod.fst).Nodup) {x : Int} {v : Value} (hx : (x, v) ∈ l) :
    (Instr.lookup t (.map (some b)) (.int kd x) true).run P w = .ok (.tuple #[v, .bool true]) w ∧ (Instr.lookup t (.map (some b)) (.int kd x) false).run P w = .ok v w := by
  obtain ⟨es, c, hb, he⟩ := h
  obtain ⟨j, hj⟩ := List.mem_iff_getElem?.1 hx
  have hf := run_findKey_some (P := P) (w := w) hk hn he hj
  constructor <;> simp [Instr.lookup, run_underlying ht, MapKept.run_getObj_map hb, run_checkKey_int hk, hf, Result.andThen]

theorem IMap.run_lookup_miss (h : IMap w b kd l) (ht : P.underlying t = some (.map k e)) (hk : P.underlying k = some (.int kd)) {z : Value} (hz : (zeroValue e).run P w = .ok z w) {x : Int} (hx : ∀ p ∈ l, p.1 ≠ x) :
    (Instr.lookup t (.map (some b)) (.int kd x) true).run P w = .ok (.tuple #[z, .bool false]) w ∧ (Instr.lookup t (.map (some b)) (.int kd x) false).run P w = .ok z w := by
  obtain ⟨es, c, hb, he⟩ := h
  have hf := run_findKey_none (P := P) (w := w) hk he hx
  constructor <;> simp [Instr.lookup, run_underlying ht, MapKept.run_getObj_map hb, run_checkKey_int hk, hf, hz, Result.andThen]

/-- The list behind a store. -/
def iput (l : List (Int × Value)) (x : Int) (v : Value) : List (Int × Value) :=
  if l.any (fun p => p.1 == x) then l.map (fun p => if p.1 == x then (x, v) else p) else l ++ [(x, v)]

theorem iput_new {x : Int} {v : Value} (hx : ∀ p ∈ l, p.1 ≠ x) : iput l x v = l ++ [(x, v)] := by
  unfold iput
  rw [if_neg]
  simp only [List.any_eq_true, beq_iff_eq, not_exists, not_and]
  intro p hp; exact hx p hp

theorem keeps_setObj (w : World) (b : Nat) (o : Obj) : Keeps (fun k => k = b) w { w with heap := w.heap.setIfInBounds b o } :=
  ⟨rfl, rfl, rfl, by simp, fun k _ hk => by simp only [Array.getElem?_setIfInBounds]; rw [if_neg (fun e => hk e.symm)]⟩

theorem heap_setObj {w : World} {b : Nat} {o o' : Obj} (h : w.heap[b]? = some o') : ({ w with heap := w.heap.setIfInBounds b o } : World).heap[b]? = some o := by
  have := lt_of_heap h
  simp [this]

theorem IMap.run_update_new (h : IMap w b kd l) (ht : P.underlying t = some (.map k e)) (hk : P.underlying k = some (.int kd)) {x : Int} (hx : ∀ p ∈ l, p.1 ≠ x) (v : Value) :
    ∃ w', (Instr.mapUpdate t (.map (some b)) (.int kd x) v).run P w = .ok () w' ∧ IMap w' b kd (l ++ [(x, v)]) ∧ Keeps (fun k => k = b) w w' := by
  obtain ⟨es, c, hb, he⟩ := h
  have hf := run_findKey_none (P := P) (w := w) hk he hx
  refine ⟨{ w with heap := w.heap.setIfInBounds b (.map (es.push { key := .int kd x, val := v, born := c }) (c + 1)) }, ?_, ⟨_, _, heap_setObj hb, ?_⟩, keeps_setObj _ _ _⟩
  · simp [Instr.mapUpdate, run_underlying ht, MapKept.run_getObj_map hb, run_checkKey_int hk, hf, MapKept.run_setObj_map _ hb, Result.andThen]
  · simp [he]

theorem IMap.run_update_old (h : IMap w b kd l) (ht : P.underlying t = some (.map k e)) (hk : P.underlying k = some (.int kd)) (hn : (l.map Prod.fst).Nodup) {x : Int} {u : Value} {j : Nat} (hj : l[j]? = some (x, u)) (v : Value) :
    ∃ w', (Instr.mapUpdate t (.map (some b)) (.int kd x) v).run P w = .ok () w' ∧ IMap w' b kd (l.set j (x, v)) ∧ Keeps (fun k => k = b) w w' := by
  obtain ⟨es, c, hb, he⟩ := h
  have hf := run_findKey_some (P := P) (w := w) hk hn he hj
  have lj : j < l.length := (List.getElem?_eq_some_iff.1 hj).1
  have ls : es.size = l.length := by have := congrArg List.length he; simpa using this
  have hkey : ((es[j]?).map (·.key)).getD (.int kd x) = .int kd x := by
    have : (es.toList.map (fun e => (e.key, e.val)))[j]? = some (.int kd x, u) := by rw [he, List.getElem?_map, hj]; rfl
    rw [List.getElem?_map] at this
    simp at this
    obtain ⟨a, ha, hb, hc⟩ := this
    simp [ha, hb]
  have hstay : (Instr.keyThatStays (.int kd x) (.int kd x)).run P w = .ok (.int kd x) w := by
    have : Instr.sameBits (9999 + 1) (.int kd x) (.int kd x) = true := by simp [Instr.sameBits]
    unfold Instr.keyThatStays
    rw [if_pos this]; rfl
  refine ⟨{ w with heap := w.heap.setIfInBounds b (.map (es.modify j fun e => { e with key := .int kd x, val := v }) c) }, ?_, ⟨_, _, heap_setObj hb, ?_⟩, keeps_setObj _ _ _⟩
  · simp [Instr.mapUpdate, run_underlying ht, MapKept.run_getObj_map hb, run_checkKey_int hk, hf, hkey, hstay, MapKept.run_setObj_map _ hb, Result.andThen]
  · apply List.ext_getElem?
    intro i
    have hi : (es.toList.map (fun e => (e.key, e.val)))[i]? = (l.map (fun p => (Value.int kd p.1, p.2)))[i]? := by rw [he]
    simp only [List.getElem?_map, Array.getElem?_toList] at hi ⊢
    rw [Array.getElem?_modify, List.getElem?_set]
    by_cases hij : j = i
    · subst hij
      simp [lj]
      exact ⟨_, Array.getElem?_eq_getElem (by omega)⟩
    · simp [hij]
      simpa using hi

theorem IMap.run_delete (h : IMap w b kd l) (ht : P.underlying t = some (.map k e)) (hk : P.underlying k = some (.int kd)) (hn : (l.map Prod.fst).Nodup) (ty t2 : TypeId) (x : Int) :
    ∃ w', (Builtin.delete_ #[t, t2] ty #[.map (some b), .int kd x]).run P w = .ok (.tuple #[]) w' ∧ IMap w' b kd (l.filter fun p => p.1 != x) ∧ Keeps (fun k => k = b) w w' := by
  obtain ⟨es, c, hb, he⟩ := h
  by_cases hx : ∃ v, (x, v) ∈ l
  · obtain ⟨v, hv⟩ := hx
    obtain ⟨j, hj⟩ := List.mem_iff_getElem?.1 hv
    have hf := run_findKey_some (P := P) (w := w) hk hn he hj
    have lj : j < l.length := (List.getElem?_eq_some_iff.1 hj).1
    have ls : es.size = l.length := by have := congrArg List.length he; simpa using this
    have hfl : l.filter (fun p => p.1 != x) = l.eraseIdx j := by
      have hl : l = l.take j ++ (x, v) :: l.drop (j + 1) := by
        have := List.getElem_cons_drop (as := l) (h := lj)
        rw [(List.getElem?_eq_some_iff.1 hj).2] at this
        rw [this, List.take_append_drop]
      have hne : ∀ i, i ≠ j → ∀ p, l[i]? = some p → p.1 ≠ x := by
        intro i hij p hp e
        have h1 : (l.map Prod.fst)[i]? = some x := by rw [List.getElem?_map, hp]; simp [e]
        have h2 : (l.map Prod.fst)[j]? = some x := by rw [List.getElem?_map, hj]; rfl
        have li : i < (l.map Prod.fst).length := (List.getElem?_eq_some_iff.1 h1).1
        exact hij ((List.getElem?_inj li hn).1 (h1.trans h2.symm))
      have ht1 : (l.take j).filter (fun p => p.1 != x) = l.take j := by
        rw [List.filter_eq_self]
        intro p hp
        obtain ⟨i, hi⟩ := List.mem_iff_getElem?.1 hp
        rw [List.getElem?_take] at hi
        split at hi
        · simpa using hne i (by omega) p hi
        · cases hi
      have ht2 : (l.drop (j + 1)).filter (fun p => p.1 != x) = l.drop (j + 1) := by
        rw [List.filter_eq_self]
        intro p hp
        obtain ⟨i, hi⟩ := List.mem_iff_getElem?.1 hp
        rw [List.getElem?_drop] at hi
        simpa using hne (j + 1 + i) (by omega) p hi
      conv => lhs; rw [hl]
      rw [List.filter_append, List.filter_cons, ht1, ht2, List.eraseIdx_eq_take_drop_succ]
      simp
    refine ⟨{ w with heap := w.heap.setIfInBounds b (.map (es.eraseIdxIfInBounds j) c) }, ?_, ⟨_, _, heap_setObj hb, ?_⟩, keeps_setObj _ _ _⟩
    · simp [Builtin.delete_, run_underlying ht, MapKept.run_getObj_map hb, run_checkKey_int hk, hf, MapKept.run_setObj_map _ hb, Result.andThen]
    · rw [hfl]
      have e1 : (es.eraseIdxIfInBounds j).toList = es.toList.eraseIdx j := by
        unfold Array.eraseIdxIfInBounds
        rw [dif_pos (by omega)]
        simp
      rw [e1]
      have e2 : ∀ {α β : Type} (f : α → β) (l : List α) (j : Nat), (l.eraseIdx j).map f = (l.map f).eraseIdx j := by
        intro α β f l j
        rw [List.eraseIdx_eq_take_drop_succ, List.eraseIdx_eq_take_drop_succ]
        simp
      rw [e2, e2, he]
  · have hx' : ∀ p ∈ l, p.1 ≠ x := fun p hp e => hx ⟨p.2, by rw [← e]; exact hp⟩
    have hf := run_findKey_none (P := P) (w := w) hk he hx'
    refine ⟨{ w with heap := w.heap.setIfInBounds b (.map es c) }, ?_, ⟨_, _, heap_setObj hb, ?_⟩, keeps_setObj _ _ _⟩
    · simp [Builtin.delete_, run_underlying ht, MapKept.run_getObj_map hb, run_checkKey_int hk, hf, MapKept.run_setObj_map _ hb, Result.andThen]
    · rw [he]; congr 1; symm; rw [List.filter_eq_self]; intro p hp; simpa using hx' p hp
end

/-! ### at the operation -/
section
variable {P : Program} {w : World} {ops : Array Oper} {rest : List Oper} {o : Oper} {a : Act} {Q : Exit → Act → World → Prop} {b : Nat} {kd : IntKind} {l : List (Int × Value)} {k e : TypeId}

theorem wpList_ilookup_hit (hg : o.guard = none) (m x : Operand) (t : TypeId) (ok : Bool) (hop : o.op = Op.lookup t m x ok) (ht : P.underlying t = some (.map k e)) (hk : P.underlying k = some (.int kd))
    (h : IMap w b kd l) (hn : (l.map Prod.fst).Nodup) (n : Int) (v : Value) (hm : a.eval m = .map (some b)) (hx : a.eval x = .int kd n) (hv : (n, v) ∈ l)
    (hK : wpList P ops Q rest (a.put o.dst (if ok then .tuple #[v, .bool true] else v)) w) : wpList P ops Q (o :: rest) a w := by
  refine wpList_plain hg fun K' hK' => ?_
  have hr := h.run_lookup_hit ht hk hn hv
  unfold Oper.wp
  cases ok <;> simp [execOp, hop, hm, hx, hr.1, hr.2, Result.andThen] <;> exact hK' _ _ hK

theorem wpList_ilookup_miss (hg : o.guard = none) (m x : Operand) (t : TypeId) (ok : Bool) (hop : o.op = Op.lookup t m x ok) (ht : P.underlying t = some (.map k e)) (hk : P.underlying k = some (.int kd))
    (h : IMap w b kd l) {z : Value} (hz : (zeroValue e).run P w = .ok z w) (n : Int) (hm : a.eval m = .map (some b)) (hx : a.eval x = .int kd n) (hv : ∀ p ∈ l, p.1 ≠ n)
    (hK : wpList P ops Q rest (a.put o.dst (if ok then .tuple #[z, .bool false] else z)) w) : wpList P ops Q (o :: rest) a w := by
  refine wpList_plain hg fun K' hK' => ?_
  have hr := h.run_lookup_miss ht hk hz hv
  unfold Oper.wp
  cases ok <;> simp [execOp, hop, hm, hx, hr.1, hr.2, Result.andThen] <;> exact hK' _ _ hK

theorem wpList_ilookup_ok_hit (hg : o.guard = none) (m x : Operand) (t : TypeId) (hop : o.op = Op.lookup t m x true) (ht : P.underlying t = some (.map k e)) (hk : P.underlying k = some (.int kd))
    (h : IMap w b kd l) (hn : (l.map Prod.fst).Nodup) (n : Int) (v : Value) (hm : a.eval m = .map (some b)) (hx : a.eval x = .int kd n) (hv : (n, v) ∈ l)
    (hK : wpList P ops Q rest (a.put o.dst (.tuple #[v, .bool true])) w) : wpList P ops Q (o :: rest) a w :=
  wpList_ilookup_hit hg m x t true hop ht hk h hn n v hm hx hv hK
theorem wpList_ilookup_ok_miss (hg : o.guard = none) (m x : Operand) (t : TypeId) (hop : o.op = Op.lookup t m x true) (ht : P.underlying t = some (.map k e)) (hk : P.underlying k = some (.int kd))
    (h : IMap w b kd l) {z : Value} (hz : (zeroValue e).run P w = .ok z w) (n : Int) (hm : a.eval m = .map (some b)) (hx : a.eval x = .int kd n) (hv : ∀ p ∈ l, p.1 ≠ n)
    (hK : wpList P ops Q rest (a.put o.dst (.tuple #[z, .bool false])) w) : wpList P ops Q (o :: rest) a w :=
  wpList_ilookup_miss hg m x t true hop ht hk h hz n hm hx hv hK

theorem wpList_iupdate_new (hg : o.guard = none) (m x v : Operand) (t : TypeId) (hop : o.op = Op.mapUpdate t m x v) (ht : P.underlying t = some (.map k e)) (hk : P.underlying k = some (.int kd))
    (h : IMap w b kd l) (n : Int) (u : Value) (hm : a.eval m = .map (some b)) (hx : a.eval x = .int kd n) (hu : a.eval v = u) (hv : ∀ p ∈ l, p.1 ≠ n)
    (hK : ∀ w', IMap w' b kd (l ++ [(n, u)]) → Keeps (fun k => k = b) w w' → wpList P ops Q rest (a.put o.dst undef) w') : wpList P ops Q (o :: rest) a w := by
  refine wpList_plain hg fun K' hK' => ?_
  obtain ⟨w', hrun, r1, r2⟩ := h.run_update_new ht hk hv u
  unfold Oper.wp
  simp [execOp, hop, hm, hx, hu, hrun, Result.andThen]
  exact hK' _ _ (hK w' r1 r2)

theorem wpList_iupdate_old (hg : o.guard = none) (m x v : Operand) (t : TypeId) (hop : o.op = Op.mapUpdate t m x v) (ht : P.underlying t = some (.map k e)) (hk : P.underlying k = some (.int kd))
    (h : IMap w b kd l) (hn : (l.map Prod.fst).Nodup) (n : Int) (u u0 : Value) (j : Nat) (hm : a.eval m = .map (some b)) (hx : a.eval x = .int kd n) (hu : a.eval v = u) (hj : l[j]? = some (n, u0))
    (hK : ∀ w', IMap w' b kd (l.set j (n, u)) → Keeps (fun k => k = b) w w' → wpList P ops Q rest (a.put o.dst undef) w') : wpList P ops Q (o :: rest) a w := by
  refine wpList_plain hg fun K' hK' => ?_
  obtain ⟨w', hrun, r1, r2⟩ := h.run_update_old ht hk hn hj u
  unfold Oper.wp
  simp [execOp, hop, hm, hx, hu, hrun, Result.andThen]
  exact hK' _ _ (hK w' r1 r2)

theorem wpList_idelete (hg : o.guard = none) (m x : Operand) (t t2 : TypeId) (hop : o.op = Op.call { callee := Callee.builtin Builtin.delete, args := #[m, x], argTypes := #[t, t2] }) (ht : P.underlying t = some (.map k e)) (hk : P.underlying k = some (.int kd))
    (h : IMap w b kd l) (hn : (l.map Prod.fst).Nodup) (n : Int) (hm : a.eval m = .map (some b)) (hx : a.eval x = .int kd n)
    (hK : ∀ w', IMap w' b kd (l.filter fun p => p.1 != n) → Keeps (fun k => k = b) w w' → wpList P ops Q rest (a.put o.dst (.tuple #[])) w') : wpList P ops Q (o :: rest) a w := by
  refine wpList_plain hg fun K' hK' => ?_
  obtain ⟨w', hrun, r1, r2⟩ := h.run_delete ht hk hn o.type t2 n
  unfold Oper.wp
  simp [execOp, hop, resolve, invoke, builtin, hm, hx, hrun, Result.andThen]
  exact hK' _ _ (hK w' r1 r2)
end

end Go.Proofs.Ytcfcmmajlkkabaa
