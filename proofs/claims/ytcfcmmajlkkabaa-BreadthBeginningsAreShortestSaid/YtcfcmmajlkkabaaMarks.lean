/- Loops over iterators inside other loops: the marks among the deferred calls; steadiness of what an invariant says. Nothing here speaks of one program. -/
import Derived.Test.YtcfcmmajlkkabaaMaps
import Derived.RangeFuncNested
import Derived.RangeFuncLeaves
import Derived.OwnWalkIn
namespace Go.Proofs.Ytcfcmmajlkkabaa
open Go.RowKit

def mark (D : Nat) : Deferred := { target := .collected D, args := #[] }

theorem marks_inj : ∀ {a b : List Nat}, a.map mark = b.map mark → a = b
  | [], [], _ => rfl
  | [], _ :: _, h => by cases h
  | _ :: _, [], h => by cases h
  | x :: r, y :: s, h => by
    rw [List.map_cons, List.map_cons, List.cons.injEq] at h
    have h1 : x = y := by have := h.1; unfold mark at this; simpa using this
    rw [h1, marks_inj h.2]

/-- ds: the marks of loops whose block for deferred calls is empty. -/
def Marks (ds : List Deferred) (W : World) (B : Nat) : Prop :=
  ∃ Ds : List Nat, ds = Ds.map mark ∧ Ds.Nodup ∧ ∀ D ∈ Ds, B ≤ D ∧ W.heap[D]? = some (.deferred (some []))

theorem Marks.nil (W : World) (B : Nat) : Marks [] W B := ⟨[], rfl, List.nodup_nil, fun _ h => by cases h⟩

/-- Blocks of deferred calls lie as they lay. -/
def KeepsD (W W' : World) : Prop := ∀ D : Nat, W.heap[D]? = some (Obj.deferred (some [])) → W'.heap[D]? = some (Obj.deferred (some []))
theorem KeepsD.refl (W : World) : KeepsD W W := fun _ h => h
theorem KeepsD.trans {X Y Z : World} (h : KeepsD X Y) (k : KeepsD Y Z) : KeepsD X Z := fun D hD => k D (h D hD)
theorem KeepsD.of {S : Nat → Prop} {X Y : World} (h : Keeps S X Y) (hs : ∀ b, S b → X.heap[b]? ≠ some (.deferred (some []))) : KeepsD X Y :=
  fun D hD => h.heap hD (fun hS => hs D hS hD)
theorem KeepsD.of0 {X Y : World} (h : Keeps (fun _ => False) X Y) : KeepsD X Y := .of h (fun _ h => h.elim)

theorem Marks.keeps {ds : List Deferred} {W W' : World} {B : Nat} (h : Marks ds W B) (hk : KeepsD W W') : Marks ds W' B := by
  obtain ⟨Ds, h1, h2, h3⟩ := h
  exact ⟨Ds, h1, h2, fun D hD => ⟨(h3 D hD).1, hk D (h3 D hD).2⟩⟩

theorem Marks.cons {ds : List Deferred} {W0 W : World} {B D : Nat} (h0 : Marks ds W0 B) (h : Marks ds W B) (hD : W0.heap.size ≤ D) (hB : B ≤ D) (hd : W.heap[D]? = some (.deferred (some []))) : Marks (mark D :: ds) W B := by
  obtain ⟨Ds, h1, h2, h3⟩ := h
  obtain ⟨Ds', k1, _, k3⟩ := h0
  have hinj : Ds = Ds' := by
    have he : Ds.map mark = Ds'.map mark := h1.symm.trans k1
    exact marks_inj he
  subst hinj
  refine ⟨D :: Ds, by rw [List.map_cons, h1], ?_, fun D' hD' => ?_⟩
  · rw [List.nodup_cons]
    exact ⟨fun hm => by have := lt_of_heap (k3 D hm).2; omega, h2⟩
  · rcases List.mem_cons.1 hD' with rfl | hm
    · exact ⟨hB, hd⟩
    · exact h3 D' hm

theorem Marks.steady {ds : List Deferred} {W0 W W' : World} {B : Nat} {row : Option Nat} (h0 : Marks ds W0 B) (h : Marks ds W B) (hg : W.grownBy W' row) (hr : ∀ r, row = some r → W0.heap.size ≤ r ∧ ∃ o : Obj, W.heap[r]? = some o ∧ o.isCells = false) : Marks ds W' B := by
  obtain ⟨Ds, h1, h2, h3⟩ := h
  obtain ⟨Ds', k1, _, k3⟩ := h0
  have hinj : Ds = Ds' := by
    have he : Ds.map mark = Ds'.map mark := h1.symm.trans k1
    exact marks_inj he
  subst hinj
  refine ⟨Ds, h1, h2, fun D hD => ⟨(h3 D hD).1, ?_⟩⟩
  have hlt := lt_of_heap (k3 D hD).2
  exact (hg.block D (lt_of_heap (h3 D hD).2) (fun e => by have := (hr D e.symm).1; omega)).trans (h3 D hD).2

/-- Leaving a function past its marks. -/
theorem leaves_marks {F : Fence} {n : Nat} {P : Program} {fn : Func} {tmps : Array Value} {R : Ending → World → Prop} {ds : List Deferred} {B : Nat} :
    ∀ {W : World}, Marks ds W B → (∀ W', Keeps (fun b => B ≤ b ∧ W.heap[b]? = some (.deferred (some []))) W W' → ∃ v, (results fn tmps).run P W' = .ok v W' ∧ R (.returned v) W') → LeavesInM F n P fn tmps R ds .returning W := by
  intro W hm
  obtain ⟨Ds, rfl, hn, hD⟩ := hm
  induction Ds generalizing W with
  | nil => intro h; exact h W (Keeps.refl _ _)
  | cons D Ds ih =>
    intro h
    rw [List.nodup_cons] at hn
    have hd := hD D (by simp)
    refine ⟨by simp, .inl ⟨D, _, rfl, run_takeDeferred hd.2, ?_⟩⟩
    have hk : Keeps (fun b => b = D) W (W.putObj D (.deferred none)) := ⟨rfl, rfl, rfl, by simp [World.putObj], fun k _ hk => World.putObj_heap_other hk⟩
    refine ih hn.2 (fun D' hD' => ⟨(hD D' (by simp [hD'])).1, (World.putObj_heap_other (by rintro rfl; exact hn.1 hD')).trans (hD D' (by simp [hD'])).2⟩) (fun W' hW' => h W' ?_)
    refine (hk.mono (S' := fun b => B ≤ b ∧ W.heap[b]? = some (.deferred (some []))) (fun i _ e => by subst e; exact hd)).trans (hW'.mono (fun i hi hs => ?_))
    refine ⟨hs.1, ?_⟩
    by_cases e : i = D
    · subst e; exact hd.2
    · exact (World.putObj_heap_other e).symm.trans hs.2

theorem IMap.length {w : World} {b : Nat} {kd : IntKind} {l : List (Int × Value)} (h : IMap w b kd l) : ∃ es clock, w.heap[b]? = some (.map es clock) ∧ es.size = l.length := by
  obtain ⟨es, c, hb, he⟩ := h
  exact ⟨es, c, hb, by have := congrArg List.length he; simpa using this⟩
theorem IMap.run_len {P : Program} {w : World} {b : Nat} {kd : IntKind} {l : List (Int × Value)} {t k e : TypeId} (h : IMap w b kd l) (ht : P.underlying t = some (.map k e)) (ty : TypeId) : (Builtin.len_ #[t] ty #[.map (some b)]).run P w = .ok (.int .i64 (l.length : Int)) w := by
  obtain ⟨es, c, hb, hs⟩ := h.length
  simp [Builtin.len_, run_underlying ht, MapKept.run_getObj_map hb, goInt, Result.andThen, hs]

/-! ### steadiness under the turn of blocks that are no cells -/
theorem steady_keeps {W W' : World} {row : Option Nat} (hg : W.grownBy W' row) : Keeps (fun k => row = some k) W W' := (Keeps.refl _ W).grown hg (fun _ hk => .inl hk)

theorem steady_heap {W W' : World} {row : Option Nat} {b : Nat} {cs : Array Value} {t : TypeId} {fr : Nat × Nat} (hg : W.grownBy W' row) (hr : ∀ r, row = some r → ∃ o : Obj, W.heap[r]? = some o ∧ o.isCells = false) (h : W.heap[b]? = some (.cells cs t fr)) : W'.heap[b]? = some (.cells cs t fr) :=
  (steady_keeps hg).heap h (fun e => by obtain ⟨o, ho, hc⟩ := hr b e; rw [h] at ho; cases ho; cases hc)

theorem steady_row {W W' : World} {row : Option Nat} {base : Nat} {e : TypeId} {size : Nat} {v : Value} {n : Nat} {xs : List Value} (hg : W.grownBy W' row) (hr : ∀ r, row = some r → ∃ o : Obj, W.heap[r]? = some o ∧ o.isCells = false) (h : W.ownsRow base e size v n xs) : W'.ownsRow base e size v n xs := by
  refine ⟨h.1, ?_⟩
  rcases h.2 with hn | ⟨g, cap, cur, rfl, hb, hgg, rest⟩
  · exact .inl hn
  · exact .inr ⟨g, cap, cur, rfl, hb, steady_heap hg hr hgg, rest⟩

theorem steady_map {W W' : World} {row : Option Nat} {b B : Nat} {kd : IntKind} {l : List (Int × Value)} (hg : W.grownBy W' row) (hr : ∀ r, row = some r → B ≤ r) (hb : b < B) (h : IMap W b kd l) : IMap W' b kd l :=
  h.keeps (steady_keeps hg) (fun e => by have := hr b e; omega)

theorem steady_keeps0 {w0 W W' : World} {row : Option Nat} {B : Nat} (hg : W.grownBy W' row) (hr : ∀ r, row = some r → B ≤ r) (hB : w0.heap.size ≤ B) (h : Keeps (fun _ => False) w0 W) : Keeps (fun _ => False) w0 W' :=
  h.trans' (steady_keeps hg) (fun i e => .inr (by have := hr i e; omega))

theorem cells_not_deferred {W : World} {b : Nat} {cs : Array Value} {t : TypeId} {fr : Nat × Nat} (h : W.heap[b]? = some (.cells cs t fr)) : W.heap[b]? ≠ some (.deferred (some [])) := by rw [h]; intro e; cases e
theorem map_not_deferred {W : World} {b : Nat} {kd : IntKind} {l : List (Int × Value)} (h : IMap W b kd l) : W.heap[b]? ≠ some (.deferred (some [])) := by
  obtain ⟨es, c, hb, _⟩ := h; rw [hb]; intro e; cases e

theorem row_not_deferred {W : World} {base : Nat} {e : TypeId} {size : Nat} {v : Value} {n : Nat} {xs : List Value} (h : W.ownsRow base e size v n xs) (k : Nat) (hk : v.ownBlock = some k) : W.heap[k]? ≠ some (.deferred (some [])) := by
  rcases h.2 with ⟨rfl, _⟩ | ⟨g, cap, cur, rfl, _, hgg, _⟩
  · simp [Value.ownBlock] at hk
  · simp [Value.ownBlock] at hk; subst hk; exact cells_not_deferred hgg

/-- A row cut by its last element. -/
theorem ownsRow_init {w : World} {base : Nat} {e : TypeId} {g n cap : Nat} {xs : List Value} {x : Value} (h : w.ownsRow base e 1 (.slice (some ⟨g, 0, none⟩) (n + 1) cap) (n + 1) (xs ++ [x])) : w.ownsRow base e 1 (.slice (some ⟨g, 0, none⟩) n cap) n xs := by
  have hl : xs.length = n := by have := h.1; simp at this; omega
  refine ⟨by omega, ?_⟩
  rcases h.2 with ⟨hv, _⟩ | ⟨g', cap', cur, hv, hb, hg, hn, hm, hs, ht⟩
  · cases hv
  · cases hv
    refine .inr ⟨g, cap, cur, rfl, hb, hg, by omega, hm, hs, ?_⟩
    have := congrArg (List.take n) ht
    rw [List.take_take, List.take_left' hl] at this
    rwa [show min n ((n + 1) * 1) = n * 1 by omega] at this

theorem wpListIn_append_lies {F : Fence} {n : Nat} {P : Program} (w : World) {ops : Array Oper} {rest : List Oper} {o : Oper} {a : Act} {Q : Exit → Act → World → Prop}
    (hg : o.guard = none) (s x : Operand) (t : TypeId) (hop : o.op = Op.call { callee := Callee.builtin Builtin.append, args := #[s, x], argTypes := #[t, t] })
    (base : Nat) (e : TypeId) (i : TypeInfo) (z : Value) (size bytes : Nat) (h1 : P.underlying t = some (.slice e)) (h2 : P.info? e = some i) (h3 : i.zero = some z) (h4 : i.size = size) (h5 : i.bytes = bytes) (h6 : z.cells.size = size) (h7 : 0 < size)
    (v : Value) (k : Nat) (xs : List Value) (hs : a.eval s = v) (hown : w.ownsRow base e size v k xs) (ad : Addr) (m c : Nat) (news : List Value) (hx : a.eval x = .slice (some ad) m c) (hn : news.length = m * size)
    (hc : ∀ j u, news[j]? = some u → w.cell? (ad.add j) = some u) (h1c : ∀ u ∈ news, u.oneCell' = true) (hm : 0 < m) (b1 : k + m ≤ maxLen) (b2 : (k + m) * bytes ≤ 140737488355328) (b3 : base ≤ w.heap.size) (H : Nat) (hH : w.heap.size = H)
    (hK : ∀ g cap w', w'.ownsRow base e size (.slice (some ⟨g, 0, none⟩) (k + m) cap) (k + m) (xs ++ news) → w.grownBy w' v.ownBlock → (v.ownBlock = some g ∨ g = H) → g < w'.heap.size → wpListIn F n P ops Q rest (a.put o.dst (.slice (some ⟨g, 0, none⟩) (k + m) cap)) w') :
    wpListIn F n P ops Q (o :: rest) a w := by
  refine wpListIn_plain hg fun K hK' => ?_
  obtain ⟨g, cap, w', hrun, r1, r2, r3, r4⟩ := run_append_lies (P := P) w t o.type base e i z size bytes h1 h2 h3 h4 h5 h6 h7 v k xs hown ad m c news hn hc h1c hm b1 b2 b3 H hH
  unfold Oper.wpIn
  refine ⟨?_, ?_⟩
  · simp [Oper.about, hop, resolve, Target.leads, Sem.run_pure]
  · rw [Oper.semAt_plain F _ _ (by rw [hop]; intro c hc'; cases hc')]
    simp [execOp, hop, resolve, invoke, builtin, hs, hx, hrun, Result.andThen]
    exact hK' _ _ (hK g cap w' r1 r2 r3 r4)

end Go.Proofs.Ytcfcmmajlkkabaa
