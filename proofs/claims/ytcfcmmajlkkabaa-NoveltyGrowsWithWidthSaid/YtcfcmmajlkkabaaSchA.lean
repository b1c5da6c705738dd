/- novelty.search: the frame of the walk. -/
import Derived.Test.YtcfcmmajlkkabaaNov
import Derived.Test.YtcfcmmajlkkabaaFirst
import Derived.Test.YtcfcmmajlkkabaaCover
import Derived.Test.YtcfcmmajlkkabaaExB
namespace Go.Proofs.Ytcfcmmajlkkabaa
open Go.RowKit Go.Shelf
attribute [local go_sem] Oper.semAt_some

/-- Boxes that stay as they are. -/
def Fixed (w0 : World) (L : List (Nat × TypeId × Value)) (W : World) : Prop := ∀ p ∈ L, w0.heap.size ≤ p.1 ∧ W.heap[p.1]? = some (.cells #[p.2.2] p.2.1 (0, 0))

theorem Fixed.by {S : Nat → Prop} {w0 W W' : World} {L : List (Nat × TypeId × Value)} (h : Fixed w0 L W) (hk : Keeps S W W') (hs : ∀ p ∈ L, ¬ S p.1) : Fixed w0 L W' :=
  fun p hp => ⟨(h p hp).1, hk.heap (h p hp).2 (hs p hp)⟩
theorem Fixed.keeps0 {w0 W W' : World} {L : List (Nat × TypeId × Value)} (h : Fixed w0 L W) (hk : Keeps (fun _ => False) W W') : Fixed w0 L W' := h.by hk (fun _ _ h => h)
theorem Fixed.steady {w0 W W' : World} {L : List (Nat × TypeId × Value)} {row : Option Nat} (h : Fixed w0 L W) (hg : W.grownBy W' row) (hr : ∀ r, row = some r → ∃ o : Obj, W.heap[r]? = some o ∧ o.isCells = false) : Fixed w0 L W' :=
  fun p hp => ⟨(h p hp).1, steady_heap hg hr (h p hp).2⟩
theorem Fixed.add {w0 W : World} {L : List (Nat × TypeId × Value)} (h : Fixed w0 L W) (hw : w0.heap.size ≤ W.heap.size) (T : TypeId) (v : Value) : Fixed w0 (L ++ [(W.heap.size, T, v)]) (W.alloc (.cells #[v] T)) := by
  intro p hp
  rcases List.mem_append.1 hp with hp | hp
  · exact (h.keeps0 ((Keeps.refl _ W).alloc _)) p hp
  · simp at hp; subst hp
    exact ⟨hw, heap_alloc_new W _⟩

theorem results_cells3 {P : Program} {fn : Func} {tmps : Array Value} {w : World} {t1 t2 t3 : TypeId} {s1 s2 s3 : Tmp} {g1 g2 g3 : Nat} {v1 v2 v3 : Value}
    (h : fn.results = #[.cell s1 t1, .cell s2 t2, .cell s3 t3])
    (p1 : tmps.getD s1 undef = .pointer (some ⟨g1, 0, none⟩)) (p2 : tmps.getD s2 undef = .pointer (some ⟨g2, 0, none⟩)) (p3 : tmps.getD s3 undef = .pointer (some ⟨g3, 0, none⟩))
    (c1 : (loadVar t1 ⟨g1, 0, none⟩).run P w = .ok v1 w) (c2 : (loadVar t2 ⟨g2, 0, none⟩).run P w = .ok v2 w) (c3 : (loadVar t3 ⟨g3, 0, none⟩).run P w = .ok v3 w) :
    (results fn tmps).run P w = .ok (.tuple #[v1, v2, v3]) w := by
  have p1' : tmps[s1]?.getD undef = .pointer (some ⟨g1, 0, none⟩) := by simpa using p1
  have p2' : tmps[s2]?.getD undef = .pointer (some ⟨g2, 0, none⟩) := by simpa using p2
  have p3' : tmps[s3]?.getD undef = .pointer (some ⟨g3, 0, none⟩) := by simpa using p3
  simp [results, h, p1', p2', p3', asAddr, c1, c2, c3]

theorem load_box {P : Program} {W : World} {B : Nat} {t : TypeId} {v : Value} {d : TypeDesc} (hu : P.underlying t = some d) (hd : (match d with | .struct _ | .array _ _ => true | _ => false) = false) (h : Boxed W B t v) :
    (loadVar t ⟨B, 0, none⟩).run P W = .ok v W := by
  have hc := h.cell
  unfold loadVar
  simp [Sem.run_bind, run_isAgg_plain hu hd, Result.andThen, go_sem, hc]

theorem three_set {W : World} {b4 b5 b6 : Nat} {t4 t5 t6 : TypeId} {v4 v5 v6 : Value} (X4 : Boxed W b4 t4 v4) (X5 : Boxed W b5 t5 v5) (X6 : Boxed W b6 t6 v6) (h : b4 < b5 ∧ b5 < b6) (a b c : Value) :
    Boxed (((W.setCell ⟨b4, 0, none⟩ a).setCell ⟨b5, 0, none⟩ b).setCell ⟨b6, 0, none⟩ c) b4 t4 a ∧ Boxed (((W.setCell ⟨b4, 0, none⟩ a).setCell ⟨b5, 0, none⟩ b).setCell ⟨b6, 0, none⟩ c) b5 t5 b ∧
    Boxed (((W.setCell ⟨b4, 0, none⟩ a).setCell ⟨b5, 0, none⟩ b).setCell ⟨b6, 0, none⟩ c) b6 t6 c ∧ Keeps (fun k => k = b4 ∨ k = b5 ∨ k = b6) W (((W.setCell ⟨b4, 0, none⟩ a).setCell ⟨b5, 0, none⟩ b).setCell ⟨b6, 0, none⟩ c) :=
  ⟨((X4.set a).other (by omega) b).other (by omega) c, ((X5.other (by omega) a).set b).other (by omega) c, ((X6.other (by omega) a).other (by omega) b).set c,
   (((Keeps.refl (fun k => k = b4 ∨ k = b5 ∨ k = b6) W).setCell (p := ⟨b4, 0, none⟩) (.inl (.inl rfl)) a).setCell (p := ⟨b5, 0, none⟩) (.inl (.inr (.inl rfl))) b).setCell (p := ⟨b6, 0, none⟩) (.inl (.inr (.inr rfl))) c⟩

/-- What search hands back. -/
def SearchPost (ops : List Wop) (st : Nat) (acc : Nat → Bool) (cov : Nat → List Nat → Bool) (w : World) (e : Ending) (w' : World) : Prop := Keeps (fun _ => False) w w' ∧
  ((∃ n, NovRes acc cov ops st none n ∧ e = .returned (.tuple #[.slice none 0 0, .int .i64 (n : Int), .bool false])) ∨
   (∃ p n, NovRes acc cov ops st (some p) n ∧ ∃ v', e = .returned (.tuple #[v', .int .i64 (n : Int), .bool true]) ∧ Ints w' v' (intsP p) ∧ ∀ k, v'.ownBlock = some k → w.heap.size ≤ k))

structure SchLoop (ops : List Wop) (st : Nat) (acc : Nat → Bool) (cov : Nat → List Nat → Bool) (w0 : World) (b1 b2 b3 : Nat) (L : List (Nat × TypeId × Value)) (i bi : Nat) (vl : Value) (ds : List Deferred) (W : World) : Prop where
  s : FirS w0 b1 b2 b3 (novT acc cov ops st i) (keysT (novT acc cov ops st i)) vl W
  fx : Fixed w0 L W
  bx : Boxed W bi 3 (.int .i64 (i : Int))
  lb : w0.heap.size ≤ bi
  no : NovNo acc cov ops st i
  marks : Marks ds W w0.heap.size
  le : i ≤ (novT acc cov ops st i).length
  nl : ∀ p ∈ L, p.1 ≠ b1 ∧ vl.ownBlock ≠ some p.1

theorem SchLoop.keeps0 {ops : List Wop} {st : Nat} {acc : Nat → Bool} {cov : Nat → List Nat → Bool} {w0 : World} {b1 b2 b3 : Nat} {L : List (Nat × TypeId × Value)} {i bi : Nat} {vl : Value} {ds : List Deferred} {W W' : World}
    (h : SchLoop ops st acc cov w0 b1 b2 b3 L i bi vl ds W) (hk : Keeps (fun _ => False) W W') : SchLoop ops st acc cov w0 b1 b2 b3 L i bi vl ds W' :=
  ⟨h.s.keeps0 hk, h.fx.keeps0 hk, hk.heap h.bx (fun h => h), h.lb, h.no, h.marks.keeps (KeepsD.of0 hk), h.le, h.nl⟩

def boxNat (W : World) : Value → Nat
  | .pointer (some p) => match W.cell? p with
    | some (.int _ i) => i.toNat
    | _ => 0
  | _ => 0

/-- The accepted words. -/
def accW (g : Nat) (x : Nat) : Bool := bits .and .u32 (x : Int) (g : Int) == (g : Int)
def covW (n : Nat) (x : Nat) (seen : List Nat) : Bool := covN x seen n 0

/-- The loop's relation, and its undoing for a goal that is not looked into (to undo it in place costs minutes). -/
def SchRel (ops : List Wop) (st g0 n : Nat) (w : World) (b bw bn b1 b2 b3 b4 b5 b6 b7 : Nat) (a' : Act) (wr : World) : Prop := ∃ (ds : List Deferred) (u11 u12 u13 u14 u15 u16 u17 u18 u19 u20 u21 u22 u23 u24 u25 u26 u27 u28 u29 u30 u31 u32 u33 u34 u35 u36 u37 u38 u39 u40 u41 u42 u43 u44 u45 u46 u47 u48 u49 u50 u51 u52 u53 u54 u55 u56 u57 u58 u59 u60 u61 u62 u63 u64 u65 u66 u67 u68 u69 u70 u71 u72 u73 u74 u75 u76 u77 u78 u79 u80 u81 u82 u83 u84 u85 u86 : Value) (i bi : Nat) (vl : Value), SchLoop ops st (accW g0) (covW n) w b1 b2 b3 [(bw, 84, .pointer (some ⟨b, 0, none⟩)), (bn, 3, .int .i64 (n : Int)), (b4, 22, .slice none 0 0), (b5, 3, .int .i64 0), (b6, 4, .bool false), (b7, 90, .int .u32 (st : Int))] i bi vl ds wr ∧
    a' = { tmps := #[.pointer (some ⟨b, 0, none⟩), .int .i64 (n : Int), .pointer (some ⟨bw, 0, none⟩), .pointer (some ⟨bn, 0, none⟩), .pointer (some ⟨b4, 0, none⟩), .pointer (some ⟨b5, 0, none⟩), .pointer (some ⟨b6, 0, none⟩), .pointer (some ⟨b7, 0, none⟩), .pointer (some ⟨b3, 0, none⟩), .pointer (some ⟨b1, 0, none⟩), .pointer (some ⟨bi, 0, none⟩), u11, u12, u13, u14, u15, u16, u17, u18, u19, u20, u21, u22, u23, u24, u25, u26, u27, u28, u29, u30, u31, u32, u33, u34, u35, u36, u37, u38, u39, u40, u41, u42, u43, u44, u45, u46, u47, u48, u49, u50, u51, u52, u53, u54, u55, u56, u57, u58, u59, u60, u61, u62, u63, u64, u65, u66, u67, u68, u69, u70, u71, u72, u73, u74, u75, u76, u77, u78, u79, u80, u81, u82, u83, u84, u85, u86], defers := ds }

set_option maxRecDepth 100000 in
theorem SchRel.elim {ops : List Wop} {st g0 n : Nat} {w : World} {b bw bn b1 b2 b3 b4 b5 b6 b7 : Nat} {C : Act → World → Prop} {a' : Act} {wr : World} (h : SchRel ops st g0 n w b bw bn b1 b2 b3 b4 b5 b6 b7 a' wr)
    (k : ∀ (ds : List Deferred) (u11 u12 u13 u14 u15 u16 u17 u18 u19 u20 u21 u22 u23 u24 u25 u26 u27 u28 u29 u30 u31 u32 u33 u34 u35 u36 u37 u38 u39 u40 u41 u42 u43 u44 u45 u46 u47 u48 u49 u50 u51 u52 u53 u54 u55 u56 u57 u58 u59 u60 u61 u62 u63 u64 u65 u66 u67 u68 u69 u70 u71 u72 u73 u74 u75 u76 u77 u78 u79 u80 u81 u82 u83 u84 u85 u86 : Value) (i bi : Nat) (vl : Value), SchLoop ops st (accW g0) (covW n) w b1 b2 b3 [(bw, 84, .pointer (some ⟨b, 0, none⟩)), (bn, 3, .int .i64 (n : Int)), (b4, 22, .slice none 0 0), (b5, 3, .int .i64 0), (b6, 4, .bool false), (b7, 90, .int .u32 (st : Int))] i bi vl ds wr → Hid (a'.tmps.getD 10 undef = .pointer (some ⟨bi, 0, none⟩)) → C { tmps := #[.pointer (some ⟨b, 0, none⟩), .int .i64 (n : Int), .pointer (some ⟨bw, 0, none⟩), .pointer (some ⟨bn, 0, none⟩), .pointer (some ⟨b4, 0, none⟩), .pointer (some ⟨b5, 0, none⟩), .pointer (some ⟨b6, 0, none⟩), .pointer (some ⟨b7, 0, none⟩), .pointer (some ⟨b3, 0, none⟩), .pointer (some ⟨b1, 0, none⟩), .pointer (some ⟨bi, 0, none⟩), u11, u12, u13, u14, u15, u16, u17, u18, u19, u20, u21, u22, u23, u24, u25, u26, u27, u28, u29, u30, u31, u32, u33, u34, u35, u36, u37, u38, u39, u40, u41, u42, u43, u44, u45, u46, u47, u48, u49, u50, u51, u52, u53, u54, u55, u56, u57, u58, u59, u60, u61, u62, u63, u64, u65, u66, u67, u68, u69, u70, u71, u72, u73, u74, u75, u76, u77, u78, u79, u80, u81, u82, u83, u84, u85, u86], defers := ds } wr) : C a' wr := by
  unfold SchRel at h
  obtain ⟨ds, u11, u12, u13, u14, u15, u16, u17, u18, u19, u20, u21, u22, u23, u24, u25, u26, u27, u28, u29, u30, u31, u32, u33, u34, u35, u36, u37, u38, u39, u40, u41, u42, u43, u44, u45, u46, u47, u48, u49, u50, u51, u52, u53, u54, u55, u56, u57, u58, u59, u60, u61, u62, u63, u64, u65, u66, u67, u68, u69, u70, u71, u72, u73, u74, u75, u76, u77, u78, u79, u80, u81, u82, u83, u84, u85, u86, i, bi, vl, hL, rfl⟩ := h
  exact k _ _ _ _ _ _ _ _ _ _ _ _ _ _ _ _ _ _ _ _ _ _ _ _ _ _ _ _ _ _ _ _ _ _ _ _ _ _ _ _ _ _ _ _ _ _ _ _ _ _ _ _ _ _ _ _ _ _ _ _ _ _ _ _ _ _ _ _ _ _ _ _ _ _ _ _ _ _ _ _ hL rfl


end Go.Proofs.Ytcfcmmajlkkabaa
