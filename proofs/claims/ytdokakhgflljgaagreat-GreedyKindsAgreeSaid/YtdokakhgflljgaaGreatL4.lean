/- breadth.First: the tree of a breadth-first search. space.Steps: what its first loop knows. The queue's heap: what the slice of entries reads as; Less, Swap, Len walked. The library's heap over the queue's entries: up, down, Fix, Remove, Push, Pop: what they make of the list. The library's heap over the queue's entries: the slice's own Push, Pop, Len; heap.Fix, Remove, Push, Pop. The slice's own Push, and heap.Push. The plain laws of the heap: sifting up and down keep the entries, and make a heap; the first entry is a least one. No program in sight but for the entries' type. No condition beyond what each theorem says. -/
import Derived.Test.YtdokakhgflljgaaGreatL2
import Derived.Test.YtdokakhgflljgaaGreatL1
import Derived.Test.YtdokakhgflljgaaGreatL3
import Derived.Test.YtdokakhgflljgaaGreatProg

namespace Go.Proofs.YtdokakhgflljgaaGreat
open Go.RowKit Go.Shelf
attribute [local go_sem] Oper.semAt_some

/-- What First knows between two steps. -/
structure FirS (w0 : World) (b1 b2 b3 : Nat) (T : List Ent) (q : List Nat) (vl : Value) (W : World) : Prop where
  keep : Keeps (fun _ => False) w0 W
  x1 : Boxed W b1 61 vl
  x3 : Boxed W b3 95 (.map (some b2))
  line : Tail W w0.heap.size 66 vl (q.map encW)
  map : IMap W b2 .u32 (parL T)
  l1 : w0.heap.size ≤ b1
  l2 : w0.heap.size ≤ b2
  l3 : w0.heap.size ≤ b3

section
variable {w0 : World} {b1 b2 b3 : Nat} {T : List Ent} {q : List Nat} {vl : Value} {W : World}
theorem FirS.by {W' : World} {S : Nat → Prop} (h : FirS w0 b1 b2 b3 T q vl W) (hk : Keeps S W W') (s1 : ¬ S b1) (s2 : ¬ S b2) (s3 : ¬ S b3) (ss : ∀ k, vl.ownBlock = some k → ¬ S k) (hS : ∀ k, S k → w0.heap.size ≤ k) : FirS w0 b1 b2 b3 T q vl W' :=
  ⟨h.keep.trans' hk (fun i hi => .inr (hS i hi)), hk.heap h.x1 s1, hk.heap h.x3 s3, h.line.keeps hk ss, h.map.keeps hk s2, h.l1, h.l2, h.l3⟩
theorem FirS.keeps0 {W' : World} (h : FirS w0 b1 b2 b3 T q vl W) (hk : Keeps (fun _ => False) W W') : FirS w0 b1 b2 b3 T q vl W' :=
  h.by hk (fun h => h) (fun h => h) (fun h => h) (fun _ _ h => h) (fun _ h => h.elim)
theorem FirS.row1 (h : FirS w0 b1 b2 b3 T q vl W) : vl.ownBlock ≠ some b1 := h.line.not_box h.x1 (by decide)
theorem FirS.row3 (h : FirS w0 b1 b2 b3 T q vl W) : vl.ownBlock ≠ some b3 := h.line.not_box h.x3 (by decide)
theorem FirS.row2 (h : FirS w0 b1 b2 b3 T q vl W) : vl.ownBlock ≠ some b2 := Tail.not_map h.map h.line
theorem FirS.box13 (h : FirS w0 b1 b2 b3 T q vl W) : b1 ≠ b3 := by
  rintro rfl
  have := (show W.heap[b1]? = _ from h.x1).symm.trans h.x3
  simp at this
theorem FirS.steady {W' : World} {row : Option Nat} {B : Nat} (h : FirS w0 b1 b2 b3 T q vl W) (hg : W.grownBy W' row) (hr : ∀ r, row = some r → B ≤ r ∧ ∃ o : Obj, W.heap[r]? = some o ∧ o.isCells = false) (hB : w0.heap.size ≤ B) (hb2 : b2 < B) : FirS w0 b1 b2 b3 T q vl W' :=
  ⟨steady_keeps0 hg (fun r e => (hr r e).1) hB h.keep, steady_heap hg (fun r e => (hr r e).2) h.x1, steady_heap hg (fun r e => (hr r e).2) h.x3, h.line.steady hg (fun r e => (hr r e).2), steady_map hg (fun r e => (hr r e).1) hb2 h.map, h.l1, h.l2, h.l3⟩

/-- The first of the line is taken. -/
theorem FirS.pop {g off n cap x : Nat} (h : FirS w0 b1 b2 b3 T (x :: q) (.slice (some ⟨g, off, none⟩) (n + 1) cap) W) (hn : q.length = n) :
    FirS w0 b1 b2 b3 T q (.slice (some (cutAt g off cap)) n (cap - 1)) (W.setCell ⟨b1, 0, none⟩ (.slice (some (cutAt g off cap)) n (cap - 1))) := by
  have hk : Keeps (fun b => b = b1) W (W.setCell ⟨b1, 0, none⟩ (.slice (some (cutAt g off cap)) n (cap - 1))) := (Keeps.refl (fun b => b = b1) W).setCell (p := ⟨b1, 0, none⟩) (.inl rfl) _
  have hl := h.line
  rw [List.map_cons] at hl
  refine ⟨h.keep.trans' hk (fun i hi => .inr (by subst hi; exact h.l1)), h.x1.set _, hk.heap h.x3 (fun e => h.box13 e.symm), ?_, h.map.keeps hk (box_not_map h.map h.x1), h.l1, h.l2, h.l3⟩
  refine (hl.cut (by simpa using hn)).keeps hk (fun k hk' e => ?_)
  subst e
  simp [Value.ownBlock, cutAt_block] at hk'
  exact h.row1 (by simp [Value.ownBlock, hk'])

/-- One more is put in the line. -/
theorem FirS.push {W3 : World} {o : Obj} {gg off m cap x : Nat} (h : FirS w0 b1 b2 b3 T q vl W) (hown : Tail W3 w0.heap.size 66 (.slice (some ⟨gg, off, none⟩) m cap) (q.map encW ++ [encW x]))
    (hg : (W.alloc o).grownBy W3 vl.ownBlock) (hat : vl.ownBlock = some gg ∨ gg = W.heap.size + 1) : FirS w0 b1 b2 b3 T (q ++ [x]) (.slice (some ⟨gg, off, none⟩) m cap) (W3.setCell ⟨b1, 0, none⟩ (.slice (some ⟨gg, off, none⟩) m cap)) := by
  have h' := h.keeps0 ((Keeps.refl (fun _ => False) W).alloc o)
  have hk1 : Keeps (fun b => vl.ownBlock = some b) (W.alloc o) W3 := (Keeps.refl _ _).grown hg (fun k hk => .inl hk)
  have hx1 : Boxed W3 b1 61 vl := hk1.heap h'.x1 h.row1
  have hk2 : Keeps (fun b => b = b1) W3 (W3.setCell ⟨b1, 0, none⟩ (.slice (some ⟨gg, off, none⟩) m cap)) := (Keeps.refl (fun b => b = b1) W3).setCell (p := ⟨b1, 0, none⟩) (.inl rfl) _
  have hgb : gg ≠ b1 := by
    rcases hat with e | e
    · intro e'; exact h.row1 (by rw [e, e'])
    · have := h.x1.lt; omega
  refine ⟨(h'.keep.trans' hk1 (fun i e => .inr (h.line.lt i e).1)).trans' hk2 (fun i e => .inr (by subst e; exact h.l1)), hx1.set _, hk2.heap (hk1.heap h'.x3 h.row3) (fun e => h.box13 e.symm), ?_, (h'.map.keeps hk1 h.row2).keeps hk2 (box_not_map h.map h.x1), h.l1, h.l2, h.l3⟩
  rw [List.map_append]
  exact hown.keeps hk2 (fun k hk' e => by simp [Value.ownBlock] at hk'; omega)

/-- One more is seen. -/
theorem FirS.see {W' : World} {e : Ent} (h : FirS w0 b1 b2 b3 T q vl W) (hI : IMap W' b2 .u32 (parL T ++ [((e.to : Int), .agg #[.int .u32 (e.frm : Int), .int .i64 (e.op : Int)])])) (hk : Keeps (fun k => k = b2) W W') : FirS w0 b1 b2 b3 (T ++ [e]) q vl W' :=
  ⟨h.keep.trans' hk (fun i e => .inr (by subst e; exact h.l2)), hk.heap h.x1 (fun e => box_not_map h.map h.x1 e.symm), hk.heap h.x3 (fun e => box_not_map h.map h.x3 e.symm), h.line.keeps hk (fun k hk' e => by subst e; exact h.row2 hk'),
    by simpa [parL] using hI, h.l1, h.l2, h.l3⟩
end

structure FirLoop (ops : List Wop) (st : Nat) (acc : Nat → Bool) (w0 : World) (b1 b2 b3 i : Nat) (q : List Nat) (vl : Value) (ds : List Deferred) (W : World) : Prop where
  s : FirS w0 b1 b2 b3 (tree ops st i) q vl W
  q : q = (keysT (tree ops st i)).drop i
  no : ∀ (j : Nat) f, j < i → (tree ops st i)[j]? = some f → acc f.to = false
  marks : Marks ds W w0.heap.size

/-- Within the loop over the steps of e, when the steps l have come. -/
def FirI (w0 : World) (b1 b2 b3 : Nat) (T : List Ent) (q : List Nat) (e : Ent) (ds : List Deferred) (Bs Bx : Nat) (l : List Stp) (W : World) : Prop :=
  ∃ vl, FirS w0 b1 b2 b3 (T ++ frs e (keysT T) l) (q ++ keysT (frs e (keysT T) l)) vl W ∧ Marks ds W w0.heap.size ∧ W.heap[Bs]? = some (.cells #[.int .u32 (e.to : Int)] 66 (0, 0)) ∧ W.heap[Bx]? = some (.cells #[.int .u32 (e.to : Int)] 66 (0, 0)) ∧ (∀ k, vl.ownBlock = some k → k ≠ Bs) ∧ (∀ k, vl.ownBlock = some k → k ≠ Bx)

def mapLen (W : World) (b : Nat) : Nat := match W.heap[b]? with
  | some (.map es _) => es.size
  | _ => 0
def boxLen (W : World) (b : Nat) : Nat := match W.cell? ⟨b, 0, none⟩ with
  | some v => sliceLen v
  | _ => 0

/-- What First hands back. -/
def FirstPost (ops : List Wop) (st : Nat) (acc : Nat → Bool) (w : World) (e : Ending) (w' : World) : Prop := Keeps (fun _ => False) w w' ∧
  ((Best ops st acc none ∧ e = .returned (.tuple #[.slice none 0 0, .bool false])) ∨
   (∃ p, Best ops st acc (some p) ∧ ∃ v', e = .returned (.tuple #[v', .bool true]) ∧ w'.ownsRow w.heap.size 3 1 v' p.length ((intsP p).map (Value.int .i64))))

theorem reach_small {ops : List Wop} (hops : WopsOk ops) {st : Nat} (hst : st < 4294967296) {x : Nat} (h : Reach ops st x) : x < 4294967296 := by
  induction h with
  | refl => exact hst
  | step _ hy ih =>
    unfold nexts at hy
    obtain ⟨o, ho, rfl⟩ := List.mem_map.1 hy
    have ho' := List.mem_filter.1 ho
    exact next_lt ih (hops o ho'.1).2.1

/-- What a function value must do to be asked by First. -/
structure Asked (w0 : World) (g : Nat) (pa cb : Array Value) (acc : Nat → Bool) : Prop where
  enters : ∀ args w, (callFunc g args).run Tryz.prog w = .ok (.enter g args) w
  answers : ∀ (W : World) (x : Nat), Keeps (fun _ => False) w0 W → x < 4294967296 → Calls Tryz.prog g (pa.push (.int .u32 (x : Int)) ++ cb) W fun e W' => e = .returned (.bool (acc x)) ∧ ∃ n, W' = W.drewN n

theorem keysT_append (A B : List Ent) : keysT (A ++ B) = keysT A ++ keysT B := by simp [keysT]
theorem keysT_length (A : List Ent) : (keysT A).length = A.length := by simp [keysT]

theorem FirS.count {w0 : World} {b1 b2 b3 : Nat} {T : List Ent} {q : List Nat} {vl : Value} {W : World} (h : FirS w0 b1 b2 b3 T q vl W) : mapLen W b2 = T.length ∧ boxLen W b1 = q.length := by
  obtain ⟨es, c, h1, h2⟩ := h.map.length
  obtain ⟨g, off, cap, hv, _⟩ := h.line.form
  constructor
  · unfold mapLen; rw [h1]; simp only; rw [h2]; simp [parL]
  · unfold boxLen; rw [h.x1.cell]; simp only; rw [hv]; simp [sliceLen]

set_option maxRecDepth 100000 in
set_option maxHeartbeats 4000000 in
theorem first_in (w : World) (b st g0 base : Nat) (v : Value) (ops : List Wop) (hw : WordsAt w base b st g0 v ops) (hops : WopsOk ops) (hmany : ops.length ≤ 40) (hst : st < 4294967296) (l : List Nat) (hl : reached ops st = some l)
    (ga : Nat) (pa cb : Array Value) (acc : Nat → Bool) (hask : Asked w ga pa cb acc) :
    CallsIn Fence.wide 9 Tryz.prog 32 #[.iface 60 (.pointer (some ⟨b, 0, none⟩)), .func (.func ga) pa cb] w (FirstPost ops st acc w) := by
  have HW := Lib.hid hw; have HL0 := Lib.hid hl; have HASK := Lib.hid hask
  have hmm := @run_makeMap Tryz.prog
  have mS := method_Start ⟨b, 0, none⟩
  have mT := method_Steps ⟨b, 0, none⟩
  have eg := hask.enters
  clear hw hl hask
  refine callsIn_of_wp_marks Tryz.func32 rfl trivial ?_ rfl
  simp only [Tryz.ntmps32, List.size_toArray, List.length_cons, List.length_nil, Nat.reduceAdd, Nat.reduceSub, Array.replicate_succ, Array.replicate_zero, List.push_toArray, List.append_toArray, List.nil_append, List.cons_append]
  gi_wp2
  refine ⟨trivial, ?_⟩
  refine (callsIn_wide.2 (start_any _ _ _ _ _ _ _ HW.out)).mono ?_; rintro e w1 ⟨rfl, rfl⟩
  have hm0 : IMap (w.alloc (.map #[] 0)) w.heap.size .u32 [] := IMap.made w .u32
  obtain ⟨W4, hrun, hI4, hk4⟩ := hm0.run_update_new (P := Tryz.prog) Tryz.underlying95 Tryz.underlying66 (x := (st : Int)) (by simp) (.agg #[.int .u32 (st : Int), .int .i64 0])
  gi_wp2
  have hS : FirS w (W4.heap.size + 1 + 1) w.heap.size W4.heap.size (tree ops st 0) [st] (.slice (some ⟨W4.heap.size + 1, 0, none⟩) 1 1) (((W4.alloc (.cells #[.map (some w.heap.size)] 95)).alloc (.cells #[.int .u32 (st : Int)] 66)).alloc (.cells #[.slice (some ⟨W4.heap.size + 1, 0, none⟩) 1 1] 61)) := by
    have hsz : w.heap.size + 1 ≤ W4.heap.size := by have := hk4.size; simpa using this
    have k0 : Keeps (fun _ => False) w W4 := ((Keeps.refl (fun _ => False) w).alloc (.map #[] 0)).trans' hk4 (fun i e => .inr (by omega))
    have kA := (Keeps.refl (fun _ => False) W4).alloc (.cells #[.map (some w.heap.size)] 95)
    have kB := (Keeps.refl (fun _ => False) (W4.alloc (.cells #[.map (some w.heap.size)] 95))).alloc (.cells #[.int .u32 (st : Int)] 66)
    have kC := (Keeps.refl (fun _ => False) ((W4.alloc (.cells #[.map (some w.heap.size)] 95)).alloc (.cells #[.int .u32 (st : Int)] 66))).alloc (.cells #[.slice (some ⟨W4.heap.size + 1, 0, none⟩) 1 1] 61)
    have n1 := Boxed.new ((W4.alloc (.cells #[.map (some w.heap.size)] 95)).alloc (.cells #[.int .u32 (st : Int)] 66)) 61 (.slice (some ⟨W4.heap.size + 1, 0, none⟩) 1 1)
    rw [World.size_alloc, World.size_alloc] at n1
    have nl := Tail.new (W4.alloc (.cells #[.map (some w.heap.size)] 95)) w.heap.size 66 (.int .u32 (st : Int)) (by simp; omega)
    rw [World.size_alloc] at nl
    have n3 := Boxed.new W4 95 (.map (some w.heap.size))
    refine ⟨k0.trans (kA.trans (kB.trans kC)), n1, kC.heap (kB.heap n3 (fun h => h)) (fun h => h), nl.keeps kC (fun _ _ h => h), ?_, by omega, Nat.le_refl _, by omega⟩
    have h4 : IMap W4 w.heap.size .u32 (parL (tree ops st 0)) := by simpa [parL, tree] using hI4
    exact h4.keeps (kA.trans (kB.trans kC)) (fun h => h)
  have HS := Lib.hid hS
  clear hS hI4 hm0 hk4
  generalize (((W4.alloc (.cells #[.map (some w.heap.size)] 95)).alloc (.cells #[.int .u32 (st : Int)] 66)).alloc (.cells #[.slice (some ⟨W4.heap.size + 1, 0, none⟩) 1 1] 61)) = W5 at HS ⊢
  generalize W4.heap.size + 1 + 1 = b1 at HS ⊢
  generalize W4.heap.size + 1 = ba at HS ⊢
  generalize W4.heap.size = b3 at HS ⊢
  clear hrun
  obtain ⟨b2, hb2⟩ : ∃ b2, w.heap.size = b2 := ⟨_, rfl⟩
  have HSB : Hid (FirS w b1 b2 b3 (tree ops st 0) [st] (.slice (some ⟨ba, 0, none⟩) 1 1) W5) := by rw [← hb2]; exact HS
  clear HS hb2
  obtain ⟨i0, hi0, hz0, hz1, hz2⟩ := info_parts Tryz.info_u32
  refine wpIn_loop (fun a' wr => ∃ (ds : List Deferred) (u9 u10 u11 u12 u13 u14 u15 u16 u17 u18 u19 u20 u21 u22 u23 u24 u25 u26 u27 u28 u29 u30 u31 u32 u33 u34 u35 u36 u37 u38 u39 u40 u41 u42 u43 u44 u45 u46 u47 u48 u49 u50 u51 u52 u53 u54 u55 u56 u57 u58 u59 u60 u61 : Value) (i : Nat) (q : List Nat) (vl : Value), FirLoop ops st acc w b1 b2 b3 i q vl ds wr ∧ i ≤ (tree ops st i).length ∧
      a' = { tmps := #[.iface 60 (.pointer (some ⟨b, 0, none⟩)), .func (.func ga) pa cb, undef, undef, .slice none 0 0, .bool false, .int .u32 (st : Int), .pointer (some ⟨b3, 0, none⟩), .pointer (some ⟨b1, 0, none⟩), u9, u10, u11, u12, u13, u14, u15, u16, u17, u18, u19, u20, u21, u22, u23, u24, u25, u26, u27, u28, u29, u30, u31, u32, u33, u34, u35, u36, u37, u38, u39, u40, u41, u42, u43, u44, u45, u46, u47, u48, u49, u50, u51, u52, u53, u54, u55, u56, u57, u58, u59, u60, u61], defers := ds })
    (fun _ W => l.length + 1 - (mapLen W b2 - boxLen W b1)) ?start ?round
  case start => exact ⟨[], _, _, _, _, _, _, _, _, _, _, _, _, _, _, _, _, _, _, _, _, _, _, _, _, _, _, _, _, _, _, _, _, _, _, _, _, _, _, _, _, _, _, _, _, _, _, _, _, _, _, _, _, _, 0, [st], _, ⟨HSB.out, rfl, fun j f hj => by omega, Marks.nil _ _⟩, by simp, rfl⟩
  case round =>
    rintro a wr ⟨ds, u9, u10, u11, u12, u13, u14, u15, u16, u17, u18, u19, u20, u21, u22, u23, u24, u25, u26, u27, u28, u29, u30, u31, u32, u33, u34, u35, u36, u37, u38, u39, u40, u41, u42, u43, u44, u45, u46, u47, u48, u49, u50, u51, u52, u53, u54, u55, u56, u57, u58, u59, u60, u61, i, q, vl, hL, hil, rfl⟩
    have HL := Lib.hid hL
    clear hL HSB
    have x1c := HL.out.s.x1.cell
    have x1f := HL.out.s.x1.frozen
    have x3c := HL.out.s.x3.cell
    have x1l := HL.out.s.x1.lt
    have x3l := HL.out.s.x3.lt
    obtain ⟨gl, off, cap, hv, hqc, hcm, hgb, hgl⟩ := HL.out.s.line.form
    subst hv
    rw [List.length_map] at *
    by_cases hq : q = []
    · subst hq
      gi_wp2
      refine leaves_marks HL.out.marks (fun W' hk => ?_)
      have hlen : (tree ops st i).length ≤ i := by
        have h := congrArg List.length HL.out.q
        unfold keysT at h
        simp at h; omega
      have HN := HL.out.no
      refine ⟨.tuple #[.slice none 0 0, .bool false], by simp [results, Tryz.results32, go_sem], HL.out.s.keep.trans' hk (fun i hi => .inr hi.1), .inl ⟨tree_none hlen (fun f hf => ?_), rfl⟩⟩
      obtain ⟨j, hj⟩ := List.mem_iff_getElem?.1 hf
      exact HN j f (by have := (List.getElem?_eq_some_iff.1 hj).1; omega) hj
    · obtain ⟨x, q', rfl⟩ : ∃ x q', q = x :: q' := by
        cases q with
        | nil => exact absurd rfl hq
        | cons x q' => exact ⟨x, q', rfl⟩
      rw [List.length_cons] at *
      have hq0 := HL.out.q
      obtain ⟨e, hTi, hex⟩ : ∃ e, (tree ops st i)[i]? = some e ∧ e.to = x := by
        have h := congrArg (fun l : List Nat => l[0]?) hq0
        simp only [List.getElem?_cons_zero, List.getElem?_drop, Nat.add_zero] at h
        unfold keysT at h
        rw [List.getElem?_map] at h
        cases hT : (tree ops st i)[i]? with
        | none => rw [hT] at h; cases h
        | some e => rw [hT] at h; exact ⟨e, rfl, by simpa using h.symm⟩
      subst hex
      have hqq : q' = (keysT (tree ops st i)).drop (i + 1) := by
        have h := congrArg (List.drop 1) hq0
        rw [List.drop_drop] at h
        simpa using h
      have htl : i < (tree ops st i).length := (List.getElem?_eq_some_iff.1 hTi).1
      have hok := tree_ok ops st i
      have hll := (reached_some HL0.out).2.1
      have htf := tree_few HL0.out i
      have hnext := tree_step hTi
      have hx32 : e.to < 4294967296 := reach_small hops hst (hok.reach e (List.mem_of_getElem? hTi))
      have hqlen : q'.length + (i + 1) = (tree ops st i).length := by rw [hqq, List.length_drop, keysT_length]; omega
      have hfound : acc e.to = true → Best ops st acc (some e.path) := fun ha => tree_found HL0.out hTi ha HL.out.no
      have hno := HL.out.no
      have hcount := HL.out.s.count
      have hcx := Tail.head (by have := HL.out.s.line; rw [List.map_cons] at this; exact this)
      unfold encW at hcx
      have hsz : w.heap.size ≤ wr.heap.size := HL.out.s.keep.size
      have hpop := HL.out.s.pop (n := q'.length) rfl
      have hmk := HL.out.marks
      have hkd : KeepsD wr (wr.setCell ⟨b1, 0, none⟩ (.slice (some (cutAt gl off cap)) q'.length (cap - 1))) :=
        KeepsD.of ((Keeps.refl (fun b => b = b1) wr).setCell (p := ⟨b1, 0, none⟩) (.inl rfl) _) (fun b hb => by subst hb; exact cells_not_deferred HL.out.s.x1)
      have hm2 := hmk.keeps hkd
      clear hq hkd
      generalize hT : tree ops st i = T at hTi hqq htl hok htf hnext hqlen hno hcount hpop hil
      have HTI := Lib.hid hTi; have HQQ := Lib.hid hqq; have HOK := Lib.hid hok; have HNX := Lib.hid hnext; have HFO := Lib.hid hfound; have HNO := Lib.hid hno; have HCO := Lib.hid hcount; have HMK := Lib.hid hmk; have HTE := Lib.hid hT
      have HTF := Lib.hid (Nat.le_trans htf hll); have HTL := Lib.hid htf; have HIT := Lib.hid htl; have HQL := Lib.hid hqlen
      clear hTi hqq hok hnext hfound hno hcount hmk hT htf hll htl hqlen hq0 HL hil
      rcases (Classical.em (cap = 1)) with hc1 | hc1
      case' inl =>
        rw [show cutAt gl off cap = ⟨gl, off, none⟩ by simp [cutAt, hc1], show cap - 1 = 0 by omega] at hpop hm2
        have hz : q'.length = 0 := by omega
        rw [hz] at hpop hm2
        have HP := Lib.hid hpop; have HM := Lib.hid hm2
        clear hpop hm2
        subst hc1
        gi_wp2
        generalize (Value.slice (some ⟨gl, off, none⟩) 1 1) = vo
        generalize (Value.slice (some ⟨gl, off, none⟩) 0 0) = vc at HP HM ⊢
        generalize (Value.int .i64 1) = v23
      case' inr =>
        rw [show cutAt gl off cap = ⟨gl, off + 1, none⟩ by simp [cutAt, hc1]] at hpop hm2
        have HP := Lib.hid hpop; have HM := Lib.hid hm2
        clear hpop hm2
        gi_wp2
        generalize (Value.slice (some ⟨gl, off, none⟩) (q'.length + 1) cap) = vo
        generalize (Value.slice (some ⟨gl, off + 1, none⟩) q'.length (cap - 1)) = vc at HP HM ⊢
        generalize (Value.int .i64 ((q'.length : Int) + 1)) = v23
      all_goals
        have hkz : (wr.setCell ⟨b1, 0, none⟩ vc).heap.size = wr.heap.size := by simp
        generalize wr.setCell ⟨b1, 0, none⟩ vc = W2 at HP HM hkz ⊢
        rw [← hkz] at hsz ⊢
        have HB9 := Lib.hid (heap_alloc_new W2 (.cells #[.int .u32 (e.to : Int)] 66))
        have HPA := Lib.hid (HP.out.keeps0 ((Keeps.refl (fun _ => False) W2).alloc (.cells #[.int .u32 (e.to : Int)] 66)))
        have HMA := Lib.hid (HM.out.keeps (KeepsD.of0 ((Keeps.refl (fun _ => False) W2).alloc (.cells #[.int .u32 (e.to : Int)] 66))))
        have hv9 : ∀ k, vc.ownBlock = some k → k ≠ W2.heap.size := fun k hk => by have := (HP.out.line.lt k hk).2; omega
        have HV9 := Lib.hid hv9
        have hb9l : W2.heap.size < (W2.alloc (.cells #[.int .u32 (e.to : Int)] 66)).heap.size := by simp
        have hb9w : w.heap.size ≤ W2.heap.size := hsz
        clear hv9 hkz HP HM hsz
        generalize (W2.alloc (.cells #[.int .u32 (e.to : Int)] 66)) = W3 at HB9 HPA HMA hb9l ⊢
        generalize W2.heap.size = b9 at HB9 HV9 hb9l hb9w ⊢
        refine ⟨trivial, ?_⟩
        refine (callsIn_wide.2 (HASK.out.answers W3 e.to HPA.out.keep hx32)).mono ?_; rintro en W4' ⟨rfl, nq, rfl⟩
        have kq := (Keeps.refl (fun _ => False) W3).drewN nq
        have hb9q : b9 < (W3.drewN nq).heap.size := hb9l
        have HB9q := Lib.hid (kq.heap HB9.out (fun h => h))
        have HPq := Lib.hid (HPA.out.keeps0 kq)
        have HMq := Lib.hid (HMA.out.keeps (KeepsD.of0 kq))
        clear kq HB9 HPA HMA hb9l
        generalize W3.drewN nq = W4 at HB9q HPq HMq hb9q ⊢
        have x1c := HPq.out.x1.cell
        have x1f := HPq.out.x1.frozen
        have x3c := HPq.out.x3.cell
        have c9 : W4.cell? ⟨b9, 0, none⟩ = some (.int .u32 (e.to : Int)) := by rw [cell_of_blk HB9q.out]; rfl
        rcases hacc : acc e.to with _ | _
        case' true =>
          gi_wp2
          refine ⟨trivial, ?_⟩
          refine (callsIn_wide.2 (path_any W4 b2 ops st i T i e HOK.out HPq.out.map HTI.out (by have := HTF.out; omega))).mono ?_; rintro en w8 ⟨v8, rfl, hown8, hk8⟩
          gi_wp2
          refine leaves_marks (HMq.out.keeps (KeepsD.of0 hk8)) (fun W' hk => ?_)
          refine ⟨.tuple #[v8, .bool true], by simp [results, Tryz.results32, go_sem], (HPq.out.keep.trans hk8).trans' hk (fun i hi => .inr hi.1), .inr ⟨e.path, HFO.out hacc, v8, rfl, ?_⟩⟩
          exact ownsRow_mono (hk.ownsRow hown8 (fun k hk' hs => row_not_deferred hown8 k hk' hs.2)) HPq.out.keep.size
        case' false =>
          gi_wp2
          refine ⟨trivial, ?_⟩
          refine (callsIn_wide.2 (steps_any W4 b e.to)).mono ?_; rintro en w5 ⟨rfl, rfl⟩
          gi_wp2
          obtain ⟨W6, hW6⟩ : ∃ W6, ((W4.alloc (.cells #[.pointer (some ⟨b, 0, none⟩)] 60)).alloc (.cells #[.int .u32 (e.to : Int)] 66)) = W6 := ⟨_, rfl⟩
          have hz6 : W6.heap.size = W4.heap.size + 1 + 1 := by rw [← hW6]; simp
          have k6 : Keeps (fun _ => False) W4 W6 := by rw [← hW6]; exact ((Keeps.refl _ _).alloc _).alloc _
          have hBw : W6.cell? ⟨W4.heap.size, 0, none⟩ = some (.pointer (some ⟨b, 0, none⟩)) := by
            rw [← hW6]; exact ((Boxed.new W4 _ _).alloc _).cell
          have hBs : W6.heap[W4.heap.size + 1]? = some (.cells #[.int .u32 (e.to : Int)] 66 (0, 0)) := by
            rw [← hW6]
            have := heap_alloc_new (W4.alloc (.cells #[.pointer (some ⟨b, 0, none⟩)] 60)) (.cells #[.int .u32 (e.to : Int)] 66)
            rwa [World.size_alloc] at this
          have hBsc : W6.cell? ⟨W4.heap.size + 1, 0, none⟩ = some (.int .u32 (e.to : Int)) := by rw [cell_of_blk hBs]; rfl
          rw [hW6]
          have hlow4 : w.heap.size ≤ W4.heap.size := HPq.out.keep.size
          have HA6 := Lib.hid (HPq.out.keeps0 k6)
          have HM6 := Lib.hid (HMq.out.keeps (KeepsD.of0 k6))
          have HB96 := Lib.hid (k6.heap HB9q.out (fun h => h))
          have HWW := Lib.hid (show ∃ w0 : World, WordsAt w0 base b st g0 v ops ∧ w0.heap.size ≤ w.heap.size ∧ Below w.heap.size w0 W6 from ⟨w, HW.out, Nat.le_refl _, HA6.out.keep.below⟩)
          have hgrow0 : ∀ k, vc.ownBlock = some k → k ≠ W4.heap.size + 1 := fun k hk => by have := (HPq.out.line.lt k hk).2; omega
          have HG0 := Lib.hid hgrow0
          have HBS := Lib.hid hBs
          have HWL := Lib.hid (show (wsteps ops e.to).length ≤ 40 from Nat.le_trans (wsteps_le ops e.to) hmany)
          have hb6 : w.heap.size ≤ W6.heap.size := by omega
          have hb96 : b9 < W6.heap.size := by omega
          have hb26 : b2 < W6.heap.size := HA6.out.map.lt
          clear hgrow0 hBs x1c x1f x3c c9 HB9q HPq HMq
          refine wpIn_rangeFunc_ownH (α := StpOf ops e.to) rfl (by omega) (gf := 88) (lb := #[.pointer (some ⟨W4.heap.size, 0, none⟩), .pointer (some ⟨W4.heap.size + 1, 0, none⟩)]) rfl trivial (enters_of Tryz.func88 (by kernel_rfl) rfl)
            (steps_stops Fence.wide 8 trivial rfl (by omega) W4.heap.size (W4.heap.size + 1) w.heap.size base b st g0 e.to v ops hops (by omega) hx32 W6 (by omega) hBw hBsc (by omega) (by omega) HWW.out)
            KpS.trans (kpS_b (by omega) (by omega)) (Below.refl _ _) (fun _ => rfl)
            (fun pre W => FirI w b1 b2 b3 T q' e ds (W4.heap.size + 1) b9 (pre.map fun y => y.1) W)
            (fun _ _ _ => False) ?_ (fun _ _ _ _ _ hs _ _ => hs) ?_
            (fun (y : StpOf ops e.to) (a' : Act) (W : World) => ∃ Bx : Nat, W.heap[Bx]? = some (Obj.cells #[.int .i64 (y.1.op : Int), .int .i64 y.1.cost, .int .u32 (y.1.to : Int)] 107 (0, 0)) ∧ a' = { tmps := #[.iface 60 (.pointer (some ⟨b, 0, none⟩)), .func (.func ga) pa cb, undef, undef, .slice none 0 0, .bool false, .int .u32 (st : Int), .pointer (some ⟨b3, 0, none⟩), .pointer (some ⟨b1, 0, none⟩), .pointer (some ⟨b9, 0, none⟩), .pointer (some ⟨Bx, 0, none⟩), u11, u12, u13, u14, u15, u16, u17, u18, u19, u20, u21, vo, v23, .bool true, vo, .pointer (some ⟨gl, off, none⟩), .int .u32 (e.to : Int), vo, vc, .func (.func ga) pa cb, .int .u32 (e.to : Int), .bool false, u33, u34, u35, u36, .iface 60 (.pointer (some ⟨b, 0, none⟩)), .int .u32 (e.to : Int), .func (.func 88) #[] #[.pointer (some ⟨W4.heap.size, 0, none⟩), .pointer (some ⟨W4.heap.size + 1, 0, none⟩)], y.1.val, u41, u42, u43, u44, u45, u46, u47, u48, u49, u50, u51, u52, u53, u54, u55, u56, u57, u58, u59, u60, u61], defers := [] }) ?_ ?_ ?_ ?_ ?_
          · intro l W W' row hs hg hr
            obtain ⟨vl, h1, h2, h3, h4, h5⟩ := hs
            exact ⟨vl, h1.steady hg hr hb6 hb26, Marks.steady HM6.out h2 hg hr, steady_heap hg (fun r e => (hr r e).2) h3, steady_heap hg (fun r e => (hr r e).2) h4, h5⟩
          · exact ⟨vc, by simpa [frs, keysT] using HA6.out, HM6.out, HBS.out, HB96.out, HG0.out, HV9.out⟩
          · intro y a' _ W W' row hs hg hr
            obtain ⟨Bx, h1, h2⟩ := hs
            exact ⟨Bx, steady_heap hg (fun r e => (hr r e).2) h1, h2⟩
          · intro l pre y W K hi hK
            simp only [Stp.val]
            gi_wp2
            obtain ⟨vl, h1, h2, h3, h4, h5⟩ := hi
            refine hK _ _ ((KeepsOthers.alloc _ _).from _) ((KpS.refl _ _ W).alloc h1.keep.size (lt_of_heap h3) _) ⟨vl, h1.keeps0 ((Keeps.refl _ _).alloc _), h2.keeps (KeepsD.of0 ((Keeps.refl _ _).alloc _)), ((Keeps.refl (fun _ => False) W).alloc _).heap h3 (fun h => h), ((Keeps.refl (fun _ => False) W).alloc _).heap h4 (fun h => h), h5⟩ ⟨W.heap.size, heap_alloc_new W _, rfl⟩
          · rintro l pre y a' W hl - ⟨vl, h1, h2, h3, h4, h5, h6⟩ ⟨Bx, hBx, rfl⟩ hlt
            have x1c := h1.x1.cell
            have x1f := h1.x1.frozen
            have x3c := h1.x3.cell
            have c9 : W.cell? ⟨b9, 0, none⟩ = some (.int .u32 (e.to : Int)) := by rw [cell_of_blk h4]; rfl
            have y0 : W.cell? ⟨Bx, 0, none⟩ = some (.int .i64 (y.1.op : Int)) := by rw [cell_of_blk hBx]; rfl
            have y2 : W.cell? ⟨Bx, 2, none⟩ = some (.int .u32 (y.1.to : Int)) := by rw [cell_of_blk hBx]; rfl
            have hBxl := lt_of_heap hBx
            have l1 := h1.x1.lt
            have l3 := h1.x3.lt
            have l9 := lt_of_heap h4
            have hnd : (keysT (T ++ frs e (keysT T) (pre.map fun y => y.1))).Nodup := by
              rw [keysT_append, frs_keys]; exact nodup_freshs HOK.out.nodup
            have hsn := frs_snoc e (pre.map fun y => y.1) y.1 (keysT T)
            by_cases hm : y.1.to ∈ keysT T ++ keysT (frs e (keysT T) (pre.map fun y => y.1))
            · obtain ⟨f, hf, hfy⟩ : ∃ f ∈ T ++ frs e (keysT T) (pre.map fun y => y.1), f.to = y.1.to := by
                rw [← keysT_append] at hm
                obtain ⟨f, h1, h2⟩ := List.mem_map.1 hm
                exact ⟨f, h1, h2⟩
              have hlk := (h1.map.run_lookup_hit (P := Tryz.prog) Tryz.underlying95 Tryz.underlying66 (parL_nodup hnd) (parL_mem hf)).1
              rw [hfy] at hlk
              rw [if_pos hm, List.append_nil] at hsn
              have H1 := Lib.hid h1; have H2 := Lib.hid h2; have H3 := Lib.hid h3; have H4 := Lib.hid h4; have H5 := Lib.hid h5; have H6 := Lib.hid h6; have HSN := Lib.hid hsn
              clear h1 h2 h3 h4 h5 h6 hsn hm hnd hBx hf hfy
              gi_wp2
              refine ⟨(KeepsOthers.alloc _ _).from _, (KpS.refl _ _ W).alloc H1.out.keep.size (lt_of_heap H3.out) _, ⟨vl, ?_, H2.out.keeps (KeepsD.of0 ((Keeps.refl _ _).alloc _)), ((Keeps.refl (fun _ => False) W).alloc _).heap H3.out (fun h => h), ((Keeps.refl (fun _ => False) W).alloc _).heap H4.out (fun h => h), H5.out, H6.out⟩⟩
              have e1 : frs e (keysT T) ((pre ++ [y]).map fun y => y.1) = frs e (keysT T) (pre.map fun y => y.1) := by rw [List.map_append]; exact HSN.out
              rw [e1]
              exact H1.out.keeps0 ((Keeps.refl _ _).alloc _)
            · have kal := (Keeps.refl (fun _ => False) W).alloc (.cells #[.int .u32 0, .int .i64 0] 94)
              have hm2 : y.1.to ∉ keysT (T ++ frs e (keysT T) (pre.map fun y => y.1)) := by rw [keysT_append]; exact hm
              have hlk := ((h1.map).run_lookup_miss (P := Tryz.prog) Tryz.underlying95 Tryz.underlying66 (z := .agg #[.int .u32 0, .int .i64 0]) (by simp [Tryz.zeroValue94]) (parL_miss hm2)).1
              obtain ⟨W1, hrunU, hI1, hK1⟩ := ((h1.map.alloc (.cells #[.int .u32 0, .int .i64 0] 94))).run_update_new (P := Tryz.prog) Tryz.underlying95 Tryz.underlying66 (parL_miss hm2) (.agg #[.int .u32 (e.to : Int), .int .i64 (y.1.op : Int)])
              have hS1 := (h1.keeps0 kal).see (e := e.of y.1) hI1 hK1
              have hb2 := box_not_map h1.map h1.x1
              have hbx2 : Bx ≠ b2 := by rintro rfl; obtain ⟨es, c, hb, _⟩ := h1.map; rw [hBx] at hb; cases hb
              have hbs2 : W4.heap.size + 1 ≠ b2 := by rintro rfl; obtain ⟨es, c, hb, _⟩ := h1.map; rw [h3] at hb; cases hb
              have hb92 : b9 ≠ b2 := by rintro rfl; obtain ⟨es, c, hb, _⟩ := h1.map; rw [h4] at hb; cases hb
              have z1c := hS1.x1.cell
              have z1f := hS1.x1.frozen
              have z3c := hS1.x3.cell
              have y2' : W1.cell? ⟨Bx, 2, none⟩ = some (.int .u32 (y.1.to : Int)) := hK1.cell (kal.cell y2 (fun h => h)) hbx2
              have zs := hS1.x1.lt
              have zb := lt_of_heap (hK1.heap (kal.heap hBx (fun h => h)) hbx2)
              rw [if_neg hm] at hsn
              have hfl : (keysT (frs e (keysT T) (pre.map fun y => y.1))).length ≤ 40 := by
                rw [frs_keys]
                have e1 := freshs_le (seen := keysT T) (xs := (pre.map fun y => y.1).map Stp.to)
                rw [List.length_map, List.length_map] at e1
                have := HWL.out; omega
              obtain ⟨sk, hsk⟩ : ∃ sk, q' ++ keysT (frs e (keysT T) (pre.map fun y => y.1)) = sk := ⟨_, rfl⟩
              have hlen : sk.length ≤ 2040 := by
                have := HQL.out; have := HTF.out
                rw [← hsk, List.length_append]; omega
              rw [hsk] at hS1
              have HSK := Lib.hid hsk
              clear hsk
              have hlowW : w.heap.size ≤ W1.heap.size := hS1.keep.size
              have HROW := Lib.hid (hS1.line.keeps ((Keeps.refl (fun _ => False) W1).alloc (.cells #[.int .u32 (y.1.to : Int)] 66)) (fun _ _ h => h))
              have H1 := Lib.hid h1; have H2 := Lib.hid h2; have H3 := Lib.hid h3; have H4 := Lib.hid h4; have H5 := Lib.hid h5; have H6 := Lib.hid h6; have HSN := Lib.hid hsn; have HS1 := Lib.hid hS1; have HK1 := Lib.hid hK1; have HNB := Lib.hid hbs2; have HN9 := Lib.hid hb92; have HI1 := Lib.hid hI1
              clear h1 h2 h3 h4 h5 h6 hsn hm hm2 hnd hBx hS1 hK1 hI1 kal hb2 hbx2 hbs2 hb92 hfl
              gi_wp2_with (gi_at_builtin; refine wpListIn_append_tail _ rfl (.tmp 57) (.tmp 60) 61 rfl w.heap.size 66 i0 _ 4 Tryz.underlying61 hi0 hz0 hz1 hz2 rfl vl (sk.map encW) rfl HROW.out ⟨W1.heap.size, 0, none⟩ 1 (.int .u32 (y.1.to : Int)) rfl ?_ rfl sk.length (by simp) (by unfold maxLen; omega) (by omega) (by simp; omega) (W1.heap.size + 1) (by simp) ?_)
              · exact (Boxed.new W1 _ _).cell
              intro g4 off4 cap4 W2' hown2 hgrow2 hat2 hlt2
              have hbx1 : W2'.heap[b1]? = some (.cells #[vl] 61 (0, 0)) := ((Keeps.refl (fun b => vl.ownBlock = some b) _).grown hgrow2 (fun k hk => .inl hk)).heap (((Keeps.refl (fun _ => False) W1).alloc _).heap HS1.out.x1 (fun h => h)) HS1.out.row1
              have v1c : W2'.cell? ⟨b1, 0, none⟩ = some vl := (cell_of_blk hbx1).trans rfl
              have v1f : W2'.frozen? ⟨b1, 0, none⟩ = false := frozen_of_blk hbx1
              have v1l := lt_of_heap hbx1
              have HP2 := Lib.hid (HS1.out.push (x := y.1.to) hown2 hgrow2 hat2)
              have HX1 := Lib.hid hbx1
              have HG2 := Lib.hid hgrow2
              have HAT2 := Lib.hid hat2
              clear hown2 hgrow2 hat2 hlt2 hbx1
              gi_wp2
              have hk : Keeps (fun b => b = b2 ∨ b = b1 ∨ vl.ownBlock = some b) W (W2'.setCell ⟨b1, 0, none⟩ (.slice (some ⟨g4, off4, none⟩) (sk.length + 1) cap4)) := by
                have q1 : Keeps (fun b => b = b2 ∨ b = b1 ∨ vl.ownBlock = some b) W W1 := (((Keeps.refl (fun _ => False) W).alloc (.cells #[.int .u32 0, .int .i64 0] 94)).mono (fun _ _ h => h.elim)).trans (HK1.out.mono (fun _ _ h => .inl h))
                have q2 : Keeps (fun b => b = b2 ∨ b = b1 ∨ vl.ownBlock = some b) W1 W2' := (((Keeps.refl (fun _ => False) W1).alloc (.cells #[.int .u32 (y.1.to : Int)] 66)).mono (fun _ _ h => h.elim)).trans (((Keeps.refl (fun b => vl.ownBlock = some b) _).grown HG2.out (fun k hk => .inl hk)).mono (fun _ _ h => .inr (.inr h)))
                exact (q1.trans q2).trans ((Keeps.refl _ W2').setCell (p := ⟨b1, 0, none⟩) (.inl (.inr (.inl rfl))) _)
              have hS : ∀ b, b = b2 ∨ b = b1 ∨ vl.ownBlock = some b → w.heap.size ≤ b ∧ b < W6.heap.size + W.heap.size ∧ b ≠ W4.heap.size + 1 ∧ b ≠ b9 ∧ W.heap[b]? ≠ some (.deferred (some [])) ∧ (b = b2 ∨ ∃ cs t fr, W.heap[b]? = some (.cells cs t fr)) := by
                rintro b (rfl | rfl | hb)
                · exact ⟨H1.out.l2, by have := H1.out.map.lt; omega, fun e => HNB.out e.symm, fun e => HN9.out e.symm, map_not_deferred H1.out.map, .inl rfl⟩
                · refine ⟨H1.out.l1, by have := H1.out.x1.lt; omega, ?_, ?_, cells_not_deferred H1.out.x1, .inr ⟨_, _, _, H1.out.x1⟩⟩
                  · intro e'
                    have h := (show W.heap[b]? = _ from H1.out.x1)
                    rw [e', H3.out] at h
                    simp at h
                  · intro e'
                    have h := (show W.heap[b]? = _ from H1.out.x1)
                    rw [e', H4.out] at h
                    simp at h
                · obtain ⟨cur, hcur⟩ := H1.out.line.block b hb
                  exact ⟨(H1.out.line.lt b hb).1, by have := (H1.out.line.lt b hb).2; omega, H5.out b hb, H6.out b hb, H1.out.line.not_deferred b hb, .inr ⟨_, _, _, hcur⟩⟩
              refine ⟨⟨hk.size, fun k o hB hk0 hc => ?_⟩, KpS.ofKeeps hk H1.out.keep.size (fun k hlt hs => by have := (hS k hs).1; omega) (lt_of_heap H3.out) (fun hs => (hS _ hs).2.2.1 rfl), ⟨.slice (some ⟨g4, off4, none⟩) (sk.length + 1) cap4, ?_, H2.out.keeps (KeepsD.of hk (fun b hs => (hS b hs).2.2.2.2.1)), hk.heap H3.out (fun hs => (hS _ hs).2.2.1 rfl), hk.heap H4.out (fun hs => (hS _ hs).2.2.2.1 rfl), ?_, ?_⟩⟩
              · refine hk.heap hk0 (fun hs => ?_)
                rcases (hS k hs).2.2.2.2.2 with rfl | ⟨cs, t, fr, e'⟩
                · omega
                · rw [e'] at hk0; cases hk0; cases hc
              · have e1 : frs e (keysT T) ((pre ++ [y]).map fun y => y.1) = frs e (keysT T) (pre.map fun y => y.1) ++ [e.of y.1] := by rw [List.map_append]; exact HSN.out
                rw [e1, keysT_append, ← List.append_assoc, ← List.append_assoc, HSK.out]
                exact HP2.out
              · intro k hk' e'
                simp [Value.ownBlock] at hk'
                subst hk'
                rcases HAT2.out with e2 | e2
                · exact H5.out g4 e2 e'
                · have := lt_of_heap H3.out; have := HK1.out.size; simp at this; omega
              · intro k hk' e'
                simp [Value.ownBlock] at hk'
                subst hk'
                rcases HAT2.out with e2 | e2
                · exact H6.out g4 e2 e'
                · have := lt_of_heap H4.out; have := HK1.out.size; simp at this; omega
          · rintro D ys W hD hys ⟨vl, h1, h2, h3, h4, h5, h6⟩ hd
            have hys' : (ys.map fun y => y.1) = wsteps ops e.to := hys
            rw [hys', ← HNX.out] at h1
            have HM7 := Lib.hid (HM6.out.cons h2 hD (by omega) hd)
            have H1 := Lib.hid h1
            have hle : i + 1 ≤ (tree ops st (i + 1)).length := by
              rw [HNX.out, List.length_append]; have := HIT.out; omega
            have HLE := Lib.hid hle
            have HQ2 := Lib.hid (show q' ++ keysT (frs e (keysT T) (wsteps ops e.to)) = (keysT (tree ops st (i + 1))).drop (i + 1) by
              rw [HNX.out, keysT_append, List.drop_append_of_le_length (by rw [keysT_length]; exact HIT.out), HQQ.out])
            have HNO2 := Lib.hid (show ∀ (j : Nat) f, j < i + 1 → (tree ops st (i + 1))[j]? = some f → acc f.to = false by
              intro j f hj hf
              rw [HNX.out, List.getElem?_append_left (by have := HIT.out; omega)] at hf
              by_cases hji : j < i
              · exact HNO.out j f hji hf
              · have : j = i := by omega
                subst this
                rw [HTI.out] at hf; cases hf; exact hacc)
            have HMEA := Lib.hid (show l.length + 1 - (mapLen W b2 - boxLen W b1) < l.length + 1 - (mapLen wr b2 - boxLen wr b1) by
              obtain ⟨c1, c2⟩ := H1.out.count
              obtain ⟨c3, c4⟩ := HCO.out
              have hq1 := congrArg List.length HQ2.out
              rw [List.length_drop, keysT_length] at hq1
              have hq2 := HQL.out
              have hq3 := HTL.out
              have hq4 := HIT.out
              have hq5 := HLE.out
              rw [c1, c2, c3, c4, List.length_cons, hq1]
              omega)
            clear h1 h2 h3 h4 h5 h6 hd hys hys' hle
            gi_wp2
            exact ⟨⟨mark D :: ds, _, _, _, _, _, _, _, _, _, _, _, _, _, _, _, _, _, _, _, _, _, _, _, _, _, _, _, _, _, _, _, _, _, _, _, _, _, _, _, _, _, _, _, _, _, _, _, _, _, _, _, _, _, i + 1, _, vl, ⟨H1.out, HQ2.out, HNO2.out, HM7.out⟩, HLE.out, rfl⟩, HMEA.out⟩
          · exact fun _ _ _ _ _ _ h _ => h.elim

theorem first_any (w : World) (b st g0 base : Nat) (v : Value) (ops : List Wop) (hw : WordsAt w base b st g0 v ops) (hops : WopsOk ops) (hmany : ops.length ≤ 40) (hst : st < 4294967296) (l : List Nat) (hl : reached ops st = some l)
    (ga : Nat) (pa cb : Array Value) (acc : Nat → Bool) (hask : Asked w ga pa cb acc) :
    Calls Tryz.prog 32 #[.iface 60 (.pointer (some ⟨b, 0, none⟩)), .func (.func ga) pa cb] w (FirstPost ops st acc w) := callsIn_wide.1 (first_in w b st g0 base v ops hw hops hmany hst l hl ga pa cb acc hask)

end Go.Proofs.YtdokakhgflljgaaGreat

namespace Go.Proofs.YtdokakhgflljgaaGreat
open Go.RowKit Go.Shelf

theorem ex_fnD {p : (Nat → Value) → Act} {a : Act} (h : a = p (fun k => a.tmps.getD k undef)) : ∃ u, a = p u := ⟨_, h⟩

section
variable {w0 : World} {b1 b2 b3 : Nat} {T : List Ent} {q : List Nat} {vl : Value} {W : World}
end

end Go.Proofs.YtdokakhgflljgaaGreat

namespace Go.Proofs.YtdokakhgflljgaaGreat.U
open Go.RowKit

structure Ent where
  blk : Nat
  item : Int
  key : Int
  time : Int

def Ent.ptr (e : Ent) : Value := .pointer (some ⟨e.blk, 0, none⟩)

def lessE (a b : Ent) : Bool := decide (a.key < b.key) || (a.key == b.key && decide (a.time < b.time))

/-- The slice v of entries reads as L in w. -/
structure HRep (w : World) (v : Value) (L : List Ent) : Prop where
  row : w.ownsRow 0 136 1 v L.length (L.map Ent.ptr)
  ent : ∀ (i : Nat) (e : Ent), L[i]? = some e → w.heap[e.blk]? = some (.cells #[.int .u32 e.item, .int .i64 e.key, .int .i64 e.time, .int .i64 (i : Int)] 139 (0, 0))
  small : L.length ≤ 1000000

theorem HRep.form {w : World} {v : Value} {L : List Ent} (h : HRep w v L) (hn : 0 < L.length) :
    ∃ H cap cur, v = .slice (some ⟨H, 0, none⟩) L.length cap ∧ w.heap[H]? = some (.cells cur 136 (0, 0)) ∧ cur.size = cap ∧ L.length ≤ cap ∧ ∀ (i : Nat) (e : Ent), L[i]? = some e → cur[i]? = some e.ptr := by
  rcases h.row.2 with ⟨_, h0⟩ | ⟨g, cap, cur, hv, _, hg, hn, hm, hs, ht⟩
  · omega
  · refine ⟨g, cap, cur, hv, hg, by omega, hn, fun i e he => ?_⟩
    have hi : i < L.length := (List.getElem?_eq_some_iff.1 he).1
    have : (cur.toList.take (L.length * 1))[i]? = some e.ptr := by rw [ht, List.getElem?_map, he]; rfl
    rw [List.getElem?_take, if_pos (by omega)] at this
    simpa using this

theorem HRep.cell {w : World} {v : Value} {L : List Ent} (h : HRep w v L) {H cap : Nat} (hv : v = .slice (some ⟨H, 0, none⟩) L.length cap) {i : Nat} {e : Ent} (hi : L[i]? = some e) :
    w.cell? ⟨H, i, none⟩ = some (.pointer (some ⟨e.blk, 0, none⟩)) := by
  have hl : i < L.length := (List.getElem?_eq_some_iff.1 hi).1
  obtain ⟨H', cap', cur, hv', hb, hs, hc, hcur⟩ := h.form (by omega)
  rw [hv] at hv'
  simp only [Value.slice.injEq, Option.some.injEq, Addr.mk.injEq] at hv'
  obtain ⟨⟨rfl, _⟩, _⟩ := hv'
  rw [cell_of_blk hb, hcur i e hi]; rfl

theorem HRep.e1 {w : World} {v : Value} {L : List Ent} (h : HRep w v L) {i : Nat} {e : Ent} (hi : L[i]? = some e) : w.cell? ⟨e.blk, 1, none⟩ = some (.int .i64 e.key) := by rw [cell_of_blk (h.ent i e hi)]; rfl
theorem HRep.e2 {w : World} {v : Value} {L : List Ent} (h : HRep w v L) {i : Nat} {e : Ent} (hi : L[i]? = some e) : w.cell? ⟨e.blk, 2, none⟩ = some (.int .i64 e.time) := by rw [cell_of_blk (h.ent i e hi)]; rfl
theorem HRep.e3 {w : World} {v : Value} {L : List Ent} (h : HRep w v L) {i : Nat} {e : Ent} (hi : L[i]? = some e) : w.cell? ⟨e.blk, 3, none⟩ = some (.int .i64 (i : Int)) := by rw [cell_of_blk (h.ent i e hi)]; rfl

set_option maxRecDepth 100000 in
set_option maxHeartbeats 1000000 in
theorem less_any (w : World) (v : Value) (L : List Ent) (h : HRep w v L) (i k : Nat) (ei ek : Ent) (hi : L[i]? = some ei) (hk : L[k]? = some ek) :
    Calls Tryz.prog 171 #[v, .int .i64 (i : Int), .int .i64 (k : Int)] w fun e w' => e = .returned (.bool (lessE ei ek)) ∧ ∃ n, w' = w.drewN n := by
  have li : i < L.length := (List.getElem?_eq_some_iff.1 hi).1
  have lk : k < L.length := (List.getElem?_eq_some_iff.1 hk).1
  have hsm := h.small
  obtain ⟨H, cap, cur, hv, -, -, -, -⟩ := h.form (by omega)
  have ci := h.cell hv hi
  have ck := h.cell hv hk
  have ci1 := h.e1 hi
  have ck1 := h.e1 hk
  have ci2 := h.e2 hi
  have ck2 := h.e2 hk
  subst hv
  clear h hi hk
  have i0 : (0 : Int) ≤ (i : Int) := by omega
  have k0 : (0 : Int) ≤ (k : Int) := by omega
  have il : (i : Int) < (L.length : Int) := by omega
  have kl : (k : Int) < (L.length : Int) := by omega
  by_cases h1 : ei.key < ek.key
  · have hr : lessE ei ek = true := by simp [lessE, h1]
    have HR := Lib.hid hr; clear hr
    have h1' : decide (ei.key < ek.key) = true := by simpa using h1
    go_enter Tryz.func171, Tryz.ntmps171
    go_wp2
    go_quiet (fail)
    go_wp2
    go_ret
    exact ⟨congrArg (fun b => Ending.returned (Value.bool b)) HR.out.symm, nq, rfl⟩
  · by_cases h2 : ei.key = ek.key
    · have hr : lessE ei ek = decide (ei.time < ek.time) := by simp [lessE, h2]
      have HR := Lib.hid hr; clear hr
      have h1' : decide (ei.key < ek.key) = false := by simpa using h1
      have h2' : (ei.key == ek.key) = true := by simpa using h2
      have H2 := Lib.hid h2; clear h2
      go_enter Tryz.func171, Tryz.ntmps171
      go_wp2
      go_quiet (fail)
      go_wp2
      go_ret
      exact ⟨congrArg (fun b => Ending.returned (Value.bool b)) HR.out.symm, nq, rfl⟩
    · have hr : lessE ei ek = false := by simp [lessE, h1, h2]
      have HR := Lib.hid hr; clear hr
      have h1' : decide (ei.key < ek.key) = false := by simpa using h1
      have h2' : (ei.key == ek.key) = false := by simpa using h2
      go_enter Tryz.func171, Tryz.ntmps171
      go_wp2
      go_quiet (fail)
      go_wp2
      go_ret
      exact ⟨congrArg (fun b => Ending.returned (Value.bool b)) HR.out.symm, nq, rfl⟩

/-! ### Swap -/
def swp (L : List Ent) (i k : Nat) : List Ent :=
  match L[i]?, L[k]? with
  | some a, some b => (L.set i b).set k a
  | _, _ => L

theorem swp_eq {L : List Ent} {i k : Nat} {a b : Ent} (hi : L[i]? = some a) (hk : L[k]? = some b) : swp L i k = (L.set i b).set k a := by simp [swp, hi, hk]

theorem length_swp (L : List Ent) (i k : Nat) : (swp L i k).length = L.length := by
  unfold swp; split <;> simp

theorem get_swp {L : List Ent} {i k : Nat} {a b : Ent} (hi : L[i]? = some a) (hk : L[k]? = some b) (j : Nat) :
    (swp L i k)[j]? = if j = k then some a else if j = i then some b else L[j]? := by
  have li : i < L.length := (List.getElem?_eq_some_iff.1 hi).1
  have lk : k < L.length := (List.getElem?_eq_some_iff.1 hk).1
  rw [swp_eq hi hk, List.getElem?_set]
  by_cases h : k = j
  · subst h; simp [lk]
  · rw [if_neg h, if_neg (fun e => h e.symm), List.getElem?_set]
    by_cases h' : i = j
    · subst h'; simp [li]
    · rw [if_neg h', if_neg (fun e => h' e.symm)]

theorem swp_self {L : List Ent} {i : Nat} {a : Ent} (hi : L[i]? = some a) : swp L i i = L := by
  apply List.ext_getElem?
  intro j
  rw [get_swp hi hi]
  by_cases h : j = i
  · subst h; simp [hi]
  · simp [h]

def hfoot (v : Value) (L : List Ent) (b : Nat) : Prop := v.ownBlock = some b ∨ ∃ e ∈ L, e.blk = b

theorem mem_swp {L : List Ent} {i k : Nat} {e : Ent} : e ∈ swp L i k → e ∈ L := by
  intro h
  cases hi : L[i]? with
  | none => simpa [swp, hi] using h
  | some a =>
    cases hk : L[k]? with
    | none => simpa [swp, hi, hk] using h
    | some b =>
      obtain ⟨j, hj⟩ := List.mem_iff_getElem?.1 h
      rw [get_swp hi hk] at hj
      split at hj
      · exact (Option.some.inj hj) ▸ List.mem_of_getElem? hi
      · split at hj
        · exact (Option.some.inj hj) ▸ List.mem_of_getElem? hk
        · exact List.mem_of_getElem? hj

theorem HRep.inj {w : World} {v : Value} {L : List Ent} (h : HRep w v L) {i k : Nat} {a b : Ent} (hi : L[i]? = some a) (hk : L[k]? = some b) (e : a.blk = b.blk) : i = k := by
  have x := h.ent i a hi
  rw [e, h.ent k b hk] at x
  simp at x
  omega

theorem HRep.ne_row {w : World} {v : Value} {L : List Ent} (h : HRep w v L) {i : Nat} {a : Ent} (hi : L[i]? = some a) {g : Nat} (hg : v.ownBlock = some g) : a.blk ≠ g := by
  have hl : i < L.length := (List.getElem?_eq_some_iff.1 hi).1
  obtain ⟨H, cap, cur, hv, hb, _⟩ := h.form (by omega)
  rw [hv] at hg
  obtain rfl : H = g := by simpa [Value.ownBlock] using hg
  rintro rfl
  rw [h.ent i a hi] at hb
  simp at hb

theorem HRep.lt {w : World} {v : Value} {L : List Ent} (h : HRep w v L) {b : Nat} (hb : hfoot v L b) : b < w.heap.size := by
  rcases hb with hb | ⟨e, he, rfl⟩
  · exact (h.row.lt b hb).2
  · obtain ⟨j, hj⟩ := List.mem_iff_getElem?.1 he
    exact lt_of_heap (h.ent j e hj)

theorem HRep.keeps {S : Nat → Prop} {w w' : World} {v : Value} {L : List Ent} (h : HRep w v L) (hk : Keeps S w w') (hs : ∀ b, hfoot v L b → ¬ S b) : HRep w' v L :=
  ⟨hk.ownsRow h.row (fun b hb => hs b (.inl hb)), fun i e hi => hk.heap (h.ent i e hi) (hs _ (.inr ⟨e, List.mem_of_getElem? hi, rfl⟩)), h.small⟩

theorem HRep.drewN {w : World} {v : Value} {L : List Ent} (h : HRep w v L) (n : Nat) : HRep (w.drewN n) v L := ⟨h.row, h.ent, h.small⟩

structure SwapPost (w : World) (v : Value) (L : List Ent) (i k : Nat) (w' : World) : Prop where
  rep : HRep w' v (swp L i k)
  keeps : Keeps (hfoot v L) w w'

theorem swap_post {w : World} {H n cap : Nat} {L : List Ent} (h : HRep w (.slice (some ⟨H, 0, none⟩) n cap) L) {i k : Nat} {ei ek : Ent} (hi : L[i]? = some ei) (hk : L[k]? = some ek) (hne : i ≠ k) :
    SwapPost w (.slice (some ⟨H, 0, none⟩) n cap) L i k
      ((((w.setCell ⟨H, i, none⟩ (.pointer (some ⟨ek.blk, 0, none⟩))).setCell ⟨H, k, none⟩ (.pointer (some ⟨ei.blk, 0, none⟩))).setCell ⟨ek.blk, 3, none⟩ (.int .i64 (i : Int))).setCell ⟨ei.blk, 3, none⟩ (.int .i64 (k : Int))).drew.drew := by
  have li : i < L.length := (List.getElem?_eq_some_iff.1 hi).1
  have lk : k < L.length := (List.getElem?_eq_some_iff.1 hk).1
  have nH : ∀ (j : Nat) (e : Ent), L[j]? = some e → e.blk ≠ H := fun j e hj => h.ne_row hj rfl
  have hn : n = L.length := by
    have := h.row.2
    rcases this with ⟨hv, _⟩ | ⟨_, _, _, hv, _⟩ <;> simp at hv
    omega
  subst hn
  refine ⟨⟨?_, ?_, ?_⟩, ?_⟩
  · have r1 := h.row.stored i (.pointer (some ⟨ek.blk, 0, none⟩))
    have r2 := r1.1.stored k (.pointer (some ⟨ei.blk, 0, none⟩))
    have r3 : ((((w.setCell ⟨H, i, none⟩ (.pointer (some ⟨ek.blk, 0, none⟩))).setCell ⟨H, k, none⟩ (.pointer (some ⟨ei.blk, 0, none⟩))).setCell ⟨ek.blk, 3, none⟩ (.int .i64 (i : Int))).setCell ⟨ei.blk, 3, none⟩ (.int .i64 (k : Int))).ownsRow
        0 136 1 (.slice (some ⟨H, 0, none⟩) L.length cap) L.length (((L.map Ent.ptr).set i (.pointer (some ⟨ek.blk, 0, none⟩))).set k (.pointer (some ⟨ei.blk, 0, none⟩))) := by
      refine Keeps.ownsRow (S := fun b => b ≠ H) ?_ r2.1 ?_
      · exact ((Keeps.refl _ _).setCell (.inl (nH k ek hk)) _).setCell (.inl (nH i ei hi)) _
      · intro g hg; simp [Value.ownBlock] at hg; simp [hg]
    have e1 : (swp L i k).map Ent.ptr = ((L.map Ent.ptr).set i (.pointer (some ⟨ek.blk, 0, none⟩))).set k (.pointer (some ⟨ei.blk, 0, none⟩)) := by
      rw [swp_eq hi hk, List.map_set, List.map_set]; rfl
    rw [e1, length_swp]
    exact r3
  · intro j e hj
    rw [get_swp hi hk] at hj
    simp only [heap_drew]
    by_cases hjk : j = k
    · subst hjk
      rw [if_pos rfl] at hj
      obtain rfl := Option.some.inj hj
      have hx : (((w.setCell ⟨H, i, none⟩ (.pointer (some ⟨ek.blk, 0, none⟩))).setCell ⟨H, j, none⟩ (.pointer (some ⟨ei.blk, 0, none⟩))).setCell ⟨ek.blk, 3, none⟩ (.int .i64 (i : Int))).heap[ei.blk]? = some (.cells #[.int .u32 ei.item, .int .i64 ei.key, .int .i64 ei.time, .int .i64 (i : Int)] 139 (0, 0)) := by
        rw [blk_set_ne (fun e => hne (h.inj hi hk e)), blk_set_ne (nH i ei hi), blk_set_ne (nH i ei hi)]
        exact h.ent i ei hi
      rw [blk_set_same hx]; rfl
    · rw [if_neg hjk] at hj
      by_cases hji : j = i
      · subst hji
        rw [if_pos rfl] at hj
        obtain rfl := Option.some.inj hj
        have hx : ((w.setCell ⟨H, j, none⟩ (.pointer (some ⟨ek.blk, 0, none⟩))).setCell ⟨H, k, none⟩ (.pointer (some ⟨ei.blk, 0, none⟩))).heap[ek.blk]? = some (.cells #[.int .u32 ek.item, .int .i64 ek.key, .int .i64 ek.time, .int .i64 (k : Int)] 139 (0, 0)) := by
          rw [blk_set_ne (nH k ek hk), blk_set_ne (nH k ek hk)]
          exact h.ent k ek hk
        rw [blk_set_ne (fun e => hne (h.inj hi hk e.symm)), blk_set_same hx]; rfl
      · rw [if_neg hji] at hj
        rw [blk_set_ne (fun e => hji (h.inj hj hi e)), blk_set_ne (fun e => hjk (h.inj hj hk e)), blk_set_ne (nH j e hj), blk_set_ne (nH j e hj)]
        exact h.ent j e hj
  · rw [length_swp]; exact h.small
  · refine (((((Keeps.refl _ _).setCell (.inl ?_) _).setCell (.inl ?_) _).setCell (.inl ?_) _).setCell (.inl ?_) _).drew.drew
    · exact .inl rfl
    · exact .inl rfl
    · exact .inr ⟨ek, List.mem_of_getElem? hk, rfl⟩
    · exact .inr ⟨ei, List.mem_of_getElem? hi, rfl⟩

set_option maxRecDepth 100000 in
set_option maxHeartbeats 1000000 in
theorem swap_ne (w : World) (v : Value) (L : List Ent) (h : HRep w v L) (i k : Nat) (ei ek : Ent) (hi : L[i]? = some ei) (hk : L[k]? = some ek) (hne : i ≠ k) :
    Calls Tryz.prog 172 #[v, .int .i64 (i : Int), .int .i64 (k : Int)] w fun e w' => e = .returned (.tuple #[]) ∧ SwapPost w v L i k w' := by
  have li : i < L.length := (List.getElem?_eq_some_iff.1 hi).1
  have lk : k < L.length := (List.getElem?_eq_some_iff.1 hk).1
  have hsm := h.small
  obtain ⟨H, cap, cur, hv, hH, -, -, -⟩ := h.form (by omega)
  have ci := h.cell hv hi
  have ck := h.cell hv hk
  have ci3 := h.e3 hi
  have ck3 := h.e3 hk
  have fi : w.frozen? ⟨H, i, none⟩ = false := frozen_of_blk hH
  have fk : w.frozen? ⟨H, k, none⟩ = false := frozen_of_blk hH
  have fi3 : w.frozen? ⟨ei.blk, 3, none⟩ = false := frozen_of_blk (h.ent i ei hi)
  have fk3 : w.frozen? ⟨ek.blk, 3, none⟩ = false := frozen_of_blk (h.ent k ek hk)
  have n1 : ¬ H = ei.blk := by rintro rfl; rw [h.ent i ei hi] at hH; simp at hH
  have n2 : ¬ H = ek.blk := by rintro rfl; rw [h.ent k ek hk] at hH; simp at hH
  have n3 : ¬ ei.blk = ek.blk := fun e => hne (h.inj hi hk e)
  subst hv
  have HP := Lib.hid (swap_post h hi hk hne)
  clear h hi hk hH
  have i0 : (0 : Int) ≤ (i : Int) := by omega
  have k0 : (0 : Int) ≤ (k : Int) := by omega
  have il : (i : Int) < (L.length : Int) := by omega
  have kl : (k : Int) < (L.length : Int) := by omega
  have hne' : ¬ k = i := fun e => hne e.symm
  have n1' : ¬ ei.blk = H := fun e => n1 e.symm
  have n2' : ¬ ek.blk = H := fun e => n2 e.symm
  have n3' : ¬ ek.blk = ei.blk := fun e => n3 e.symm
  go_enter Tryz.func172, Tryz.ntmps172
  go_wp2
  go_region
  go_wp2
  go_region
  go_end0
  exact ⟨rfl, HP.out⟩

set_option maxRecDepth 100000 in
set_option maxHeartbeats 1000000 in
theorem swap_eq (w : World) (v : Value) (L : List Ent) (h : HRep w v L) (i : Nat) (ei : Ent) (hi : L[i]? = some ei) :
    Calls Tryz.prog 172 #[v, .int .i64 (i : Int), .int .i64 (i : Int)] w fun e w' => e = .returned (.tuple #[]) ∧ SwapPost w v L i i w' := by
  have li : i < L.length := (List.getElem?_eq_some_iff.1 hi).1
  have hsm := h.small
  obtain ⟨H, cap, cur, hv, hH, -, -, -⟩ := h.form (by omega)
  have ci := h.cell hv hi
  have ci3 := h.e3 hi
  have fi : w.frozen? ⟨H, i, none⟩ = false := frozen_of_blk hH
  have fi3 : w.frozen? ⟨ei.blk, 3, none⟩ = false := frozen_of_blk (h.ent i ei hi)
  have n1 : ¬ H = ei.blk := by rintro rfl; rw [h.ent i ei hi] at hH; simp at hH
  subst hv
  have HP : Hid (SwapPost w (.slice (some ⟨H, 0, none⟩) L.length cap) L i i ((((w.setCell ⟨H, i, none⟩ (.pointer (some ⟨ei.blk, 0, none⟩))).setCell ⟨H, i, none⟩ (.pointer (some ⟨ei.blk, 0, none⟩))).setCell ⟨ei.blk, 3, none⟩ (.int .i64 (i : Int))).setCell ⟨ei.blk, 3, none⟩ (.int .i64 (i : Int))).drew.drew) := by
    rw [setCell_id ci, setCell_id ci, setCell_id ci3, setCell_id ci3]
    exact ⟨by rw [swp_self hi]; exact h.drewN 2, (Keeps.refl _ _).drewN 2⟩
  have n1' : ¬ ei.blk = H := fun e => n1 e.symm
  have i0 : (0 : Int) ≤ (i : Int) := by omega
  have il : (i : Int) < (L.length : Int) := by omega
  clear h hi hH
  go_enter Tryz.func172, Tryz.ntmps172
  go_wp2
  go_region
  go_wp2
  go_region
  go_end0
  exact ⟨rfl, HP.out⟩

end Go.Proofs.YtdokakhgflljgaaGreat.U

namespace Go.Proofs.YtdokakhgflljgaaGreat.U
open Go.RowKit

theorem method_Less_raw (a : Addr) (w : World) : (method 337 141 (.pointer (some a)) "Less").run Tryz.prog w = (Sem.load .plain a fun v => .pure (171, v)).run Tryz.prog w := by kernel_rfl
theorem method_Less {a : Addr} {w : World} {v : Value} (h : w.cell? a = some v) : (method 337 141 (.pointer (some a)) "Less").run Tryz.prog w = .ok (171, v) w := by
  rw [method_Less_raw]; simp [Sem.run, h]
theorem method_Swap_raw (a : Addr) (w : World) : (method 337 141 (.pointer (some a)) "Swap").run Tryz.prog w = (Sem.load .plain a fun v => .pure (172, v)).run Tryz.prog w := by kernel_rfl
theorem method_Len_raw (a : Addr) (w : World) : (method 337 141 (.pointer (some a)) "Len").run Tryz.prog w = (Sem.load .plain a fun v => .pure (170, v)).run Tryz.prog w := by kernel_rfl
theorem method_Push_raw (a : Addr) (w : World) : (method 337 141 (.pointer (some a)) "Push").run Tryz.prog w = .ok (174, .pointer (some a)) w := by kernel_rfl
theorem method_Pop_raw (a : Addr) (w : World) : (method 337 141 (.pointer (some a)) "Pop").run Tryz.prog w = .ok (173, .pointer (some a)) w := by kernel_rfl

theorem method_Swap {a : Addr} {w : World} {v : Value} (h : w.cell? a = some v) : (method 337 141 (.pointer (some a)) "Swap").run Tryz.prog w = .ok (172, v) w := by
  rw [method_Swap_raw]; simp [Sem.run, h]
theorem method_Len {a : Addr} {w : World} {v : Value} (h : w.cell? a = some v) : (method 337 141 (.pointer (some a)) "Len").run Tryz.prog w = .ok (170, v) w := by
  rw [method_Len_raw]; simp [Sem.run, h]

theorem hfoot_swp {v : Value} {L : List Ent} {i k b : Nat} (h : hfoot v (swp L i k) b) : hfoot v L b := by
  rcases h with h | ⟨e, he, rfl⟩
  · exact .inl h
  · exact .inr ⟨e, mem_swp he, rfl⟩

def lessAt (L : List Ent) (i k : Nat) : Bool :=
  match L[i]?, L[k]? with
  | some a, some b => lessE a b
  | _, _ => false

theorem lessAt_eq {L : List Ent} {i k : Nat} {a b : Ent} (hi : L[i]? = some a) (hk : L[k]? = some b) : lessAt L i k = lessE a b := by simp [lessAt, hi, hk]

def upL (L : List Ent) (j : Nat) : List Ent :=
  if j = 0 then L else if lessAt L j ((j - 1) / 2) then upL (swp L ((j - 1) / 2) j) ((j - 1) / 2) else L
termination_by j
decreasing_by omega

/-- What a call that only turns the heap leaves behind. -/
structure HPost (w : World) (v : Value) (L L' : List Ent) (w' : World) : Prop where
  rep : HRep w' v L'
  keeps : Keeps (hfoot v L) w w'
  len : L'.length = L.length
  sub : ∀ b, hfoot v L' b → hfoot v L b

theorem HPost.refl {w : World} {v : Value} {L : List Ent} (h : HRep w v L) : HPost w v L L w := ⟨h, Keeps.refl _ _, rfl, fun _ h => h⟩

theorem HPost.drewN {w w' : World} {v : Value} {L L' : List Ent} (h : HPost w v L L' w') (n : Nat) : HPost w v L L' (w'.drewN n) := ⟨h.rep.drewN n, h.keeps.drewN n, h.len, h.sub⟩

theorem HPost.swap {w w' w'' : World} {v : Value} {L L' : List Ent} (h : HPost w v L L' w') {i k : Nat} (hs : SwapPost w' v L' i k w'') : HPost w v L (swp L' i k) w'' :=
  ⟨hs.rep, h.keeps.trans (hs.keeps.mono (fun b _ hb => h.sub b hb)), by rw [length_swp]; exact h.len, fun b hb => h.sub b (hfoot_swp hb)⟩

theorem HPost.trans {w w' w'' : World} {v : Value} {L L' L'' : List Ent} (h : HPost w v L L' w') (hs : HPost w' v L' L'' w'') : HPost w v L L'' w'' :=
  ⟨hs.rep, h.keeps.trans (hs.keeps.mono (fun b _ hb => h.sub b hb)), hs.len.trans h.len, fun b hb => h.sub b (hs.sub b hb)⟩

theorem HPost.cell {w w' : World} {v : Value} {L L' : List Ent} (h : HPost w v L L' w') {Q : Nat} {o : Nat} {x : Value} (hQ : w.cell? ⟨Q, o, none⟩ = some x) (nQ : ¬ hfoot v L Q) : w'.cell? ⟨Q, o, none⟩ = some x := h.keeps.cell hQ nQ

set_option maxRecDepth 100000 in
set_option maxHeartbeats 1000000 in
theorem up_any (w : World) (Q : Nat) (v : Value) (L : List Ent) (h : HRep w v L) (hQ : w.cell? ⟨Q, 0, none⟩ = some v) (nQ : ¬ hfoot v L Q) (j : Nat) (hj : j < L.length) :
    Calls Tryz.prog 90 #[.iface 141 (.pointer (some ⟨Q, 0, none⟩)), .int .i64 (j : Int)] w fun e w' => e = .returned (.tuple #[]) ∧ HPost w v L (upL L j) w' := by
  have hsm := h.small
  go_enter Tryz.func90, Tryz.ntmps90
  go_wp2_with fail
  go_loopw [1] (fun x wr => ∃ (k : Nat) (Lc : List Ent), x = .int .i64 (k : Int) ∧ k < Lc.length ∧ upL Lc k = upL L j ∧ HPost w v L Lc wr) (fun x _ => (intOf x).toNat)
  case atStart => exact ⟨j, L, rfl, hj, rfl, HPost.refl h⟩
  case round =>
    obtain ⟨k, Lc, rfl, hk, hup, hP⟩ := hrel
    have hk' : Lc.length ≤ 1000000 := hP.rep.small
    have HU := Lib.hid hup; clear hup
    by_cases k0 : k = 0
    · subst k0
      have HP := Lib.hid hP; clear hP h
      go_wp2_with fail
      go_end0
      refine ⟨rfl, ?_⟩
      have := HU.out
      rw [upL, if_pos rfl] at this
      rw [← this]; exact HP.out
    · have e1 : ((k : Int) - 1) / 2 = (((k - 1) / 2 : Nat) : Int) := by omega
      have hup' : upL Lc k = if lessAt Lc k ((k - 1) / 2) then upL (swp Lc ((k - 1) / 2) k) ((k - 1) / 2) else Lc := by rw [upL, if_neg k0]
      generalize (k - 1) / 2 = i at *
      have hik : i < k := by omega
      have hne : (((i : Nat) : Int) == (k : Int)) = false := by simp; omega
      obtain ⟨ek, hek⟩ : ∃ e, Lc[k]? = some e := ⟨_, List.getElem?_eq_getElem hk⟩
      obtain ⟨ei, hei⟩ : ∃ e, Lc[i]? = some e := ⟨_, List.getElem?_eq_getElem (by omega)⟩
      rw [lessAt_eq hek hei] at hup'
      have hq : ∀ n, (wr.drewN n).cell? ⟨Q, 0, none⟩ = some v := fun n => hP.cell hQ nQ
      have mL := method_Less (hP.cell hQ nQ)
      have mS := fun n => method_Swap (hq n)
      have HE := Lib.hid hek
      have HI := Lib.hid hei
      have HUP := Lib.hid hup'
      have HP := Lib.hid hP
      have HQ := Lib.hid hQ
      clear hek hei hup' hP hq hQ h nQ
      cases hb : lessE ek ei
      · have HB := Lib.hid hb; clear hb
        go_wp2_with (first | (go_at_call 171; refine (less_any _ v Lc HP.out.rep k i ek ei HE.out HI.out).mono ?_; rintro e w' ⟨he, n, rfl⟩; rw [HB.out] at he; subst he))
        go_end0
        refine ⟨rfl, ?_⟩
        have x := HUP.out
        rw [HB.out, HU.out] at x
        rw [x]; exact HP.out.drewN n
      · have HB := Lib.hid hb; clear hb
        go_wp2_with (first | (go_at_call 171; refine (less_any _ v Lc HP.out.rep k i ek ei HE.out HI.out).mono ?_; rintro e w' ⟨he, n, rfl⟩; rw [HB.out] at he; subst he) | (go_at_call 172; refine (swap_ne _ v Lc (HP.out.rep.drewN _) i k ei ek HI.out HE.out (by omega)).mono ?_; rintro e w' ⟨rfl, hS⟩))
        go_roundw
        case rel =>
          refine ⟨i, _, by go_num, ?_, ?_, (HP.out.drewN _).swap hS⟩
          · rw [length_swp]; omega
          · have x := HUP.out
            rw [HB.out, HU.out] at x
            exact x.symm
        case measure => simp [intOf]; omega

theorem less_any' (w : World) (v : Value) (L : List Ent) (h : HRep w v L) (x y : Int) (i k : Nat) (ei ek : Ent) (hi : L[i]? = some ei) (hk : L[k]? = some ek) (b : Bool) (hb : lessE ei ek = b) (hx : x = (i : Int)) (hy : y = (k : Int)) :
    Calls Tryz.prog 171 #[v, .int .i64 x, .int .i64 y] w fun e w' => e = .returned (.bool b) ∧ ∃ n, w' = w.drewN n := by
  subst hx hy hb; exact less_any w v L h i k ei ek hi hk

theorem swap_ne' (w : World) (v : Value) (L : List Ent) (h : HRep w v L) (x y : Int) (i k : Nat) (ei ek : Ent) (hi : L[i]? = some ei) (hk : L[k]? = some ek) (hne : i ≠ k) (hx : x = (i : Int)) (hy : y = (k : Int)) :
    Calls Tryz.prog 172 #[v, .int .i64 x, .int .i64 y] w fun e w' => e = .returned (.tuple #[]) ∧ SwapPost w v L i k w' := by
  subst hx hy; exact swap_ne w v L h i k ei ek hi hk hne

def downL (L : List Ent) (n i : Nat) : List Ent × Nat :=
  if n ≤ 2 * i + 1 then (L, i) else
  let j := if 2 * i + 2 < n && lessAt L (2 * i + 2) (2 * i + 1) then 2 * i + 2 else 2 * i + 1
  if lessAt L j i then downL (swp L i j) n j else (L, i)
termination_by n - i
decreasing_by split <;> omega

theorem downL_stop {L : List Ent} {n i : Nat} (h : n ≤ 2 * i + 1) : downL L n i = (L, i) := by rw [downL, if_pos h]
theorem downL_go {L : List Ent} {n i j : Nat} (h : ¬ n ≤ 2 * i + 1) (hj : (if 2 * i + 2 < n && lessAt L (2 * i + 2) (2 * i + 1) then 2 * i + 2 else 2 * i + 1) = j) :
    downL L n i = if lessAt L j i then downL (swp L i j) n j else (L, i) := by
  rw [downL, if_neg h]; simp only [hj]

theorem ret_bool {a b : Bool} (h : a = b) : Ending.returned (.bool a) = .returned (.bool b) := by rw [h]


set_option maxRecDepth 100000 in
set_option maxHeartbeats 4000000 in
theorem down_any (w : World) (Q : Nat) (v : Value) (L : List Ent) (h : HRep w v L) (hQ : w.cell? ⟨Q, 0, none⟩ = some v) (nQ : ¬ hfoot v L Q) (i0 n : Nat) (hn : n ≤ L.length) (hi0 : i0 ≤ L.length) :
    Calls Tryz.prog 89 #[.iface 141 (.pointer (some ⟨Q, 0, none⟩)), .int .i64 (i0 : Int), .int .i64 (n : Int)] w fun e w' => e = .returned (.bool (decide (i0 < (downL L n i0).2))) ∧ HPost w v L (downL L n i0).1 w' := by
  have hsm := h.small
  have hnn : n ≤ 1000000 := by omega
  have hii : i0 ≤ 1000000 := by omega
  go_enter Tryz.func89, Tryz.ntmps89
  go_wp2_with fail
  go_loopw [7] (fun x wr => ∃ (i : Nat) (Lc : List Ent), x = .int .i64 (i : Int) ∧ i ≤ 1000000 ∧ downL Lc n i = downL L n i0 ∧ HPost w v L Lc wr) (fun x _ => n - (intOf x).toNat)
  case atStart => exact ⟨i0, L, rfl, hii, rfl, HPost.refl h⟩
  case round =>
    obtain ⟨i, Lc, rfl, hi, hdn, hP⟩ := hrel
    have hk' : Lc.length ≤ 1000000 := hP.rep.small
    have hlen : n ≤ Lc.length := by rw [hP.len]; exact hn
    have HU := Lib.hid hdn; clear hdn
    by_cases hst : n ≤ 2 * i + 1
    · have HP := Lib.hid hP; clear hP h
      have x := downL_stop (L := Lc) hst
      rw [HU.out] at x
      have HX := Lib.hid x; clear x
      go_wp2_with fail
      go_ret
      exact ⟨ret_bool (by rw [HX.out]), by rw [HX.out]; exact HP.out⟩
    · obtain ⟨ei, hei⟩ : ∃ e, Lc[i]? = some e := ⟨_, List.getElem?_eq_getElem (by omega)⟩
      obtain ⟨e1, he1⟩ : ∃ e, Lc[2 * i + 1]? = some e := ⟨_, List.getElem?_eq_getElem (by omega)⟩
      have hst' : 2 * i + 1 < n := by omega
      have hq : ∀ n, (wr.drewN n).cell? ⟨Q, 0, none⟩ = some v := fun n => hP.cell hQ nQ
      have mL := fun n => method_Less (hq n)
      have mL0 := method_Less (hP.cell hQ nQ)
      have mS := fun n => method_Swap (hq n)
      have HEI := Lib.hid hei
      have HE1 := Lib.hid he1
      have HP := Lib.hid hP
      by_cases h2 : 2 * i + 2 < n
      · obtain ⟨e2, he2⟩ : ∃ e, Lc[2 * i + 2]? = some e := ⟨_, List.getElem?_eq_getElem (by omega)⟩
        have HE2 := Lib.hid he2
        cases hb : lessE e2 e1
        · have hj : (if 2 * i + 2 < n && lessAt Lc (2 * i + 2) (2 * i + 1) then 2 * i + 2 else 2 * i + 1) = 2 * i + 1 := by simp [lessAt_eq he2 he1, hb]
          have HG := Lib.hid (downL_go hst hj)
          rw [lessAt_eq he1 hei, HU.out] at HG
          have HB := Lib.hid hb
          cases hc : lessE e1 ei
          · clear hei he1 hP hq hQ h nQ hb he2 hj
            have HC := Lib.hid hc; clear hc
            rw [HC.out] at HG
            go_wp2_with fail
            refine (less_any' _ v Lc HP.out.rep _ _ _ _ e2 e1 HE2.out HE1.out _ HB.out (by omega) (by omega)).mono ?_; rintro e w' ⟨rfl, n1, rfl⟩
            go_wp2_with fail
            refine (less_any' _ v Lc (HP.out.rep.drewN _) _ _ _ _ e1 ei HE1.out HEI.out _ HC.out (by omega) (by omega)).mono ?_; rintro e w' ⟨rfl, n2, rfl⟩
            go_wp2_with fail
            go_ret
            have hx := HG.out; simp only [Bool.false_eq_true, if_false] at hx
            exact ⟨ret_bool (by rw [hx]), by rw [hx]; exact HP.out.drewN _⟩
          · clear hei he1 hP hq hQ h nQ hb he2 hj
            have HC := Lib.hid hc; clear hc
            rw [HC.out] at HG
            go_wp2_with fail
            refine (less_any' _ v Lc HP.out.rep _ _ _ _ e2 e1 HE2.out HE1.out _ HB.out (by omega) (by omega)).mono ?_; rintro e w' ⟨rfl, n1, rfl⟩
            go_wp2_with fail
            refine (less_any' _ v Lc (HP.out.rep.drewN _) _ _ _ _ e1 ei HE1.out HEI.out _ HC.out (by omega) (by omega)).mono ?_; rintro e w' ⟨rfl, n2, rfl⟩
            go_wp2_with fail
            refine (swap_ne' _ v Lc (HP.out.rep.drewN _) _ _ i (2 * i + 1) ei e1 HEI.out HE1.out (by omega) (by omega) (by omega)).mono ?_; rintro e w' ⟨rfl, hS⟩
            go_wp2_with fail
            go_roundw
            case rel =>
              have hx := HG.out; simp only [if_true] at hx
              exact ⟨2 * i + 1, _, by go_num, by omega, hx.symm, (HP.out.drewN _).swap hS⟩
            case measure => simp [intOf]; omega
        · have hj : (if 2 * i + 2 < n && lessAt Lc (2 * i + 2) (2 * i + 1) then 2 * i + 2 else 2 * i + 1) = 2 * i + 2 := by simp [lessAt_eq he2 he1, hb, h2]
          have HG := Lib.hid (downL_go hst hj)
          rw [lessAt_eq he2 hei, HU.out] at HG
          have HB := Lib.hid hb
          cases hc : lessE e2 ei
          · clear hei he1 hP hq hQ h nQ hb he2 hj
            have HC := Lib.hid hc; clear hc
            rw [HC.out] at HG
            go_wp2_with fail
            refine (less_any' _ v Lc HP.out.rep _ _ _ _ e2 e1 HE2.out HE1.out _ HB.out (by omega) (by omega)).mono ?_; rintro e w' ⟨rfl, n1, rfl⟩
            go_wp2_with fail
            refine (less_any' _ v Lc (HP.out.rep.drewN _) _ _ _ _ e2 ei HE2.out HEI.out _ HC.out (by omega) (by omega)).mono ?_; rintro e w' ⟨rfl, n2, rfl⟩
            go_wp2_with fail
            go_ret
            have hx := HG.out; simp only [Bool.false_eq_true, if_false] at hx
            exact ⟨ret_bool (by rw [hx]), by rw [hx]; exact HP.out.drewN _⟩
          · clear hei he1 hP hq hQ h nQ hb he2 hj
            have HC := Lib.hid hc; clear hc
            rw [HC.out] at HG
            go_wp2_with fail
            refine (less_any' _ v Lc HP.out.rep _ _ _ _ e2 e1 HE2.out HE1.out _ HB.out (by omega) (by omega)).mono ?_; rintro e w' ⟨rfl, n1, rfl⟩
            go_wp2_with fail
            refine (less_any' _ v Lc (HP.out.rep.drewN _) _ _ _ _ e2 ei HE2.out HEI.out _ HC.out (by omega) (by omega)).mono ?_; rintro e w' ⟨rfl, n2, rfl⟩
            go_wp2_with fail
            refine (swap_ne' _ v Lc (HP.out.rep.drewN _) _ _ i (2 * i + 2) ei e2 HEI.out HE2.out (by omega) (by omega) (by omega)).mono ?_; rintro e w' ⟨rfl, hS⟩
            go_wp2_with fail
            go_roundw
            case rel =>
              have hx := HG.out; simp only [if_true] at hx
              exact ⟨2 * i + 2, _, by go_num, by omega, hx.symm, (HP.out.drewN _).swap hS⟩
            case measure => simp [intOf]; omega
      · have hj : (if 2 * i + 2 < n && lessAt Lc (2 * i + 2) (2 * i + 1) then 2 * i + 2 else 2 * i + 1) = 2 * i + 1 := by simp [h2]
        have HG := Lib.hid (downL_go hst hj)
        rw [lessAt_eq he1 hei, HU.out] at HG
        cases hc : lessE e1 ei
        · clear hei he1 hP hq hQ h nQ hj
          have HC := Lib.hid hc; clear hc
          rw [HC.out] at HG
          go_wp2_with fail
          refine (less_any' _ v Lc HP.out.rep _ _ _ _ e1 ei HE1.out HEI.out _ HC.out (by omega) (by omega)).mono ?_; rintro e w' ⟨rfl, n2, rfl⟩
          go_wp2_with fail
          go_ret
          have hx := HG.out; simp only [Bool.false_eq_true, if_false] at hx
          exact ⟨ret_bool (by rw [hx]), by rw [hx]; exact HP.out.drewN _⟩
        · clear hei he1 hP hq hQ h nQ hj
          have HC := Lib.hid hc; clear hc
          rw [HC.out] at HG
          go_wp2_with fail
          refine (less_any' _ v Lc HP.out.rep _ _ _ _ e1 ei HE1.out HEI.out _ HC.out (by omega) (by omega)).mono ?_; rintro e w' ⟨rfl, n2, rfl⟩
          go_wp2_with fail
          refine (swap_ne' _ v Lc (HP.out.rep.drewN _) _ _ i (2 * i + 1) ei e1 HEI.out HE1.out (by omega) (by omega) (by omega)).mono ?_; rintro e w' ⟨rfl, hS⟩
          go_wp2_with fail
          go_roundw
          case rel =>
            have hx := HG.out; simp only [if_true] at hx
            exact ⟨2 * i + 1, _, by go_num, by omega, hx.symm, (HP.out.drewN _).swap hS⟩
          case measure => simp [intOf]; omega

end Go.Proofs.YtdokakhgflljgaaGreat.U

namespace Go.Proofs.YtdokakhgflljgaaGreat.U
open Go.RowKit

/-- Q is the queue's struct: the slice v, the map m, the clock t. -/
def QBlk (w : World) (Q : Nat) (v m : Value) (t : Int) : Prop := w.heap[Q]? = some (.cells #[v, m, .int .i64 t] 135 (0, 0))

theorem QBlk.c0 {w : World} {Q : Nat} {v m : Value} {t : Int} (h : QBlk w Q v m t) : w.cell? ⟨Q, 0, none⟩ = some v := by rw [cell_of_blk h]; rfl
theorem QBlk.c1 {w : World} {Q : Nat} {v m : Value} {t : Int} (h : QBlk w Q v m t) : w.cell? ⟨Q, 1, none⟩ = some m := by rw [cell_of_blk h]; rfl
theorem QBlk.c2 {w : World} {Q : Nat} {v m : Value} {t : Int} (h : QBlk w Q v m t) : w.cell? ⟨Q, 2, none⟩ = some (.int .i64 t) := by rw [cell_of_blk h]; rfl

theorem QBlk.nfoot {w : World} {Q : Nat} {v m : Value} {t : Int} (h : QBlk w Q v m t) {L : List Ent} (hr : HRep w v L) : ¬ hfoot v L Q := by
  rintro (hb | ⟨e, he, rfl⟩)
  · rcases hr.row.2 with ⟨hv, _⟩ | ⟨g, cap, cur, hv, _, hg, _⟩
    · rw [hv] at hb; simp [Value.ownBlock] at hb
    · rw [hv] at hb; simp [Value.ownBlock] at hb
      subst hb
      unfold QBlk at h; rw [hg] at h; simp at h
  · obtain ⟨j, hj⟩ := List.mem_iff_getElem?.1 he
    have := hr.ent j e hj
    unfold QBlk at h; rw [this] at h; simp at h

theorem HPost.qblk {w w' : World} {v m : Value} {L L' : List Ent} (h : HPost w v L L' w') {Q : Nat} {t : Int} (hQ : QBlk w Q v m t) (hr : HRep w v L) : QBlk w' Q v m t := h.keeps.heap hQ (hQ.nfoot hr)

theorem HRep.isSlice {w : World} {v : Value} {L : List Ent} (h : HRep w v L) : ∃ ao cap, v = .slice ao L.length cap := by
  rcases h.row.2 with ⟨hv, h0⟩ | ⟨g, cap, cur, hv, _⟩
  · exact ⟨none, 0, by rw [hv, h0]⟩
  · exact ⟨_, _, hv⟩

set_option maxRecDepth 100000 in
set_option maxHeartbeats 400000 in
theorem len_any (w : World) (v : Value) (L : List Ent) (h : HRep w v L) :
    Calls Tryz.prog 170 #[v] w fun e w' => e = .returned (.int .i64 (L.length : Int)) ∧ w = w' := by
  obtain ⟨ao, cap, rfl⟩ := h.isSlice
  clear h
  go_enter Tryz.func170, Tryz.ntmps170
  go_wp2
  go_ret
  exact ⟨rfl, rfl⟩

def fixL (L : List Ent) (i : Nat) : List Ent := if i < (downL L L.length i).2 then (downL L L.length i).1 else upL (downL L L.length i).1 i

set_option maxRecDepth 100000 in
set_option maxHeartbeats 1000000 in
theorem fix_any (w : World) (Q : Nat) (v m : Value) (t : Int) (L : List Ent) (h : HRep w v L) (hQ : QBlk w Q v m t) (x : Int) (i : Nat) (hi : i < L.length) (hx : x = (i : Int)) :
    Calls Tryz.prog 72 #[.iface 141 (.pointer (some ⟨Q, 0, none⟩)), .int .i64 x] w fun e w' => e = .returned (.tuple #[]) ∧ HPost w v L (fixL L i) w' := by
  subst hx
  have hsm := h.small
  have mN := method_Len hQ.c0
  have H0 := Lib.hid h
  have HQ := Lib.hid hQ
  have HF : Hid (fixL L i = if i < (downL L L.length i).2 then (downL L L.length i).1 else upL (downL L L.length i).1 i) := rfl
  clear h hQ
  by_cases hd : i < (downL L L.length i).2
  · have HD := hid_true hd
    rw [if_pos hd] at HF
    clear hd
    go_enter Tryz.func72, Tryz.ntmps72
    go_wp2_with fail
    refine (len_any _ v L H0.out).mono ?_; rintro e w' ⟨rfl, rfl⟩
    go_wp2_with fail
    refine (down_any _ Q v L H0.out HQ.out.c0 (HQ.out.nfoot H0.out) i L.length (Nat.le_refl _) (by omega)).mono ?_; rintro e w' ⟨he, hP⟩; rw [HD.out] at he; subst he
    go_wp2_with fail
    go_end0
    exact ⟨rfl, by rw [HF.out]; exact hP⟩
  · have HD := hid_false hd
    rw [if_neg hd] at HF
    clear hd
    go_enter Tryz.func72, Tryz.ntmps72
    go_wp2_with fail
    refine (len_any _ v L H0.out).mono ?_; rintro e w' ⟨rfl, rfl⟩
    go_wp2_with fail
    refine (down_any _ Q v L H0.out HQ.out.c0 (HQ.out.nfoot H0.out) i L.length (Nat.le_refl _) (by omega)).mono ?_; rintro e w' ⟨he, hP⟩; rw [HD.out] at he; subst he
    go_wp2_with fail
    refine (up_any _ Q v _ hP.rep (hP.qblk HQ.out H0.out).c0 ((hP.qblk HQ.out H0.out).nfoot hP.rep) i (by rw [hP.len]; exact hi)).mono ?_; rintro e w'' ⟨rfl, hP2⟩
    go_wp2_with fail
    go_end0
    exact ⟨rfl, by rw [HF.out]; exact hP.trans hP2⟩

/-! ### the slice's own Pop -/
structure PopPost (w : World) (Q : Nat) (v m : Value) (t : Int) (L : List Ent) (w' : World) (v' : Value) : Prop where
  rep : HRep w' v' L
  q : QBlk w' Q v' m t
  keeps : Keeps (fun b => b = Q) w w'
  own : v'.ownBlock = v.ownBlock

theorem HRep.pop {w : World} {H cap : Nat} {L : List Ent} {e : Ent} {n : Nat} (h : HRep w (.slice (some ⟨H, 0, none⟩) n cap) (L ++ [e])) : HRep w (.slice (some ⟨H, 0, none⟩) L.length cap) L := by
  refine ⟨?_, ?_, ?_⟩
  · rcases h.row.2 with ⟨hv, _⟩ | ⟨g, cap', cur, hv, hb, hg, hn, hm, hs, ht⟩
    · simp at hv
    · simp only [Value.slice.injEq, Option.some.injEq, Addr.mk.injEq, and_true] at hv
      obtain ⟨rfl, _, rfl⟩ := hv
      refine ⟨by simp, .inr ⟨H, cap, cur, rfl, hb, hg, ?_, hm, hs, ?_⟩⟩
      · simp at hn; omega
      · have : (cur.toList.take ((L ++ [e]).length * 1)).take (L.length * 1) = ((L ++ [e]).map Ent.ptr).take (L.length * 1) := by rw [ht]
        rw [List.take_take] at this
        rw [show min (L.length * 1) ((L ++ [e]).length * 1) = L.length * 1 by simp] at this
        rw [this]; simp
  · intro i x hi
    have hl : i < L.length := (List.getElem?_eq_some_iff.1 hi).1
    exact h.ent i x (by rw [List.getElem?_append_left hl]; exact hi)
  · have := h.small; simp at this; omega

theorem pop_post {w : World} {Q H cap : Nat} {m : Value} {t : Int} {L : List Ent} {e : Ent} {n : Nat} (h : HRep w (.slice (some ⟨H, 0, none⟩) n cap) (L ++ [e])) (hQ : QBlk w Q (.slice (some ⟨H, 0, none⟩) n cap) m t) (d : Nat) :
    PopPost w Q (.slice (some ⟨H, 0, none⟩) n cap) m t L ((w.setCell ⟨Q, 0, none⟩ (.slice (some ⟨H, 0, none⟩) L.length cap)).drewN d) (.slice (some ⟨H, 0, none⟩) L.length cap) := by
  have nQ := hQ.nfoot h
  refine ⟨HRep.drewN (h.pop.keeps (S := fun b => b = Q) ((Keeps.refl (fun b => b = Q) w).setCell (p := ⟨Q, 0, none⟩) (.inl rfl) _) ?_) _, ?_, ((Keeps.refl (fun b => b = Q) w).setCell (p := ⟨Q, 0, none⟩) (.inl rfl) _).drewN _, rfl⟩
  · rintro b hb rfl
    apply nQ
    rcases hb with hb | ⟨x, hx, rfl⟩
    · exact .inl hb
    · exact .inr ⟨x, by simp [hx], rfl⟩
  · unfold QBlk
    rw [blk_drewN, blk_set_same hQ]; rfl

set_option maxRecDepth 100000 in
set_option maxHeartbeats 1000000 in
theorem opop_any (w : World) (Q : Nat) (v m : Value) (t : Int) (L : List Ent) (e0 : Ent) (h : HRep w v (L ++ [e0])) (hQ : QBlk w Q v m t) :
    Calls Tryz.prog 173 #[.pointer (some ⟨Q, 0, none⟩)] w fun e w' => e = .returned (.iface 136 (.pointer (some ⟨e0.blk, 0, none⟩))) ∧ ∃ v', PopPost w Q v m t L w' v' := by
  have hsm := h.small
  obtain ⟨H, cap, cur, hv, hH, hcs, hcl, -⟩ := h.form (by simp)
  have hlen : (L ++ [e0]).length = L.length + 1 := by simp
  have hlast := h.cell hv (i := L.length) (e := e0) (by simp)
  rw [hlen] at hv hsm hcl
  subst hv
  have c0 := hQ.c0
  have f0 : w.frozen? ⟨Q, 0, none⟩ = false := frozen_of_blk hQ
  have HP := Lib.hid (fun d => pop_post h hQ d)
  have e1 : ((L.length + 1 : Nat) : Int) - 1 = (L.length : Int) := by omega
  clear h hQ hH hcs hlen
  go_enter Tryz.func173, Tryz.ntmps173
  go_wp2
  go_ret
  exact ⟨rfl, _, HP.out 0⟩

/-- What heap.Pop leaves: the list behind the swap and the sinking, its last element. -/
def popL (L : List Ent) : List Ent := (downL (swp L 0 (L.length - 1)) (L.length - 1) 0).1

theorem length_downL (L : List Ent) (n i : Nat) : (downL L n i).1.length = L.length := by
  induction hm : n - i using Nat.strongRecOn generalizing L i with
  | _ m ih =>
    by_cases h : n ≤ 2 * i + 1
    · rw [downL_stop h]
    · rw [downL_go h rfl]
      generalize hj : (if (decide (2 * i + 2 < n) && lessAt L (2 * i + 2) (2 * i + 1)) = true then 2 * i + 2 else 2 * i + 1) = j
      have hij : i < j := by subst hj; split <;> omega
      split
      · rw [ih (n - j) (by omega) _ _ rfl, length_swp]
      · rfl

theorem length_popL (L : List Ent) : (popL L).length = L.length := by unfold popL; rw [length_downL, length_swp]

structure TookPost (w : World) (Q : Nat) (v m : Value) (t : Int) (L R : List Ent) (e0 : Ent) (w' : World) (v' : Value) : Prop where
  rep : HRep w' v' R
  q : QBlk w' Q v' m t
  ent0 : ∃ x, w'.heap[e0.blk]? = some (.cells #[.int .u32 e0.item, .int .i64 e0.key, .int .i64 e0.time, x] 139 (0, 0))
  keeps : Keeps (fun b => b = Q ∨ hfoot v L b) w w'
  sub : ∀ b, hfoot v' R b → hfoot v L b

theorem swap_any' (w : World) (v : Value) (L : List Ent) (h : HRep w v L) (x y : Int) (i k : Nat) (hi : i < L.length) (hk : k < L.length) (hx : x = (i : Int)) (hy : y = (k : Int)) :
    Calls Tryz.prog 172 #[v, .int .i64 x, .int .i64 y] w fun e w' => e = .returned (.tuple #[]) ∧ SwapPost w v L i k w' := by
  subst hx hy
  by_cases e : i = k
  · subst e; exact swap_eq w v L h i _ (List.getElem?_eq_getElem hi)
  · exact swap_ne w v L h i k _ _ (List.getElem?_eq_getElem hi) (List.getElem?_eq_getElem hk) e

theorem took_post {w w1 w2 : World} {Q : Nat} {v m : Value} {t : Int} {L R : List Ent} {e0 : Ent} {v' : Value} (hr : HRep w v L) (hQ : QBlk w Q v m t) (hP : HPost w v L (R ++ [e0]) w1) (hO : PopPost w1 Q v m t R w2 v') : TookPost w Q v m t L R e0 w2 v' := by
  have hE := hP.rep.ent R.length e0 (by simp)
  have nQ := hQ.nfoot hr
  have hin : hfoot v L e0.blk := hP.sub _ (.inr ⟨e0, by simp, rfl⟩)
  refine ⟨hO.rep, hO.q, ⟨_, hO.keeps.heap hE ?_⟩, ?_, ?_⟩
  · rintro rfl; exact nQ hin
  · exact (hP.keeps.mono (fun b _ hb => .inr hb)).trans (hO.keeps.mono (fun b _ hb => .inl hb))
  · intro b hb
    apply hP.sub
    rcases hb with hb | ⟨x, hx, rfl⟩
    · exact .inl (by rw [← hO.own]; exact hb)
    · exact .inr ⟨x, by simp [hx], rfl⟩

set_option maxRecDepth 100000 in
set_option maxHeartbeats 1000000 in
theorem hpop_any (w : World) (Q : Nat) (v m : Value) (t : Int) (L : List Ent) (h : HRep w v L) (hQ : QBlk w Q v m t) (R : List Ent) (e0 : Ent) (hR : popL L = R ++ [e0]) :
    Calls Tryz.prog 74 #[.iface 141 (.pointer (some ⟨Q, 0, none⟩))] w fun e w' => e = .returned (.iface 136 (.pointer (some ⟨e0.blk, 0, none⟩))) ∧ ∃ v', TookPost w Q v m t L R e0 w' v' := by
  have hsm := h.small
  have hlen : L.length = R.length + 1 := by rw [← length_popL L, hR]; simp
  have mN := method_Len hQ.c0
  have mS := method_Swap hQ.c0
  have H0 := Lib.hid h
  have HQ := Lib.hid hQ
  have HR := Lib.hid hR
  have HL := Lib.hid hlen
  have hr1 : R.length + 1 ≤ 1000000 := by omega
  clear h hQ hR hlen hsm
  have mP := fun w => method_Pop_raw ⟨Q, 0, none⟩ w
  go_enter Tryz.func74, Tryz.ntmps74
  go_wp2_with fail
  refine (len_any _ v L H0.out).mono ?_; rintro e w' ⟨he, rfl⟩; rw [HL.out] at he; subst he
  go_wp2_with fail
  refine (swap_any' _ v L H0.out _ _ 0 R.length (by have := HL.out; omega) (by have := HL.out; omega) (by omega) (by omega)).mono ?_; rintro e w1 ⟨rfl, hS⟩
  have hP1 := (HPost.refl H0.out).swap hS
  go_wp2_with fail
  refine (down_any _ Q v _ hP1.rep (hP1.qblk HQ.out H0.out).c0 ((hP1.qblk HQ.out H0.out).nfoot hP1.rep) 0 R.length (by have := hP1.len; have := HL.out; omega) (by omega)).mono ?_; rintro e w2 ⟨rfl, hP2⟩
  have hP3 := hP1.trans hP2
  have e4 : (downL (swp L 0 R.length) R.length 0).1 = R ++ [e0] := by
    have := HR.out; unfold popL at this; rw [HL.out] at this; exact this
  rw [e4] at hP3
  have HP3 := Lib.hid hP3
  clear hP1 hP2 hP3 hS e4
  go_wp2_with fail
  refine (opop_any _ Q v m t R e0 HP3.out.rep (HP3.out.qblk HQ.out H0.out)).mono ?_; rintro e w3 ⟨rfl, v', hO⟩
  have hT := Lib.hid (took_post H0.out HQ.out HP3.out hO)
  clear hO
  go_wp2_with fail
  go_ret
  exact ⟨rfl, v', hT.out⟩

end Go.Proofs.YtdokakhgflljgaaGreat.U

namespace Go.Proofs.YtdokakhgflljgaaGreat.U
open Go.RowKit

theorem Tryz.infoE : (Tryz.prog.info? 136).map (fun i => (i.zero, i.size, i.bytes)) = some (some (.pointer none), 1, 8) := by kernel_rfl

theorem ta_entry (a : Addr) (w : World) : (Instr.typeAssert (.iface 136 (.pointer (some a))) 20 136 false).run Tryz.prog w = .ok (.pointer (some a)) w := by kernel_rfl

structure PushPost (w : World) (Q : Nat) (v m : Value) (t : Int) (L L' : List Ent) (e0 : Ent) (w' : World) (v' : Value) : Prop where
  rep : HRep w' v' L'
  q : QBlk w' Q v' m t
  keeps : Keeps (fun b => b = Q ∨ hfoot v L b ∨ b = e0.blk) w w'
  sub : ∀ b, hfoot v' L' b → hfoot v L b ∨ b = e0.blk ∨ w.heap.size ≤ b

theorem push_q {w w1 : World} {Q : Nat} {v m : Value} {t : Int} {L : List Ent} {e0 : Ent} (h : HRep w v L) (hQ : QBlk w Q v m t) (nQE : ¬ Q = e0.blk) {o : Obj}
    (hgrow : ((w.setCell ⟨e0.blk, 3, none⟩ (.int .i64 (L.length : Int))).alloc o).grownBy w1 v.ownBlock) : QBlk w1 Q v m t := by
  have lQ := lt_of_heap hQ
  have nQ := hQ.nfoot h
  unfold QBlk
  rw [hgrow.block Q (by simp; omega) (fun e => nQ (.inl e.symm)), Below.heap_alloc _ _ _ (by simpa using lQ), blk_set_ne nQE]
  exact hQ

theorem push_post {w w1 : World} {Q : Nat} {v m : Value} {t : Int} {L : List Ent} {e0 : Ent} {x : Value} {g cap : Nat} (h : HRep w v L) (hQ : QBlk w Q v m t)
    (he : w.heap[e0.blk]? = some (.cells #[.int .u32 e0.item, .int .i64 e0.key, .int .i64 e0.time, x] 139 (0, 0))) (hn : ¬ hfoot v L e0.blk) (hs : L.length + 1 ≤ 1000000)
    (hown : w1.ownsRow 0 136 1 (.slice (some ⟨g, 0, none⟩) (L.length + 1) cap) (L.length + 1) ((L.map Ent.ptr) ++ [e0.ptr]))
    (hgrow : ((w.setCell ⟨e0.blk, 3, none⟩ (.int .i64 (L.length : Int))).alloc (.cells #[e0.ptr] 136)).grownBy w1 v.ownBlock)
    (hat : v.ownBlock = some g ∨ g = w.heap.size + 1) :
    PushPost w Q v m t L (L ++ [e0]) e0 (w1.setCell ⟨Q, 0, none⟩ (.slice (some ⟨g, 0, none⟩) (L.length + 1) cap)) (.slice (some ⟨g, 0, none⟩) (L.length + 1) cap) := by
  have lQ := lt_of_heap hQ
  have lE := lt_of_heap he
  have nQ := hQ.nfoot h
  have nQE : Q ≠ e0.blk := by rintro rfl; unfold QBlk at hQ; rw [hQ] at he; simp at he
  have nQg : Q ≠ g := by
    rintro rfl
    rcases hat with hat | hat
    · exact nQ (.inl hat)
    · omega
  -- the world ahead of the append
  have k0 : Keeps (fun b => b = e0.blk) w ((w.setCell ⟨e0.blk, 3, none⟩ (.int .i64 (L.length : Int))).alloc (.cells #[e0.ptr] 136)) :=
    ((Keeps.refl (fun b => b = e0.blk) w).setCell (p := ⟨e0.blk, 3, none⟩) (.inl rfl) _).alloc _
  have k1 : Keeps (fun b => b = e0.blk ∨ v.ownBlock = some b) w w1 := (k0.mono (fun b _ hb => .inl hb)).grown hgrow (fun k hk => .inl (.inr hk))
  have k2 : Keeps (fun b => b = Q ∨ hfoot v L b ∨ b = e0.blk) w (w1.setCell ⟨Q, 0, none⟩ (.slice (some ⟨g, 0, none⟩) (L.length + 1) cap)) :=
    (k1.mono (fun b _ hb => by rcases hb with hb | hb; exact .inr (.inr hb); exact .inr (.inl (.inl hb)))).setCell (p := ⟨Q, 0, none⟩) (.inl (.inl rfl)) _
  have hE1 : w1.heap[e0.blk]? = some (.cells #[.int .u32 e0.item, .int .i64 e0.key, .int .i64 e0.time, .int .i64 (L.length : Int)] 139 (0, 0)) := by
    rw [hgrow.block e0.blk (by simp; omega) (fun e => hn (.inl e.symm)), Below.heap_alloc _ _ _ (by simpa using lE), blk_set_same he]; rfl
  refine ⟨⟨?_, ?_, ?_⟩, ?_, k2, ?_⟩
  · have := Keeps.ownsRow (S := fun b => b = Q) ((Keeps.refl (fun b => b = Q) w1).setCell (p := ⟨Q, 0, none⟩) (.inl rfl) (.slice (some ⟨g, 0, none⟩) (L.length + 1) cap)) hown (fun k hk => by
      simp [Value.ownBlock] at hk; subst hk; exact fun e => nQg e.symm)
    simpa using this
  · intro i e hi
    by_cases hl : i < L.length
    · rw [List.getElem?_append_left hl] at hi
      have hb := h.ent i e hi
      have hlt := lt_of_heap hb
      have hfe : hfoot v L e.blk := .inr ⟨e, List.mem_of_getElem? hi, rfl⟩
      have : w1.heap[e.blk]? = w.heap[e.blk]? := k1.block _ hlt (by
        rintro (hx | hx)
        · exact hn (hx ▸ hfe)
        · exact h.ne_row hi hx rfl)
      rw [blk_set_ne (fun hx => nQ (by rw [← hx]; exact hfe)), this]
      exact hb
    · have hlen : i < (L ++ [e0]).length := (List.getElem?_eq_some_iff.1 hi).1
      have hi' : i = L.length := by simp at hlen; omega
      subst hi'
      simp at hi
      subst hi
      rw [blk_set_ne (fun e => nQE e.symm)]
      exact hE1
  · simpa using hs
  · unfold QBlk
    have : w1.heap[Q]? = some (.cells #[v, m, .int .i64 t] 135 (0, 0)) := k1.heap hQ (by
      rintro (hx | hx)
      · exact nQE hx
      · exact nQ (.inl hx))
    rw [blk_set_same this]; rfl
  · rintro b (hb | ⟨e, he, rfl⟩)
    · simp [Value.ownBlock] at hb; subst hb
      rcases hat with hat | hat
      · exact .inl (.inl hat)
      · exact .inr (.inr (by omega))
    · rcases List.mem_append.1 he with he | he
      · exact .inl (.inr ⟨e, he, rfl⟩)
      · simp at he; subst he; exact .inr (.inl rfl)

set_option maxRecDepth 100000 in
set_option maxHeartbeats 1000000 in
theorem opush_any (w : World) (Q : Nat) (v m : Value) (t : Int) (L : List Ent) (e0 : Ent) (x : Value) (h : HRep w v L) (hQ : QBlk w Q v m t)
    (he : w.heap[e0.blk]? = some (.cells #[.int .u32 e0.item, .int .i64 e0.key, .int .i64 e0.time, x] 139 (0, 0))) (hn : ¬ hfoot v L e0.blk) (hs : L.length + 1 ≤ 1000000) :
    Calls Tryz.prog 174 #[.pointer (some ⟨Q, 0, none⟩), .iface 136 (.pointer (some ⟨e0.blk, 0, none⟩))] w fun e w' => e = .returned (.tuple #[]) ∧ ∃ v', PushPost w Q v m t L (L ++ [e0]) e0 w' v' := by
  obtain ⟨i0, hi0, hz0, hz1, hz2⟩ := info_parts Tryz.infoE
  have c0 := hQ.c0
  have f0 : w.frozen? ⟨Q, 0, none⟩ = false := frozen_of_blk hQ
  have c3 : w.cell? ⟨e0.blk, 3, none⟩ = some x := by rw [cell_of_blk he]; rfl
  have f3 : w.frozen? ⟨e0.blk, 3, none⟩ = false := frozen_of_blk he
  have nQE : ¬ Q = e0.blk := by rintro rfl; unfold QBlk at hQ; rw [hQ] at he; simp at he
  have nQE' : ¬ e0.blk = Q := fun e => nQE e.symm
  have lQ := lt_of_heap hQ
  have lE := lt_of_heap he
  have hrow := Keeps.ownsRow (S := fun b => b = e0.blk) ((Keeps.refl (fun b => b = e0.blk) w).setCell (p := ⟨e0.blk, 3, none⟩) (.inl rfl) (.int .i64 (L.length : Int))) h.row (fun k hk => by rintro rfl; exact hn (.inl hk))
  have hPP := fun w1 g cap => push_post (w1 := w1) (g := g) (cap := cap) h hQ he hn hs
  obtain ⟨ao, cap, rfl⟩ := h.isSlice
  have hrow' := Lib.hid (hrow.alloc (.cells #[e0.ptr] 136))
  have HPP := Lib.hid hPP
  have H0 := Lib.hid h
  have HQ := Lib.hid hQ
  clear h hQ he hn hrow hPP
  have hta := fun w => ta_entry ⟨e0.blk, 0, none⟩ w
  go_enter Tryz.func174, Tryz.ntmps174
  go_wp2_with (at_builtin; refine wpList_append_lies _ rfl _ _ _ rfl 0 136 i0 _ 1 8 Tryz.underlying133 hi0 hz0 hz1 hz2 rfl (by omega) _ L.length _ (by rfl) hrow'.out ⟨w.heap.size, 0, none⟩ 1 1 [e0.ptr] (by rfl) (by rfl) ?hnews ?hone (by omega) (by unfold maxLen; omega) (by omega) (by omega) (w.heap.size + 1) (by simp) ?_)
  case hnews => exact World.news_of_block (cs := #[e0.ptr]) (t := 136) (fr := (0, 0)) (by rw [← World.size_setCell (w := w) (a := ⟨e0.blk, 3, none⟩) (v := .int .i64 (L.length : Int))]; exact heap_alloc_new _ _)
  case hone => simp [Ent.ptr, Value.oneCell']
  intro g cap' w1 hown hgrow hat hlt
  have hq1 := push_q H0.out HQ.out nQE hgrow
  have c0' := hq1.c0
  have f0' : w1.frozen? ⟨Q, 0, none⟩ = false := frozen_of_blk hq1
  have HP := Lib.hid (HPP.out w1 g cap' hown hgrow hat)
  clear hown hgrow hat hq1
  go_wp2_with fail
  go_end0
  exact ⟨rfl, _, HP.out⟩

end Go.Proofs.YtdokakhgflljgaaGreat.U

namespace Go.Proofs.YtdokakhgflljgaaGreat.U
open Go.RowKit

def at' (L : List Ent) (i : Nat) : Ent := L.getD i ⟨0, 0, 0, 0⟩
theorem at_eq {L : List Ent} {i : Nat} {e : Ent} (h : L[i]? = some e) : at' L i = e := by simp [at', h]
theorem get_at {L : List Ent} {i : Nat} (h : i < L.length) : L[i]? = some (at' L i) := by simp [at', h]
theorem at_mem {L : List Ent} {i : Nat} (h : i < L.length) : at' L i ∈ L := List.mem_of_getElem? (get_at h)

def leE (a b : Ent) : Prop := lessE b a = false
theorem leE_iff (a b : Ent) : leE a b ↔ a.key < b.key ∨ (a.key = b.key ∧ a.time ≤ b.time) := by
  unfold leE lessE; simp; omega
theorem leE.refl (a : Ent) : leE a a := by rw [leE_iff]; right; exact ⟨rfl, Int.le_refl _⟩
theorem leE.trans {a b c : Ent} (h : leE a b) (k : leE b c) : leE a c := by rw [leE_iff] at *; omega
theorem leE_of_less {a b : Ent} (h : lessE a b = true) : leE a b := by
  rw [leE_iff]; unfold lessE at h; simp at h; omega

theorem lessAt_at {L : List Ent} {i k : Nat} (hi : i < L.length) (hk : k < L.length) : lessAt L i k = lessE (at' L i) (at' L k) := lessAt_eq (get_at hi) (get_at hk)

theorem at_swp {L : List Ent} {i k : Nat} (hi : i < L.length) (hk : k < L.length) (j : Nat) : at' (swp L i k) j = if j = k then at' L i else if j = i then at' L k else at' L j := by
  have := get_swp (get_at hi) (get_at hk) j
  simp only [at', List.getD, this]
  split
  · rfl
  · split <;> rfl

theorem perm_swp (L : List Ent) (i k : Nat) : (swp L i k).Perm L := by
  cases hi : L[i]? with
  | none => simp [swp, hi]
  | some a =>
    cases hk : L[k]? with
    | none => simp [swp, hi, hk]
    | some b =>
      have li : i < L.length := (List.getElem?_eq_some_iff.1 hi).1
      have lk : k < L.length := (List.getElem?_eq_some_iff.1 hk).1
      have ea := (List.getElem?_eq_some_iff.1 hi).2
      have eb := (List.getElem?_eq_some_iff.1 hk).2
      have hp := Array.swap_perm (xs := L.toArray) (i := i) (j := k) (by simpa using li) (by simpa using lk)
      have := Array.perm_iff_toList_perm.1 hp
      have e : (L.toArray.swap i k (by simpa using li) (by simpa using lk)).toList = swp L i k := by
        rw [swp_eq hi hk]
        simp [Array.swap, ea, eb]
      rw [e] at this
      simpa using this

theorem perm_upL (L : List Ent) (j : Nat) : (upL L j).Perm L := by
  induction j using Nat.strongRecOn generalizing L with
  | _ j ih =>
    rw [upL]
    split
    · exact List.Perm.refl _
    · split
      · exact (ih _ (by omega) _).trans (perm_swp _ _ _)
      · exact List.Perm.refl _

/-- What the sinking does, step by step. -/
theorem downL_ind {P : List Ent → Nat → List Ent × Nat → Prop} {n : Nat} (h1 : ∀ L i, n ≤ 2 * i + 1 → P L i (L, i))
    (h2 : ∀ L i j, ¬ n ≤ 2 * i + 1 → (if (decide (2 * i + 2 < n) && lessAt L (2 * i + 2) (2 * i + 1)) = true then 2 * i + 2 else 2 * i + 1) = j → lessAt L j i = false → P L i (L, i))
    (h3 : ∀ L i j, ¬ n ≤ 2 * i + 1 → (if (decide (2 * i + 2 < n) && lessAt L (2 * i + 2) (2 * i + 1)) = true then 2 * i + 2 else 2 * i + 1) = j → lessAt L j i = true → P (swp L i j) j (downL (swp L i j) n j) → P L i (downL (swp L i j) n j)) :
    ∀ L i, P L i (downL L n i) := by
  intro L i
  induction hm : n - i using Nat.strongRecOn generalizing L i with
  | _ m ih =>
    by_cases h : n ≤ 2 * i + 1
    · rw [downL_stop h]; exact h1 L i h
    · obtain ⟨j, hj⟩ : ∃ j, (if (decide (2 * i + 2 < n) && lessAt L (2 * i + 2) (2 * i + 1)) = true then 2 * i + 2 else 2 * i + 1) = j := ⟨_, rfl⟩
      rw [downL_go h hj]
      have hij : i < j := by subst hj; split <;> omega
      cases hc : lessAt L j i
      · simp only [Bool.false_eq_true, if_false]; exact h2 L i j h hj hc
      · simp only [if_true]; exact h3 L i j h hj hc (ih (n - j) (by omega) _ _ rfl)

theorem child_lt {L : List Ent} {n i j : Nat} (h : ¬ n ≤ 2 * i + 1) (hj : (if (decide (2 * i + 2 < n) && lessAt L (2 * i + 2) (2 * i + 1)) = true then 2 * i + 2 else 2 * i + 1) = j) : j < n ∧ i < j ∧ (j - 1) / 2 = i := by
  subst hj
  split
  · rename_i hc; simp at hc; omega
  · omega

theorem perm_downL (L : List Ent) (n i : Nat) : (downL L n i).1.Perm L :=
  downL_ind (P := fun L _ r => r.1.Perm L) (fun _ _ _ => List.Perm.refl _) (fun _ _ _ _ _ _ => List.Perm.refl _) (fun _ _ _ _ _ _ h => h.trans (perm_swp _ _ _)) L i

theorem downL_beyond (L : List Ent) (n i : Nat) (hn : n ≤ L.length) : ∀ k, n ≤ k → at' (downL L n i).1 k = at' L k :=
  downL_ind (P := fun L _ r => n ≤ L.length → ∀ k, n ≤ k → at' r.1 k = at' L k) (fun _ _ _ _ _ _ => rfl) (fun _ _ _ _ _ _ _ _ _ => rfl)
    (fun L i j h hj _ ih hn k hk => by
      obtain ⟨h1, h2, h3⟩ := child_lt h hj
      rw [ih (by rw [length_swp]; exact hn) k hk, at_swp (by omega) (by omega), if_neg (by omega), if_neg (by omega)]) L i hn

def Heap (L : List Ent) (n : Nat) : Prop := ∀ c, 0 < c → c < n → leE (at' L ((c - 1) / 2)) (at' L c)

theorem heap_downL (L : List Ent) (n i : Nat) (hn : n ≤ L.length) (H1 : ∀ c, 0 < c → c < n → (c - 1) / 2 ≠ i → c ≠ i → leE (at' L ((c - 1) / 2)) (at' L c))
    (H2 : ∀ c, 0 < c → c < n → (c - 1) / 2 = i → 0 < i → leE (at' L ((i - 1) / 2)) (at' L c)) :
    ((downL L n i).2 = i ∧ (downL L n i).1 = L ∧ ∀ c, 0 < c → c < n → (c - 1) / 2 = i → leE (at' L i) (at' L c)) ∨ (i < (downL L n i).2 ∧ Heap (downL L n i).1 n) := by
  refine downL_ind (n := n) (P := fun L i r => n ≤ L.length → (∀ c, 0 < c → c < n → (c - 1) / 2 ≠ i → c ≠ i → leE (at' L ((c - 1) / 2)) (at' L c)) → (∀ c, 0 < c → c < n → (c - 1) / 2 = i → 0 < i → leE (at' L ((i - 1) / 2)) (at' L c)) →
    (r.2 = i ∧ r.1 = L ∧ ∀ c, 0 < c → c < n → (c - 1) / 2 = i → leE (at' L i) (at' L c)) ∨ (i < r.2 ∧ Heap r.1 n)) ?_ ?_ ?_ L i hn H1 H2
  · intro L i h hn H1 H2
    exact .inl ⟨rfl, rfl, fun c h0 hc hp => by omega⟩
  · intro L i j h hj hl hn H1 H2
    obtain ⟨h1, h2, h3⟩ := child_lt h hj
    refine .inl ⟨rfl, rfl, fun c h0 hc hp => ?_⟩
    have hji : leE (at' L i) (at' L j) := by rw [lessAt_at (by omega) (by omega)] at hl; exact hl
    -- c is a child of i: j is the smaller one
    have hcc : c = 2 * i + 1 ∨ c = 2 * i + 2 := by omega
    refine hji.trans ?_
    by_cases hb : (decide (2 * i + 2 < n) && lessAt L (2 * i + 2) (2 * i + 1)) = true
    · rw [if_pos hb] at hj
      subst hj
      simp at hb
      rw [lessAt_at (by omega) (by omega)] at hb
      rcases hcc with rfl | rfl
      · exact leE_of_less hb.2
      · exact leE.refl _
    · rw [if_neg hb] at hj
      subst hj
      simp at hb
      rcases hcc with rfl | rfl
      · exact leE.refl _
      · have := hb (by omega)
        rw [lessAt_at (by omega) (by omega)] at this
        exact this
  · intro L i j h hj hl ih hn H1 H2
    obtain ⟨h1, h2, h3⟩ := child_lt h hj
    have hlt : lessE (at' L j) (at' L i) = true := by rw [lessAt_at (by omega) (by omega)] at hl; exact hl
    have hsw : ∀ k, at' (swp L i j) k = if k = j then at' L i else if k = i then at' L j else at' L k := at_swp (by omega) (by omega)
    have hmin : ∀ c, 0 < c → c < n → (c - 1) / 2 = i → leE (at' L j) (at' L c) := by
      intro c h0 hc hp
      have hcc : c = 2 * i + 1 ∨ c = 2 * i + 2 := by omega
      by_cases hb : (decide (2 * i + 2 < n) && lessAt L (2 * i + 2) (2 * i + 1)) = true
      · rw [if_pos hb] at hj
        subst hj
        simp at hb
        rw [lessAt_at (by omega) (by omega)] at hb
        rcases hcc with rfl | rfl
        · exact leE_of_less hb.2
        · exact leE.refl _
      · rw [if_neg hb] at hj
        subst hj
        simp at hb
        rcases hcc with rfl | rfl
        · exact leE.refl _
        · have := hb (by omega)
          rw [lessAt_at (by omega) (by omega)] at this
          exact this
    have hall : ∀ c, 0 < c → c < n → (c - 1) / 2 ≠ j → c ≠ j → leE (at' (swp L i j) ((c - 1) / 2)) (at' (swp L i j) c) := by
      intro c h0 hc hp hcj
      rw [hsw, hsw, if_neg hp, if_neg hcj]
      by_cases hpi : (c - 1) / 2 = i
      · rw [if_pos hpi, if_neg (by omega)]
        exact hmin c h0 hc hpi
      · rw [if_neg hpi]
        by_cases hci : c = i
        · subst hci
          rw [if_pos rfl]
          exact H2 j (by omega) h1 h3 h0
        · rw [if_neg hci]
          exact H1 c h0 hc hpi hci
    have hih := ih (by rw [length_swp]; exact hn) hall (by
      intro c h0 hc hp hj0
      rw [hsw, hsw, if_neg (by omega), if_pos h3, if_neg (by omega), if_neg (by omega)]
      have := H1 c h0 hc (by omega) (by omega)
      rw [hp] at this
      exact this)
    rcases hih with ⟨e1, e2, e3⟩ | ⟨e1, e2⟩
    · refine .inr ⟨by omega, ?_⟩
      rw [e2]
      intro c h0 hc
      by_cases hp : (c - 1) / 2 = j
      · rw [hp]; exact e3 c h0 hc hp
      · by_cases hcj : c = j
        · subst hcj
          rw [h3, hsw, hsw, if_neg (by omega), if_pos rfl, if_pos rfl]
          exact leE_of_less hlt
        · exact hall c h0 hc hp hcj
    · exact .inr ⟨by omega, e2⟩

theorem heap_upL (L : List Ent) (n j : Nat) (hn : n ≤ L.length) (hj : j < n) (H1 : ∀ c, 0 < c → c < n → c ≠ j → leE (at' L ((c - 1) / 2)) (at' L c))
    (H2 : ∀ c, 0 < c → c < n → (c - 1) / 2 = j → 0 < j → leE (at' L ((j - 1) / 2)) (at' L c)) : Heap (upL L j) n := by
  induction j using Nat.strongRecOn generalizing L with
  | _ j ih =>
    rw [upL]
    split
    · rename_i h0; subst h0; intro c hc hcn; exact H1 c hc hcn (by omega)
    · rename_i h0
      have hlt : (j - 1) / 2 < L.length := by omega
      cases hl : lessAt L j ((j - 1) / 2)
      · simp only [Bool.false_eq_true, if_false]
        rw [lessAt_at (by omega) hlt] at hl
        intro c hc hcn
        by_cases e : c = j
        · subst e; exact hl
        · exact H1 c hc hcn e
      · simp only [if_true]
        rw [lessAt_at (by omega) hlt] at hl
        have hsw : ∀ k, at' (swp L ((j - 1) / 2) j) k = if k = j then at' L ((j - 1) / 2) else if k = (j - 1) / 2 then at' L j else at' L k := at_swp hlt (by omega)
        generalize hi : (j - 1) / 2 = i at *
        refine ih i (by omega) _ (by rw [length_swp]; exact hn) (by omega) ?_ ?_
        · intro c hc hcn hci
          rw [hsw, hsw]
          by_cases hcj : c = j
          · subst hcj
            rw [if_pos rfl, hi, if_neg (by omega), if_pos rfl]
            exact leE_of_less hl
          · rw [if_neg hcj, if_neg hci]
            by_cases hpj : (c - 1) / 2 = j
            · rw [if_pos hpj]; exact H2 c hc hcn hpj (by omega)
            · rw [if_neg hpj]
              by_cases hpi : (c - 1) / 2 = i
              · rw [if_pos hpi]
                have := H1 c hc hcn hcj
                rw [hpi] at this
                exact (leE_of_less hl).trans this
              · rw [if_neg hpi]; exact H1 c hc hcn hcj
        · intro c hc hcn hci hi0
          rw [hsw, hsw, if_neg (by omega), if_neg (by omega)]
          have hpi := H1 i hi0 (by omega) (by omega)
          by_cases hcj : c = j
          · rw [if_pos hcj]; exact hpi
          · rw [if_neg hcj, if_neg (by omega)]
            have := H1 c hc hcn hcj
            rw [hci] at this
            exact hpi.trans this

theorem heap_min {L : List Ent} {n : Nat} (h : Heap L n) : ∀ i, i < n → leE (at' L 0) (at' L i) := by
  intro i
  induction i using Nat.strongRecOn with
  | _ i ih =>
    intro hi
    by_cases h0 : i = 0
    · subst h0; exact leE.refl _
    · exact (ih ((i - 1) / 2) (by omega) (by omega)).trans (h i (by omega) hi)

/-- The list without its last element, and that element. -/
theorem snoc_of {L : List Ent} {n : Nat} (h : L.length = n + 1) : L = L.take n ++ [at' L n] := by
  have : L.drop n = [at' L n] := by
    apply List.ext_getElem?
    intro i
    rw [List.getElem?_drop]
    cases i with
    | zero => simp [get_at (L := L) (i := n) (by omega)]
    | succ i => simp; omega
  rw [← this, List.take_append_drop]

theorem at_take {L : List Ent} {n i : Nat} (h : i < n) : at' (L.take n) i = at' L i := by simp [at', h]

theorem heap_take {L : List Ent} {n : Nat} (h : Heap L n) : Heap (L.take n) n := by
  intro c h0 hc; rw [at_take (by omega), at_take hc]; exact h c h0 hc

theorem popL_law {L : List Ent} {n : Nat} (hl : L.length = n + 1) (h : Heap L (n + 1)) :
    ∃ R, popL L = R ++ [at' L 0] ∧ R.length = n ∧ Heap R n ∧ (R ++ [at' L 0]).Perm L := by
  have hlen : (popL L).length = n + 1 := by rw [length_popL]; exact hl
  have hp : (popL L).Perm L := (perm_downL _ _ _).trans (perm_swp _ _ _)
  have hsw : ∀ k, at' (swp L 0 n) k = if k = n then at' L 0 else if k = 0 then at' L n else at' L k := at_swp (by omega) (by omega)
  have e0 : popL L = (downL (swp L 0 n) n 0).1 := by unfold popL; rw [hl]; rfl
  have hlast : at' (popL L) n = at' L 0 := by
    rw [e0, downL_beyond _ _ _ (by rw [length_swp]; omega) n (Nat.le_refl _), hsw, if_pos rfl]
  have hs := snoc_of hlen
  rw [hlast] at hs
  refine ⟨(popL L).take n, hs, by rw [List.length_take, hlen]; omega, heap_take ?_, by rw [← hs]; exact hp⟩
  have hd := heap_downL (swp L 0 n) n 0 (by rw [length_swp]; omega) (by
    intro c h0 hc hpc hc0
    rw [hsw, hsw, if_neg (by omega), if_neg hpc, if_neg (by omega), if_neg hc0]
    exact h c h0 (by omega)) (by intro c _ _ _ h; omega)
  rw [e0]
  rcases hd with ⟨d1, d2, d3⟩ | ⟨d1, d2⟩
  · rw [d2]
    intro c h0 hc
    by_cases hpc : (c - 1) / 2 = 0
    · rw [hpc]; exact d3 c h0 hc hpc
    · rw [hsw, hsw, if_neg (by omega), if_neg hpc, if_neg (by omega), if_neg (by omega)]
      exact h c h0 (by omega)
  · exact d2

theorem fixL_law {L : List Ent} {i : Nat} {e : Ent} (hi : i < L.length) (h : Heap L L.length) : Heap (fixL (L.set i e) i) L.length ∧ (fixL (L.set i e) i).Perm (L.set i e) := by
  have hat : ∀ k, k ≠ i → at' (L.set i e) k = at' L k := by
    intro k hk; simp only [at', List.getD, List.getElem?_set]; rw [if_neg (fun e => hk e.symm)]
  have hl : (L.set i e).length = L.length := by simp
  unfold fixL
  rw [hl]
  have hd := heap_downL (L.set i e) L.length i (by omega) (by
    intro c h0 hc hp hci
    rw [hat _ hp, hat _ hci]; exact h c h0 hc) (by
    intro c h0 hc hp hi0
    rw [hat _ (by omega), hat _ (by omega)]
    have a := h c h0 hc
    rw [hp] at a
    exact (h i hi0 hi).trans a)
  rcases hd with ⟨d1, d2, d3⟩ | ⟨d1, d2⟩
  · rw [if_neg (by omega), d2]
    refine ⟨heap_upL _ _ i (by omega) hi ?_ ?_, perm_upL _ _⟩
    · intro c h0 hc hci
      by_cases hp : (c - 1) / 2 = i
      · rw [hp]; exact d3 c h0 hc hp
      · rw [hat _ hp, hat _ hci]; exact h c h0 hc
    · intro c h0 hc hp hi0
      rw [hat _ (by omega), hat _ (by omega)]
      have a := h c h0 hc
      rw [hp] at a
      exact (h i hi0 hi).trans a
  · rw [if_pos d1]
    exact ⟨d2, perm_downL _ _ _⟩

theorem push_law {L : List Ent} {e : Ent} (h : Heap L L.length) : Heap (upL (L ++ [e]) L.length) (L.length + 1) ∧ (upL (L ++ [e]) L.length).Perm (L ++ [e]) := by
  have hat : ∀ k, k < L.length → at' (L ++ [e]) k = at' L k := by
    intro k hk; simp [at', List.getElem?_append_left hk]
  refine ⟨heap_upL _ _ _ (by simp) (by omega) ?_ ?_, perm_upL _ _⟩
  · intro c h0 hc hcl
    rw [hat _ (by omega), hat _ (by omega)]; exact h c h0 (by omega)
  · intro c h0 hc hp; omega

end Go.Proofs.YtdokakhgflljgaaGreat.U
