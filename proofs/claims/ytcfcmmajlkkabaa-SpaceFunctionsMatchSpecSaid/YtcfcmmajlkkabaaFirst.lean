/- breadth.First: the tree of a breadth-first search. -/
import Derived.Test.YtcfcmmajlkkabaaSteps
import Derived.Test.YtcfcmmajlkkabaaKitA
import Derived.Test.YtcfcmmajlkkabaaSort
import Derived.Test.YtcfcmmajlkkabaaTail
import Derived.Test.YtcfcmmajlkkabaaPath
import Derived.Test.YtcfcmmajlkkabaaAll
namespace Go.Proofs.Ytcfcmmajlkkabaa
open Go.RowKit Go.Shelf
attribute [local go_sem] Oper.semAt_some

/-- What First knows between two steps. -/
structure FirS (w0 : World) (b1 b2 b3 : Nat) (T : List Ent) (q : List Nat) (vl : Value) (W : World) : Prop where
  keep : Keeps (fun _ => False) w0 W
  x1 : Boxed W b1 85 vl
  x3 : Boxed W b3 138 (.map (some b2))
  line : Tail W w0.heap.size 90 vl (q.map encW)
  map : IMap W b2 .u32 (parL T)
  l1 : w0.heap.size ≤ b1
  l2 : w0.heap.size ≤ b2
  l3 : w0.heap.size ≤ b3

section
variable {w0 : World} {b1 b2 b3 : Nat} {T : List Ent} {q : List Nat} {vl : Value} {W : World}
theorem FirS.by {W' : World} {S : Nat → Prop} (h : FirS w0 b1 b2 b3 T q vl W) (hk : Keeps S W W') (s1 : ¬ S b1) (s2 : ¬ S b2) (s3 : ¬ S b3) (ss : ∀ k, vl.ownBlock = some k → ¬ S k) (hS : ∀ k, S k → w0.heap.size ≤ k) : FirS w0 b1 b2 b3 T q vl W' :=
  ⟨h.keep.trans' hk (fun i hi => .inr (hS i hi)), hk.heap h.x1 s1, hk.heap h.x3 s3, h.line.keeps hk ss, h.map.keeps hk s2, h.l1, h.l2, h.l3⟩
theorem FirS.keeps0 {W' : World} (h : FirS w0 b1 b2 b3 T q vl W) (hk : Keeps (fun _ => False) W W') : FirS w0 b1 b2 b3 T q vl W' :=
  h.by hk (fun h => h) (fun h => h) (fun h => h) (fun _ _ h => h) (fun _ h => h.elim)
theorem FirS.row1 (h : FirS w0 b1 b2 b3 T q vl W) : vl.ownBlock ≠ some b1 := h.line.not_box h.x1 (by decide)
theorem FirS.row3 (h : FirS w0 b1 b2 b3 T q vl W) : vl.ownBlock ≠ some b3 := h.line.not_box h.x3 (by decide)
theorem FirS.row2 (h : FirS w0 b1 b2 b3 T q vl W) : vl.ownBlock ≠ some b2 := Tail.not_map h.map h.line
theorem FirS.box13 (h : FirS w0 b1 b2 b3 T q vl W) : b1 ≠ b3 := by
  rintro rfl
  have := (show W.heap[b1]? = _ from h.x1).symm.trans h.x3
  simp at this
theorem FirS.steady {W' : World} {row : Option Nat} {B : Nat} (h : FirS w0 b1 b2 b3 T q vl W) (hg : W.grownBy W' row) (hr : ∀ r, row = some r → B ≤ r ∧ ∃ o : Obj, W.heap[r]? = some o ∧ o.isCells = false) (hB : w0.heap.size ≤ B) (hb2 : b2 < B) : FirS w0 b1 b2 b3 T q vl W' :=
  ⟨steady_keeps0 hg (fun r e => (hr r e).1) hB h.keep, steady_heap hg (fun r e => (hr r e).2) h.x1, steady_heap hg (fun r e => (hr r e).2) h.x3, h.line.steady hg (fun r e => (hr r e).2), steady_map hg (fun r e => (hr r e).1) hb2 h.map, h.l1, h.l2, h.l3⟩

/-- The first of the line is taken. -/
theorem FirS.pop {g off n cap x : Nat} (h : FirS w0 b1 b2 b3 T (x :: q) (.slice (some ⟨g, off, none⟩) (n + 1) cap) W) (hn : q.length = n) :
    FirS w0 b1 b2 b3 T q (.slice (some (cutAt g off cap)) n (cap - 1)) (W.setCell ⟨b1, 0, none⟩ (.slice (some (cutAt g off cap)) n (cap - 1))) := by
  have hk : Keeps (fun b => b = b1) W (W.setCell ⟨b1, 0, none⟩ (.slice (some (cutAt g off cap)) n (cap - 1))) := (Keeps.refl (fun b => b = b1) W).setCell (p := ⟨b1, 0, none⟩) (.inl rfl) _
  have hl := h.line
  rw [List.map_cons] at hl
  refine ⟨h.keep.trans' hk (fun i hi => .inr (by subst hi; exact h.l1)), h.x1.set _, hk.heap h.x3 (fun e => h.box13 e.symm), ?_, h.map.keeps hk (box_not_map h.map h.x1), h.l1, h.l2, h.l3⟩
  refine (hl.cut (by simpa using hn)).keeps hk (fun k hk' e => ?_)
  subst e
  simp [Value.ownBlock, cutAt_block] at hk'
  exact h.row1 (by simp [Value.ownBlock, hk'])

/-- One more is put in the line. -/
theorem FirS.push {W3 : World} {o : Obj} {gg off m cap x : Nat} (h : FirS w0 b1 b2 b3 T q vl W) (hown : Tail W3 w0.heap.size 90 (.slice (some ⟨gg, off, none⟩) m cap) (q.map encW ++ [encW x]))
    (hg : (W.alloc o).grownBy W3 vl.ownBlock) (hat : vl.ownBlock = some gg ∨ gg = W.heap.size + 1) : FirS w0 b1 b2 b3 T (q ++ [x]) (.slice (some ⟨gg, off, none⟩) m cap) (W3.setCell ⟨b1, 0, none⟩ (.slice (some ⟨gg, off, none⟩) m cap)) := by
  have h' := h.keeps0 ((Keeps.refl (fun _ => False) W).alloc o)
  have hk1 : Keeps (fun b => vl.ownBlock = some b) (W.alloc o) W3 := (Keeps.refl _ _).grown hg (fun k hk => .inl hk)
  have hx1 : Boxed W3 b1 85 vl := hk1.heap h'.x1 h.row1
  have hk2 : Keeps (fun b => b = b1) W3 (W3.setCell ⟨b1, 0, none⟩ (.slice (some ⟨gg, off, none⟩) m cap)) := (Keeps.refl (fun b => b = b1) W3).setCell (p := ⟨b1, 0, none⟩) (.inl rfl) _
  have hgb : gg ≠ b1 := by
    rcases hat with e | e
    · intro e'; exact h.row1 (by rw [e, e'])
    · have := h.x1.lt; omega
  refine ⟨(h'.keep.trans' hk1 (fun i e => .inr (h.line.lt i e).1)).trans' hk2 (fun i e => .inr (by subst e; exact h.l1)), hx1.set _, hk2.heap (hk1.heap h'.x3 h.row3) (fun e => h.box13 e.symm), ?_, (h'.map.keeps hk1 h.row2).keeps hk2 (box_not_map h.map h.x1), h.l1, h.l2, h.l3⟩
  rw [List.map_append]
  exact hown.keeps hk2 (fun k hk' e => by simp [Value.ownBlock] at hk'; omega)

/-- One more is seen. -/
theorem FirS.see {W' : World} {e : Ent} (h : FirS w0 b1 b2 b3 T q vl W) (hI : IMap W' b2 .u32 (parL T ++ [((e.to : Int), .agg #[.int .u32 (e.frm : Int), .int .i64 (e.op : Int)])])) (hk : Keeps (fun k => k = b2) W W') : FirS w0 b1 b2 b3 (T ++ [e]) q vl W' :=
  ⟨h.keep.trans' hk (fun i e => .inr (by subst e; exact h.l2)), hk.heap h.x1 (fun e => box_not_map h.map h.x1 e.symm), hk.heap h.x3 (fun e => box_not_map h.map h.x3 e.symm), h.line.keeps hk (fun k hk' e => by subst e; exact h.row2 hk'),
    by simpa [parL] using hI, h.l1, h.l2, h.l3⟩
end

structure FirLoop (ops : List Wop) (st : Nat) (acc : Nat → Bool) (w0 : World) (b1 b2 b3 i : Nat) (q : List Nat) (vl : Value) (ds : List Deferred) (W : World) : Prop where
  s : FirS w0 b1 b2 b3 (tree ops st i) q vl W
  q : q = (keysT (tree ops st i)).drop i
  no : ∀ (j : Nat) f, j < i → (tree ops st i)[j]? = some f → acc f.to = false
  marks : Marks ds W w0.heap.size

/-- Within the loop over the steps of e, when the steps l have come. -/
def FirI (w0 : World) (b1 b2 b3 : Nat) (T : List Ent) (q : List Nat) (e : Ent) (ds : List Deferred) (Bs Bx : Nat) (l : List Stp) (W : World) : Prop :=
  ∃ vl, FirS w0 b1 b2 b3 (T ++ frs e (keysT T) l) (q ++ keysT (frs e (keysT T) l)) vl W ∧ Marks ds W w0.heap.size ∧ W.heap[Bs]? = some (.cells #[.int .u32 (e.to : Int)] 90 (0, 0)) ∧ W.heap[Bx]? = some (.cells #[.int .u32 (e.to : Int)] 90 (0, 0)) ∧ (∀ k, vl.ownBlock = some k → k ≠ Bs) ∧ (∀ k, vl.ownBlock = some k → k ≠ Bx)

def mapLen (W : World) (b : Nat) : Nat := match W.heap[b]? with
  | some (.map es _) => es.size
  | _ => 0
def boxLen (W : World) (b : Nat) : Nat := match W.cell? ⟨b, 0, none⟩ with
  | some v => sliceLen v
  | _ => 0

/-- What First hands back. -/
def FirstPost (ops : List Wop) (st : Nat) (acc : Nat → Bool) (w : World) (e : Ending) (w' : World) : Prop := Keeps (fun _ => False) w w' ∧
  ((Best ops st acc none ∧ e = .returned (.tuple #[.slice none 0 0, .bool false])) ∨
   (∃ p, Best ops st acc (some p) ∧ ∃ v', e = .returned (.tuple #[v', .bool true]) ∧ w'.ownsRow w.heap.size 3 1 v' p.length ((intsP p).map (Value.int .i64))))

theorem reach_small {ops : List Wop} (hops : WopsOk ops) {st : Nat} (hst : st < 4294967296) {x : Nat} (h : Reach ops st x) : x < 4294967296 := by
  induction h with
  | refl => exact hst
  | step _ hy ih =>
    unfold nexts at hy
    obtain ⟨o, ho, rfl⟩ := List.mem_map.1 hy
    have ho' := List.mem_filter.1 ho
    exact next_lt ih (hops o ho'.1).2.1

/-- What a function value must do to be asked by First. -/
structure Asked (w0 : World) (g : Nat) (pa cb : Array Value) (acc : Nat → Bool) : Prop where
  enters : ∀ args w, (callFunc g args).run Try.prog w = .ok (.enter g args) w
  answers : ∀ (W : World) (x : Nat), Keeps (fun _ => False) w0 W → x < 4294967296 → Calls Try.prog g (pa.push (.int .u32 (x : Int)) ++ cb) W fun e W' => e = .returned (.bool (acc x)) ∧ ∃ n, W' = W.drewN n

theorem keysT_append (A B : List Ent) : keysT (A ++ B) = keysT A ++ keysT B := by simp [keysT]
theorem keysT_length (A : List Ent) : (keysT A).length = A.length := by simp [keysT]

theorem FirS.count {w0 : World} {b1 b2 b3 : Nat} {T : List Ent} {q : List Nat} {vl : Value} {W : World} (h : FirS w0 b1 b2 b3 T q vl W) : mapLen W b2 = T.length ∧ boxLen W b1 = q.length := by
  obtain ⟨es, c, h1, h2⟩ := h.map.length
  obtain ⟨g, off, cap, hv, _⟩ := h.line.form
  constructor
  · unfold mapLen; rw [h1]; simp only; rw [h2]; simp [parL]
  · unfold boxLen; rw [h.x1.cell]; simp only; rw [hv]; simp [sliceLen]

set_option maxRecDepth 100000 in
set_option maxHeartbeats 4000000 in
theorem first_in (w : World) (b st g0 base : Nat) (v : Value) (ops : List Wop) (hw : WordsAt w base b st g0 v ops) (hops : WopsOk ops) (hmany : ops.length ≤ 40) (hst : st < 4294967296) (l : List Nat) (hl : reached ops st = some l)
    (ga : Nat) (pa cb : Array Value) (acc : Nat → Bool) (hask : Asked w ga pa cb acc) :
    CallsIn Fence.wide 9 Try.prog 59 #[.iface 84 (.pointer (some ⟨b, 0, none⟩)), .func (.func ga) pa cb] w (FirstPost ops st acc w) := by
  have HW := Lib.hid hw; have HL0 := Lib.hid hl; have HASK := Lib.hid hask
  have hmm := @run_makeMap Try.prog
  have mS := method_Start ⟨b, 0, none⟩
  have mT := method_Steps ⟨b, 0, none⟩
  have eg := hask.enters
  clear hw hl hask
  refine callsIn_of_wp_marks Try.func59 rfl trivial ?_ rfl
  simp only [Try.ntmps59, List.size_toArray, List.length_cons, List.length_nil, Nat.reduceAdd, Nat.reduceSub, Array.replicate_succ, Array.replicate_zero, List.push_toArray, List.append_toArray, List.nil_append, List.cons_append]
  gi_wp2
  refine ⟨trivial, ?_⟩
  refine (callsIn_wide.2 (start_any _ _ _ _ _ _ _ HW.out)).mono ?_; rintro e w1 ⟨rfl, rfl⟩
  have hm0 : IMap (w.alloc (.map #[] 0)) w.heap.size .u32 [] := IMap.made w .u32
  obtain ⟨W4, hrun, hI4, hk4⟩ := hm0.run_update_new (P := Try.prog) Try.underlying138 Try.underlying90 (x := (st : Int)) (by simp) (.agg #[.int .u32 (st : Int), .int .i64 0])
  gi_wp2
  have hS : FirS w (W4.heap.size + 1 + 1) w.heap.size W4.heap.size (tree ops st 0) [st] (.slice (some ⟨W4.heap.size + 1, 0, none⟩) 1 1) (((W4.alloc (.cells #[.map (some w.heap.size)] 138)).alloc (.cells #[.int .u32 (st : Int)] 90)).alloc (.cells #[.slice (some ⟨W4.heap.size + 1, 0, none⟩) 1 1] 85)) := by
    have hsz : w.heap.size + 1 ≤ W4.heap.size := by have := hk4.size; simpa using this
    have k0 : Keeps (fun _ => False) w W4 := ((Keeps.refl (fun _ => False) w).alloc (.map #[] 0)).trans' hk4 (fun i e => .inr (by omega))
    have kA := (Keeps.refl (fun _ => False) W4).alloc (.cells #[.map (some w.heap.size)] 138)
    have kB := (Keeps.refl (fun _ => False) (W4.alloc (.cells #[.map (some w.heap.size)] 138))).alloc (.cells #[.int .u32 (st : Int)] 90)
    have kC := (Keeps.refl (fun _ => False) ((W4.alloc (.cells #[.map (some w.heap.size)] 138)).alloc (.cells #[.int .u32 (st : Int)] 90))).alloc (.cells #[.slice (some ⟨W4.heap.size + 1, 0, none⟩) 1 1] 85)
    have n1 := Boxed.new ((W4.alloc (.cells #[.map (some w.heap.size)] 138)).alloc (.cells #[.int .u32 (st : Int)] 90)) 85 (.slice (some ⟨W4.heap.size + 1, 0, none⟩) 1 1)
    rw [World.size_alloc, World.size_alloc] at n1
    have nl := Tail.new (W4.alloc (.cells #[.map (some w.heap.size)] 138)) w.heap.size 90 (.int .u32 (st : Int)) (by simp; omega)
    rw [World.size_alloc] at nl
    have n3 := Boxed.new W4 138 (.map (some w.heap.size))
    refine ⟨k0.trans (kA.trans (kB.trans kC)), n1, kC.heap (kB.heap n3 (fun h => h)) (fun h => h), nl.keeps kC (fun _ _ h => h), ?_, by omega, Nat.le_refl _, by omega⟩
    have h4 : IMap W4 w.heap.size .u32 (parL (tree ops st 0)) := by simpa [parL, tree] using hI4
    exact h4.keeps (kA.trans (kB.trans kC)) (fun h => h)
  have HS := Lib.hid hS
  clear hS hI4 hm0 hk4
  generalize (((W4.alloc (.cells #[.map (some w.heap.size)] 138)).alloc (.cells #[.int .u32 (st : Int)] 90)).alloc (.cells #[.slice (some ⟨W4.heap.size + 1, 0, none⟩) 1 1] 85)) = W5 at HS ⊢
  generalize W4.heap.size + 1 + 1 = b1 at HS ⊢
  generalize W4.heap.size + 1 = ba at HS ⊢
  generalize W4.heap.size = b3 at HS ⊢
  clear hrun
  obtain ⟨b2, hb2⟩ : ∃ b2, w.heap.size = b2 := ⟨_, rfl⟩
  have HSB : Hid (FirS w b1 b2 b3 (tree ops st 0) [st] (.slice (some ⟨ba, 0, none⟩) 1 1) W5) := by rw [← hb2]; exact HS
  clear HS hb2
  obtain ⟨i0, hi0, hz0, hz1, hz2⟩ := info_parts Try.info_u32
  refine wpIn_loop (fun a' wr => ∃ (ds : List Deferred) (u9 u10 u11 u12 u13 u14 u15 u16 u17 u18 u19 u20 u21 u22 u23 u24 u25 u26 u27 u28 u29 u30 u31 u32 u33 u34 u35 u36 u37 u38 u39 u40 u41 u42 u43 u44 u45 u46 u47 u48 u49 u50 u51 u52 u53 u54 u55 u56 u57 u58 u59 u60 u61 : Value) (i : Nat) (q : List Nat) (vl : Value), FirLoop ops st acc w b1 b2 b3 i q vl ds wr ∧ i ≤ (tree ops st i).length ∧
      a' = { tmps := #[.iface 84 (.pointer (some ⟨b, 0, none⟩)), .func (.func ga) pa cb, undef, undef, .slice none 0 0, .bool false, .int .u32 (st : Int), .pointer (some ⟨b3, 0, none⟩), .pointer (some ⟨b1, 0, none⟩), u9, u10, u11, u12, u13, u14, u15, u16, u17, u18, u19, u20, u21, u22, u23, u24, u25, u26, u27, u28, u29, u30, u31, u32, u33, u34, u35, u36, u37, u38, u39, u40, u41, u42, u43, u44, u45, u46, u47, u48, u49, u50, u51, u52, u53, u54, u55, u56, u57, u58, u59, u60, u61], defers := ds })
    (fun _ W => l.length + 1 - (mapLen W b2 - boxLen W b1)) ?start ?round
  case start => exact ⟨[], _, _, _, _, _, _, _, _, _, _, _, _, _, _, _, _, _, _, _, _, _, _, _, _, _, _, _, _, _, _, _, _, _, _, _, _, _, _, _, _, _, _, _, _, _, _, _, _, _, _, _, _, _, 0, [st], _, ⟨HSB.out, rfl, fun j f hj => by omega, Marks.nil _ _⟩, by simp, rfl⟩
  case round =>
    rintro a wr ⟨ds, u9, u10, u11, u12, u13, u14, u15, u16, u17, u18, u19, u20, u21, u22, u23, u24, u25, u26, u27, u28, u29, u30, u31, u32, u33, u34, u35, u36, u37, u38, u39, u40, u41, u42, u43, u44, u45, u46, u47, u48, u49, u50, u51, u52, u53, u54, u55, u56, u57, u58, u59, u60, u61, i, q, vl, hL, hil, rfl⟩
    have HL := Lib.hid hL
    clear hL HSB
    have x1c := HL.out.s.x1.cell
    have x1f := HL.out.s.x1.frozen
    have x3c := HL.out.s.x3.cell
    have x1l := HL.out.s.x1.lt
    have x3l := HL.out.s.x3.lt
    obtain ⟨gl, off, cap, hv, hqc, hcm, hgb, hgl⟩ := HL.out.s.line.form
    subst hv
    rw [List.length_map] at *
    by_cases hq : q = []
    · subst hq
      gi_wp2
      refine leaves_marks HL.out.marks (fun W' hk => ?_)
      have hlen : (tree ops st i).length ≤ i := by
        have h := congrArg List.length HL.out.q
        unfold keysT at h
        simp at h; omega
      have HN := HL.out.no
      refine ⟨.tuple #[.slice none 0 0, .bool false], by simp [results, Try.results59, go_sem], HL.out.s.keep.trans' hk (fun i hi => .inr hi.1), .inl ⟨tree_none hlen (fun f hf => ?_), rfl⟩⟩
      obtain ⟨j, hj⟩ := List.mem_iff_getElem?.1 hf
      exact HN j f (by have := (List.getElem?_eq_some_iff.1 hj).1; omega) hj
    · obtain ⟨x, q', rfl⟩ : ∃ x q', q = x :: q' := by
        cases q with
        | nil => exact absurd rfl hq
        | cons x q' => exact ⟨x, q', rfl⟩
      rw [List.length_cons] at *
      have hq0 := HL.out.q
      obtain ⟨e, hTi, hex⟩ : ∃ e, (tree ops st i)[i]? = some e ∧ e.to = x := by
        have h := congrArg (fun l : List Nat => l[0]?) hq0
        simp only [List.getElem?_cons_zero, List.getElem?_drop, Nat.add_zero] at h
        unfold keysT at h
        rw [List.getElem?_map] at h
        cases hT : (tree ops st i)[i]? with
        | none => rw [hT] at h; cases h
        | some e => rw [hT] at h; exact ⟨e, rfl, by simpa using h.symm⟩
      subst hex
      have hqq : q' = (keysT (tree ops st i)).drop (i + 1) := by
        have h := congrArg (List.drop 1) hq0
        rw [List.drop_drop] at h
        simpa using h
      have htl : i < (tree ops st i).length := (List.getElem?_eq_some_iff.1 hTi).1
      have hok := tree_ok ops st i
      have hll := (reached_some HL0.out).2.1
      have htf := tree_few HL0.out i
      have hnext := tree_step hTi
      have hx32 : e.to < 4294967296 := reach_small hops hst (hok.reach e (List.mem_of_getElem? hTi))
      have hqlen : q'.length + (i + 1) = (tree ops st i).length := by rw [hqq, List.length_drop, keysT_length]; omega
      have hfound : acc e.to = true → Best ops st acc (some e.path) := fun ha => tree_found HL0.out hTi ha HL.out.no
      have hno := HL.out.no
      have hcount := HL.out.s.count
      have hcx := Tail.head (by have := HL.out.s.line; rw [List.map_cons] at this; exact this)
      unfold encW at hcx
      have hsz : w.heap.size ≤ wr.heap.size := HL.out.s.keep.size
      have hpop := HL.out.s.pop (n := q'.length) rfl
      have hmk := HL.out.marks
      have hkd : KeepsD wr (wr.setCell ⟨b1, 0, none⟩ (.slice (some (cutAt gl off cap)) q'.length (cap - 1))) :=
        KeepsD.of ((Keeps.refl (fun b => b = b1) wr).setCell (p := ⟨b1, 0, none⟩) (.inl rfl) _) (fun b hb => by subst hb; exact cells_not_deferred HL.out.s.x1)
      have hm2 := hmk.keeps hkd
      clear hq hkd
      generalize hT : tree ops st i = T at hTi hqq htl hok htf hnext hqlen hno hcount hpop hil
      have HTI := Lib.hid hTi; have HQQ := Lib.hid hqq; have HOK := Lib.hid hok; have HNX := Lib.hid hnext; have HFO := Lib.hid hfound; have HNO := Lib.hid hno; have HCO := Lib.hid hcount; have HMK := Lib.hid hmk; have HTE := Lib.hid hT
      have HTF := Lib.hid (Nat.le_trans htf hll); have HTL := Lib.hid htf; have HIT := Lib.hid htl; have HQL := Lib.hid hqlen
      clear hTi hqq hok hnext hfound hno hcount hmk hT htf hll htl hqlen hq0 HL hil
      rcases (Classical.em (cap = 1)) with hc1 | hc1
      case' inl =>
        rw [show cutAt gl off cap = ⟨gl, off, none⟩ by simp [cutAt, hc1], show cap - 1 = 0 by omega] at hpop hm2
        have hz : q'.length = 0 := by omega
        rw [hz] at hpop hm2
        have HP := Lib.hid hpop; have HM := Lib.hid hm2
        clear hpop hm2
        subst hc1
        gi_wp2
        generalize (Value.slice (some ⟨gl, off, none⟩) 1 1) = vo
        generalize (Value.slice (some ⟨gl, off, none⟩) 0 0) = vc at HP HM ⊢
        generalize (Value.int .i64 1) = v23
      case' inr =>
        rw [show cutAt gl off cap = ⟨gl, off + 1, none⟩ by simp [cutAt, hc1]] at hpop hm2
        have HP := Lib.hid hpop; have HM := Lib.hid hm2
        clear hpop hm2
        gi_wp2
        generalize (Value.slice (some ⟨gl, off, none⟩) (q'.length + 1) cap) = vo
        generalize (Value.slice (some ⟨gl, off + 1, none⟩) q'.length (cap - 1)) = vc at HP HM ⊢
        generalize (Value.int .i64 ((q'.length : Int) + 1)) = v23
      all_goals
        have hkz : (wr.setCell ⟨b1, 0, none⟩ vc).heap.size = wr.heap.size := by simp
        generalize wr.setCell ⟨b1, 0, none⟩ vc = W2 at HP HM hkz ⊢
        rw [← hkz] at hsz ⊢
        have HB9 := Lib.hid (heap_alloc_new W2 (.cells #[.int .u32 (e.to : Int)] 90))
        have HPA := Lib.hid (HP.out.keeps0 ((Keeps.refl (fun _ => False) W2).alloc (.cells #[.int .u32 (e.to : Int)] 90)))
        have HMA := Lib.hid (HM.out.keeps (KeepsD.of0 ((Keeps.refl (fun _ => False) W2).alloc (.cells #[.int .u32 (e.to : Int)] 90))))
        have hv9 : ∀ k, vc.ownBlock = some k → k ≠ W2.heap.size := fun k hk => by have := (HP.out.line.lt k hk).2; omega
        have HV9 := Lib.hid hv9
        have hb9l : W2.heap.size < (W2.alloc (.cells #[.int .u32 (e.to : Int)] 90)).heap.size := by simp
        have hb9w : w.heap.size ≤ W2.heap.size := hsz
        clear hv9 hkz HP HM hsz
        generalize (W2.alloc (.cells #[.int .u32 (e.to : Int)] 90)) = W3 at HB9 HPA HMA hb9l ⊢
        generalize W2.heap.size = b9 at HB9 HV9 hb9l hb9w ⊢
        refine ⟨trivial, ?_⟩
        refine (callsIn_wide.2 (HASK.out.answers W3 e.to HPA.out.keep hx32)).mono ?_; rintro en W4' ⟨rfl, nq, rfl⟩
        have kq := (Keeps.refl (fun _ => False) W3).drewN nq
        have hb9q : b9 < (W3.drewN nq).heap.size := hb9l
        have HB9q := Lib.hid (kq.heap HB9.out (fun h => h))
        have HPq := Lib.hid (HPA.out.keeps0 kq)
        have HMq := Lib.hid (HMA.out.keeps (KeepsD.of0 kq))
        clear kq HB9 HPA HMA hb9l
        generalize W3.drewN nq = W4 at HB9q HPq HMq hb9q ⊢
        have x1c := HPq.out.x1.cell
        have x1f := HPq.out.x1.frozen
        have x3c := HPq.out.x3.cell
        have c9 : W4.cell? ⟨b9, 0, none⟩ = some (.int .u32 (e.to : Int)) := by rw [cell_of_blk HB9q.out]; rfl
        rcases hacc : acc e.to with _ | _
        case' true =>
          gi_wp2
          refine ⟨trivial, ?_⟩
          refine (callsIn_wide.2 (path_any W4 b2 ops st i T i e HOK.out HPq.out.map HTI.out (by have := HTF.out; omega))).mono ?_; rintro en w8 ⟨v8, rfl, hown8, hk8⟩
          gi_wp2
          refine leaves_marks (HMq.out.keeps (KeepsD.of0 hk8)) (fun W' hk => ?_)
          refine ⟨.tuple #[v8, .bool true], by simp [results, Try.results59, go_sem], (HPq.out.keep.trans hk8).trans' hk (fun i hi => .inr hi.1), .inr ⟨e.path, HFO.out hacc, v8, rfl, ?_⟩⟩
          exact ownsRow_mono (hk.ownsRow hown8 (fun k hk' hs => row_not_deferred hown8 k hk' hs.2)) HPq.out.keep.size
        case' false =>
          gi_wp2
          refine ⟨trivial, ?_⟩
          refine (callsIn_wide.2 (steps_any W4 b e.to)).mono ?_; rintro en w5 ⟨rfl, rfl⟩
          gi_wp2
          obtain ⟨W6, hW6⟩ : ∃ W6, ((W4.alloc (.cells #[.pointer (some ⟨b, 0, none⟩)] 84)).alloc (.cells #[.int .u32 (e.to : Int)] 90)) = W6 := ⟨_, rfl⟩
          have hz6 : W6.heap.size = W4.heap.size + 1 + 1 := by rw [← hW6]; simp
          have k6 : Keeps (fun _ => False) W4 W6 := by rw [← hW6]; exact ((Keeps.refl _ _).alloc _).alloc _
          have hBw : W6.cell? ⟨W4.heap.size, 0, none⟩ = some (.pointer (some ⟨b, 0, none⟩)) := by
            rw [← hW6]; exact ((Boxed.new W4 _ _).alloc _).cell
          have hBs : W6.heap[W4.heap.size + 1]? = some (.cells #[.int .u32 (e.to : Int)] 90 (0, 0)) := by
            rw [← hW6]
            have := heap_alloc_new (W4.alloc (.cells #[.pointer (some ⟨b, 0, none⟩)] 84)) (.cells #[.int .u32 (e.to : Int)] 90)
            rwa [World.size_alloc] at this
          have hBsc : W6.cell? ⟨W4.heap.size + 1, 0, none⟩ = some (.int .u32 (e.to : Int)) := by rw [cell_of_blk hBs]; rfl
          rw [hW6]
          have hlow4 : w.heap.size ≤ W4.heap.size := HPq.out.keep.size
          have HA6 := Lib.hid (HPq.out.keeps0 k6)
          have HM6 := Lib.hid (HMq.out.keeps (KeepsD.of0 k6))
          have HB96 := Lib.hid (k6.heap HB9q.out (fun h => h))
          have HWW := Lib.hid (show ∃ w0 : World, WordsAt w0 base b st g0 v ops ∧ w0.heap.size ≤ w.heap.size ∧ Below w.heap.size w0 W6 from ⟨w, HW.out, Nat.le_refl _, HA6.out.keep.below⟩)
          have hgrow0 : ∀ k, vc.ownBlock = some k → k ≠ W4.heap.size + 1 := fun k hk => by have := (HPq.out.line.lt k hk).2; omega
          have HG0 := Lib.hid hgrow0
          have HBS := Lib.hid hBs
          have HWL := Lib.hid (show (wsteps ops e.to).length ≤ 40 from Nat.le_trans (wsteps_le ops e.to) hmany)
          have hb6 : w.heap.size ≤ W6.heap.size := by omega
          have hb96 : b9 < W6.heap.size := by omega
          have hb26 : b2 < W6.heap.size := HA6.out.map.lt
          clear hgrow0 hBs x1c x1f x3c c9 HB9q HPq HMq
          refine wpIn_rangeFunc_ownH (α := StpOf ops e.to) rfl (by omega) (gf := 98) (lb := #[.pointer (some ⟨W4.heap.size, 0, none⟩), .pointer (some ⟨W4.heap.size + 1, 0, none⟩)]) rfl trivial (enters_of Try.func98 (by kernel_rfl) rfl)
            (steps_stops Fence.wide 8 trivial rfl (by omega) W4.heap.size (W4.heap.size + 1) w.heap.size base b st g0 e.to v ops hops (by omega) hx32 W6 (by omega) hBw hBsc (by omega) (by omega) HWW.out)
            KpS.trans (kpS_b (by omega) (by omega)) (Below.refl _ _) (fun _ => rfl)
            (fun pre W => FirI w b1 b2 b3 T q' e ds (W4.heap.size + 1) b9 (pre.map fun y => y.1) W)
            (fun _ _ _ => False) ?_ (fun _ _ _ _ _ hs _ _ => hs) ?_
            (fun (y : StpOf ops e.to) (a' : Act) (W : World) => ∃ Bx : Nat, W.heap[Bx]? = some (Obj.cells #[.int .i64 (y.1.op : Int), .int .i64 y.1.cost, .int .u32 (y.1.to : Int)] 113 (0, 0)) ∧ a' = { tmps := #[.iface 84 (.pointer (some ⟨b, 0, none⟩)), .func (.func ga) pa cb, undef, undef, .slice none 0 0, .bool false, .int .u32 (st : Int), .pointer (some ⟨b3, 0, none⟩), .pointer (some ⟨b1, 0, none⟩), .pointer (some ⟨b9, 0, none⟩), .pointer (some ⟨Bx, 0, none⟩), u11, u12, u13, u14, u15, u16, u17, u18, u19, u20, u21, vo, v23, .bool true, vo, .pointer (some ⟨gl, off, none⟩), .int .u32 (e.to : Int), vo, vc, .func (.func ga) pa cb, .int .u32 (e.to : Int), .bool false, u33, u34, u35, u36, .iface 84 (.pointer (some ⟨b, 0, none⟩)), .int .u32 (e.to : Int), .func (.func 98) #[] #[.pointer (some ⟨W4.heap.size, 0, none⟩), .pointer (some ⟨W4.heap.size + 1, 0, none⟩)], y.1.val, u41, u42, u43, u44, u45, u46, u47, u48, u49, u50, u51, u52, u53, u54, u55, u56, u57, u58, u59, u60, u61], defers := [] }) ?_ ?_ ?_ ?_ ?_
          · intro l W W' row hs hg hr
            obtain ⟨vl, h1, h2, h3, h4, h5⟩ := hs
            exact ⟨vl, h1.steady hg hr hb6 hb26, Marks.steady HM6.out h2 hg hr, steady_heap hg (fun r e => (hr r e).2) h3, steady_heap hg (fun r e => (hr r e).2) h4, h5⟩
          · exact ⟨vc, by simpa [frs, keysT] using HA6.out, HM6.out, HBS.out, HB96.out, HG0.out, HV9.out⟩
          · intro y a' _ W W' row hs hg hr
            obtain ⟨Bx, h1, h2⟩ := hs
            exact ⟨Bx, steady_heap hg (fun r e => (hr r e).2) h1, h2⟩
          · intro l pre y W K hi hK
            simp only [Stp.val]
            gi_wp2
            obtain ⟨vl, h1, h2, h3, h4, h5⟩ := hi
            refine hK _ _ ((KeepsOthers.alloc _ _).from _) ((KpS.refl _ _ W).alloc h1.keep.size (lt_of_heap h3) _) ⟨vl, h1.keeps0 ((Keeps.refl _ _).alloc _), h2.keeps (KeepsD.of0 ((Keeps.refl _ _).alloc _)), ((Keeps.refl (fun _ => False) W).alloc _).heap h3 (fun h => h), ((Keeps.refl (fun _ => False) W).alloc _).heap h4 (fun h => h), h5⟩ ⟨W.heap.size, heap_alloc_new W _, rfl⟩
          · rintro l pre y a' W hl - ⟨vl, h1, h2, h3, h4, h5, h6⟩ ⟨Bx, hBx, rfl⟩ hlt
            have x1c := h1.x1.cell
            have x1f := h1.x1.frozen
            have x3c := h1.x3.cell
            have c9 : W.cell? ⟨b9, 0, none⟩ = some (.int .u32 (e.to : Int)) := by rw [cell_of_blk h4]; rfl
            have y0 : W.cell? ⟨Bx, 0, none⟩ = some (.int .i64 (y.1.op : Int)) := by rw [cell_of_blk hBx]; rfl
            have y2 : W.cell? ⟨Bx, 2, none⟩ = some (.int .u32 (y.1.to : Int)) := by rw [cell_of_blk hBx]; rfl
            have hBxl := lt_of_heap hBx
            have l1 := h1.x1.lt
            have l3 := h1.x3.lt
            have l9 := lt_of_heap h4
            have hnd : (keysT (T ++ frs e (keysT T) (pre.map fun y => y.1))).Nodup := by
              rw [keysT_append, frs_keys]; exact nodup_freshs HOK.out.nodup
            have hsn := frs_snoc e (pre.map fun y => y.1) y.1 (keysT T)
            by_cases hm : y.1.to ∈ keysT T ++ keysT (frs e (keysT T) (pre.map fun y => y.1))
            · obtain ⟨f, hf, hfy⟩ : ∃ f ∈ T ++ frs e (keysT T) (pre.map fun y => y.1), f.to = y.1.to := by
                rw [← keysT_append] at hm
                obtain ⟨f, h1, h2⟩ := List.mem_map.1 hm
                exact ⟨f, h1, h2⟩
              have hlk := (h1.map.run_lookup_hit (P := Try.prog) Try.underlying138 Try.underlying90 (parL_nodup hnd) (parL_mem hf)).1
              rw [hfy] at hlk
              rw [if_pos hm, List.append_nil] at hsn
              have H1 := Lib.hid h1; have H2 := Lib.hid h2; have H3 := Lib.hid h3; have H4 := Lib.hid h4; have H5 := Lib.hid h5; have H6 := Lib.hid h6; have HSN := Lib.hid hsn
              clear h1 h2 h3 h4 h5 h6 hsn hm hnd hBx hf hfy
              gi_wp2
              refine ⟨(KeepsOthers.alloc _ _).from _, (KpS.refl _ _ W).alloc H1.out.keep.size (lt_of_heap H3.out) _, ⟨vl, ?_, H2.out.keeps (KeepsD.of0 ((Keeps.refl _ _).alloc _)), ((Keeps.refl (fun _ => False) W).alloc _).heap H3.out (fun h => h), ((Keeps.refl (fun _ => False) W).alloc _).heap H4.out (fun h => h), H5.out, H6.out⟩⟩
              have e1 : frs e (keysT T) ((pre ++ [y]).map fun y => y.1) = frs e (keysT T) (pre.map fun y => y.1) := by rw [List.map_append]; exact HSN.out
              rw [e1]
              exact H1.out.keeps0 ((Keeps.refl _ _).alloc _)
            · have kal := (Keeps.refl (fun _ => False) W).alloc (.cells #[.int .u32 0, .int .i64 0] 137)
              have hm2 : y.1.to ∉ keysT (T ++ frs e (keysT T) (pre.map fun y => y.1)) := by rw [keysT_append]; exact hm
              have hlk := ((h1.map).run_lookup_miss (P := Try.prog) Try.underlying138 Try.underlying90 (z := .agg #[.int .u32 0, .int .i64 0]) (by simp [Try.zeroValue137]) (parL_miss hm2)).1
              obtain ⟨W1, hrunU, hI1, hK1⟩ := ((h1.map.alloc (.cells #[.int .u32 0, .int .i64 0] 137))).run_update_new (P := Try.prog) Try.underlying138 Try.underlying90 (parL_miss hm2) (.agg #[.int .u32 (e.to : Int), .int .i64 (y.1.op : Int)])
              have hS1 := (h1.keeps0 kal).see (e := e.of y.1) hI1 hK1
              have hb2 := box_not_map h1.map h1.x1
              have hbx2 : Bx ≠ b2 := by rintro rfl; obtain ⟨es, c, hb, _⟩ := h1.map; rw [hBx] at hb; cases hb
              have hbs2 : W4.heap.size + 1 ≠ b2 := by rintro rfl; obtain ⟨es, c, hb, _⟩ := h1.map; rw [h3] at hb; cases hb
              have hb92 : b9 ≠ b2 := by rintro rfl; obtain ⟨es, c, hb, _⟩ := h1.map; rw [h4] at hb; cases hb
              have z1c := hS1.x1.cell
              have z1f := hS1.x1.frozen
              have z3c := hS1.x3.cell
              have y2' : W1.cell? ⟨Bx, 2, none⟩ = some (.int .u32 (y.1.to : Int)) := hK1.cell (kal.cell y2 (fun h => h)) hbx2
              have zs := hS1.x1.lt
              have zb := lt_of_heap (hK1.heap (kal.heap hBx (fun h => h)) hbx2)
              rw [if_neg hm] at hsn
              have hfl : (keysT (frs e (keysT T) (pre.map fun y => y.1))).length ≤ 40 := by
                rw [frs_keys]
                have e1 := freshs_le (seen := keysT T) (xs := (pre.map fun y => y.1).map Stp.to)
                rw [List.length_map, List.length_map] at e1
                have := HWL.out; omega
              obtain ⟨sk, hsk⟩ : ∃ sk, q' ++ keysT (frs e (keysT T) (pre.map fun y => y.1)) = sk := ⟨_, rfl⟩
              have hlen : sk.length ≤ 2040 := by
                have := HQL.out; have := HTF.out
                rw [← hsk, List.length_append]; omega
              rw [hsk] at hS1
              have HSK := Lib.hid hsk
              clear hsk
              have hlowW : w.heap.size ≤ W1.heap.size := hS1.keep.size
              have HROW := Lib.hid (hS1.line.keeps ((Keeps.refl (fun _ => False) W1).alloc (.cells #[.int .u32 (y.1.to : Int)] 90)) (fun _ _ h => h))
              have H1 := Lib.hid h1; have H2 := Lib.hid h2; have H3 := Lib.hid h3; have H4 := Lib.hid h4; have H5 := Lib.hid h5; have H6 := Lib.hid h6; have HSN := Lib.hid hsn; have HS1 := Lib.hid hS1; have HK1 := Lib.hid hK1; have HNB := Lib.hid hbs2; have HN9 := Lib.hid hb92; have HI1 := Lib.hid hI1
              clear h1 h2 h3 h4 h5 h6 hsn hm hm2 hnd hBx hS1 hK1 hI1 kal hb2 hbx2 hbs2 hb92 hfl
              gi_wp2_with (gi_at_builtin; refine wpListIn_append_tail _ rfl (.tmp 57) (.tmp 60) 85 rfl w.heap.size 90 i0 _ 4 Try.underlying85 hi0 hz0 hz1 hz2 rfl vl (sk.map encW) rfl HROW.out ⟨W1.heap.size, 0, none⟩ 1 (.int .u32 (y.1.to : Int)) rfl ?_ rfl sk.length (by simp) (by unfold maxLen; omega) (by omega) (by simp; omega) (W1.heap.size + 1) (by simp) ?_)
              · exact (Boxed.new W1 _ _).cell
              intro g4 off4 cap4 W2' hown2 hgrow2 hat2 hlt2
              have hbx1 : W2'.heap[b1]? = some (.cells #[vl] 85 (0, 0)) := ((Keeps.refl (fun b => vl.ownBlock = some b) _).grown hgrow2 (fun k hk => .inl hk)).heap (((Keeps.refl (fun _ => False) W1).alloc _).heap HS1.out.x1 (fun h => h)) HS1.out.row1
              have v1c : W2'.cell? ⟨b1, 0, none⟩ = some vl := (cell_of_blk hbx1).trans rfl
              have v1f : W2'.frozen? ⟨b1, 0, none⟩ = false := frozen_of_blk hbx1
              have v1l := lt_of_heap hbx1
              have HP2 := Lib.hid (HS1.out.push (x := y.1.to) hown2 hgrow2 hat2)
              have HX1 := Lib.hid hbx1
              have HG2 := Lib.hid hgrow2
              have HAT2 := Lib.hid hat2
              clear hown2 hgrow2 hat2 hlt2 hbx1
              gi_wp2
              have hk : Keeps (fun b => b = b2 ∨ b = b1 ∨ vl.ownBlock = some b) W (W2'.setCell ⟨b1, 0, none⟩ (.slice (some ⟨g4, off4, none⟩) (sk.length + 1) cap4)) := by
                have q1 : Keeps (fun b => b = b2 ∨ b = b1 ∨ vl.ownBlock = some b) W W1 := (((Keeps.refl (fun _ => False) W).alloc (.cells #[.int .u32 0, .int .i64 0] 137)).mono (fun _ _ h => h.elim)).trans (HK1.out.mono (fun _ _ h => .inl h))
                have q2 : Keeps (fun b => b = b2 ∨ b = b1 ∨ vl.ownBlock = some b) W1 W2' := (((Keeps.refl (fun _ => False) W1).alloc (.cells #[.int .u32 (y.1.to : Int)] 90)).mono (fun _ _ h => h.elim)).trans (((Keeps.refl (fun b => vl.ownBlock = some b) _).grown HG2.out (fun k hk => .inl hk)).mono (fun _ _ h => .inr (.inr h)))
                exact (q1.trans q2).trans ((Keeps.refl _ W2').setCell (p := ⟨b1, 0, none⟩) (.inl (.inr (.inl rfl))) _)
              have hS : ∀ b, b = b2 ∨ b = b1 ∨ vl.ownBlock = some b → w.heap.size ≤ b ∧ b < W6.heap.size + W.heap.size ∧ b ≠ W4.heap.size + 1 ∧ b ≠ b9 ∧ W.heap[b]? ≠ some (.deferred (some [])) ∧ (b = b2 ∨ ∃ cs t fr, W.heap[b]? = some (.cells cs t fr)) := by
                rintro b (rfl | rfl | hb)
                · exact ⟨H1.out.l2, by have := H1.out.map.lt; omega, fun e => HNB.out e.symm, fun e => HN9.out e.symm, map_not_deferred H1.out.map, .inl rfl⟩
                · refine ⟨H1.out.l1, by have := H1.out.x1.lt; omega, ?_, ?_, cells_not_deferred H1.out.x1, .inr ⟨_, _, _, H1.out.x1⟩⟩
                  · intro e'
                    have h := (show W.heap[b]? = _ from H1.out.x1)
                    rw [e', H3.out] at h
                    simp at h
                  · intro e'
                    have h := (show W.heap[b]? = _ from H1.out.x1)
                    rw [e', H4.out] at h
                    simp at h
                · obtain ⟨cur, hcur⟩ := H1.out.line.block b hb
                  exact ⟨(H1.out.line.lt b hb).1, by have := (H1.out.line.lt b hb).2; omega, H5.out b hb, H6.out b hb, H1.out.line.not_deferred b hb, .inr ⟨_, _, _, hcur⟩⟩
              refine ⟨⟨hk.size, fun k o hB hk0 hc => ?_⟩, KpS.ofKeeps hk H1.out.keep.size (fun k hlt hs => by have := (hS k hs).1; omega) (lt_of_heap H3.out) (fun hs => (hS _ hs).2.2.1 rfl), ⟨.slice (some ⟨g4, off4, none⟩) (sk.length + 1) cap4, ?_, H2.out.keeps (KeepsD.of hk (fun b hs => (hS b hs).2.2.2.2.1)), hk.heap H3.out (fun hs => (hS _ hs).2.2.1 rfl), hk.heap H4.out (fun hs => (hS _ hs).2.2.2.1 rfl), ?_, ?_⟩⟩
              · refine hk.heap hk0 (fun hs => ?_)
                rcases (hS k hs).2.2.2.2.2 with rfl | ⟨cs, t, fr, e'⟩
                · omega
                · rw [e'] at hk0; cases hk0; cases hc
              · have e1 : frs e (keysT T) ((pre ++ [y]).map fun y => y.1) = frs e (keysT T) (pre.map fun y => y.1) ++ [e.of y.1] := by rw [List.map_append]; exact HSN.out
                rw [e1, keysT_append, ← List.append_assoc, ← List.append_assoc, HSK.out]
                exact HP2.out
              · intro k hk' e'
                simp [Value.ownBlock] at hk'
                subst hk'
                rcases HAT2.out with e2 | e2
                · exact H5.out g4 e2 e'
                · have := lt_of_heap H3.out; have := HK1.out.size; simp at this; omega
              · intro k hk' e'
                simp [Value.ownBlock] at hk'
                subst hk'
                rcases HAT2.out with e2 | e2
                · exact H6.out g4 e2 e'
                · have := lt_of_heap H4.out; have := HK1.out.size; simp at this; omega
          · rintro D ys W hD hys ⟨vl, h1, h2, h3, h4, h5, h6⟩ hd
            have hys' : (ys.map fun y => y.1) = wsteps ops e.to := hys
            rw [hys', ← HNX.out] at h1
            have HM7 := Lib.hid (HM6.out.cons h2 hD (by omega) hd)
            have H1 := Lib.hid h1
            have hle : i + 1 ≤ (tree ops st (i + 1)).length := by
              rw [HNX.out, List.length_append]; have := HIT.out; omega
            have HLE := Lib.hid hle
            have HQ2 := Lib.hid (show q' ++ keysT (frs e (keysT T) (wsteps ops e.to)) = (keysT (tree ops st (i + 1))).drop (i + 1) by
              rw [HNX.out, keysT_append, List.drop_append_of_le_length (by rw [keysT_length]; exact HIT.out), HQQ.out])
            have HNO2 := Lib.hid (show ∀ (j : Nat) f, j < i + 1 → (tree ops st (i + 1))[j]? = some f → acc f.to = false by
              intro j f hj hf
              rw [HNX.out, List.getElem?_append_left (by have := HIT.out; omega)] at hf
              by_cases hji : j < i
              · exact HNO.out j f hji hf
              · have : j = i := by omega
                subst this
                rw [HTI.out] at hf; cases hf; exact hacc)
            have HMEA := Lib.hid (show l.length + 1 - (mapLen W b2 - boxLen W b1) < l.length + 1 - (mapLen wr b2 - boxLen wr b1) by
              obtain ⟨c1, c2⟩ := H1.out.count
              obtain ⟨c3, c4⟩ := HCO.out
              have hq1 := congrArg List.length HQ2.out
              rw [List.length_drop, keysT_length] at hq1
              have hq2 := HQL.out
              have hq3 := HTL.out
              have hq4 := HIT.out
              have hq5 := HLE.out
              rw [c1, c2, c3, c4, List.length_cons, hq1]
              omega)
            clear h1 h2 h3 h4 h5 h6 hd hys hys' hle
            gi_wp2
            exact ⟨⟨mark D :: ds, _, _, _, _, _, _, _, _, _, _, _, _, _, _, _, _, _, _, _, _, _, _, _, _, _, _, _, _, _, _, _, _, _, _, _, _, _, _, _, _, _, _, _, _, _, _, _, _, _, _, _, _, _, i + 1, _, vl, ⟨H1.out, HQ2.out, HNO2.out, HM7.out⟩, HLE.out, rfl⟩, HMEA.out⟩
          · exact fun _ _ _ _ _ _ h _ => h.elim

theorem first_any (w : World) (b st g0 base : Nat) (v : Value) (ops : List Wop) (hw : WordsAt w base b st g0 v ops) (hops : WopsOk ops) (hmany : ops.length ≤ 40) (hst : st < 4294967296) (l : List Nat) (hl : reached ops st = some l)
    (ga : Nat) (pa cb : Array Value) (acc : Nat → Bool) (hask : Asked w ga pa cb acc) :
    Calls Try.prog 59 #[.iface 84 (.pointer (some ⟨b, 0, none⟩)), .func (.func ga) pa cb] w (FirstPost ops st acc w) := callsIn_wide.1 (first_in w b st g0 base v ops hw hops hmany hst l hl ga pa cb acc hask)

end Go.Proofs.Ytcfcmmajlkkabaa
