/- breadth.First: the tree of a breadth-first search. The queue's heap: what the slice of entries reads as; Less, Swap, Len walked. The library's heap over the queue's entries: up, down, Fix, Remove, Push, Pop: what they make of the list. The library's heap over the queue's entries: the slice's own Push, Pop, Len; heap.Fix, Remove, Push, Pop. The plain laws of the heap: sifting up and down keep the entries, and make a heap; the first entry is a least one. No program in sight but for the entries' type. The queue: Set walked, for a new item and for one that is there. The queue: Take and Drop. breadth.limited and breadth.Plan. The reference's Less and States; the laws' lists. space.Explore. The example task of the laws; breadth's example. breadth: the law that Plan is the reference's. space.Distances, space.Optimal. Plans and the table of costs, in plain words. The least price of a plan, in plain Lean: what a search for best plans must find. A search from both ends, in plain Lean: what its two sides know, and that they have met on a best way when it ends. A map with whole numbers as keys, as a function that is not defined everywhere. No condition beyond what each theorem says. -/
import Derived.Test.YtjcgkmodmjckjaaA3
import Derived.Test.YtjcgkmodmjckjaaA1
import Derived.Test.YtjcgkmodmjckjaaA4
import Derived.Test.YtjcgkmodmjckjaaProg
import Derived.Deep.RegionLaw
import Derived.Sort.LoopGhostIn
import Derived.IntWalk
import Derived.Lib.SlicesCompact

namespace Go.Proofs.Ytjcgkmodmjckjaa
open Go.RowKit Go.Shelf
attribute [local go_sem] Oper.semAt_some

/-- What First knows between two steps. -/
structure FirS (w0 : World) (b1 b2 b3 : Nat) (T : List Ent) (q : List Nat) (vl : Value) (W : World) : Prop where
  keep : Keeps (fun _ => False) w0 W
  x1 : Boxed W b1 45 vl
  x3 : Boxed W b3 98 (.map (some b2))
  line : Tail W w0.heap.size 54 vl (q.map encW)
  map : IMap W b2 .u32 (parL T)
  l1 : w0.heap.size ≤ b1
  l2 : w0.heap.size ≤ b2
  l3 : w0.heap.size ≤ b3

section
variable {w0 : World} {b1 b2 b3 : Nat} {T : List Ent} {q : List Nat} {vl : Value} {W : World}
theorem FirS.by {W' : World} {S : Nat → Prop} (h : FirS w0 b1 b2 b3 T q vl W) (hk : Keeps S W W') (s1 : ¬ S b1) (s2 : ¬ S b2) (s3 : ¬ S b3) (ss : ∀ k, vl.ownBlock = some k → ¬ S k) (hS : ∀ k, S k → w0.heap.size ≤ k) : FirS w0 b1 b2 b3 T q vl W' :=
  ⟨h.keep.trans' hk (fun i hi => .inr (hS i hi)), hk.heap h.x1 s1, hk.heap h.x3 s3, h.line.keeps hk ss, h.map.keeps hk s2, h.l1, h.l2, h.l3⟩
theorem FirS.keeps0 {W' : World} (h : FirS w0 b1 b2 b3 T q vl W) (hk : Keeps (fun _ => False) W W') : FirS w0 b1 b2 b3 T q vl W' :=
  h.by hk (fun h => h) (fun h => h) (fun h => h) (fun _ _ h => h) (fun _ h => h.elim)
theorem FirS.row1 (h : FirS w0 b1 b2 b3 T q vl W) : vl.ownBlock ≠ some b1 := h.line.not_box h.x1 (by decide)
theorem FirS.row3 (h : FirS w0 b1 b2 b3 T q vl W) : vl.ownBlock ≠ some b3 := h.line.not_box h.x3 (by decide)
theorem FirS.row2 (h : FirS w0 b1 b2 b3 T q vl W) : vl.ownBlock ≠ some b2 := Tail.not_map h.map h.line
theorem FirS.box13 (h : FirS w0 b1 b2 b3 T q vl W) : b1 ≠ b3 := by
  rintro rfl
  have := (show W.heap[b1]? = _ from h.x1).symm.trans h.x3
  simp at this
theorem FirS.steady {W' : World} {row : Option Nat} {B : Nat} (h : FirS w0 b1 b2 b3 T q vl W) (hg : W.grownBy W' row) (hr : ∀ r, row = some r → B ≤ r ∧ ∃ o : Obj, W.heap[r]? = some o ∧ o.isCells = false) (hB : w0.heap.size ≤ B) (hb2 : b2 < B) : FirS w0 b1 b2 b3 T q vl W' :=
  ⟨steady_keeps0 hg (fun r e => (hr r e).1) hB h.keep, steady_heap hg (fun r e => (hr r e).2) h.x1, steady_heap hg (fun r e => (hr r e).2) h.x3, h.line.steady hg (fun r e => (hr r e).2), steady_map hg (fun r e => (hr r e).1) hb2 h.map, h.l1, h.l2, h.l3⟩

/-- The first of the line is taken. -/
theorem FirS.pop {g off n cap x : Nat} (h : FirS w0 b1 b2 b3 T (x :: q) (.slice (some ⟨g, off, none⟩) (n + 1) cap) W) (hn : q.length = n) :
    FirS w0 b1 b2 b3 T q (.slice (some (cutAt g off cap)) n (cap - 1)) (W.setCell ⟨b1, 0, none⟩ (.slice (some (cutAt g off cap)) n (cap - 1))) := by
  have hk : Keeps (fun b => b = b1) W (W.setCell ⟨b1, 0, none⟩ (.slice (some (cutAt g off cap)) n (cap - 1))) := (Keeps.refl (fun b => b = b1) W).setCell (p := ⟨b1, 0, none⟩) (.inl rfl) _
  have hl := h.line
  rw [List.map_cons] at hl
  refine ⟨h.keep.trans' hk (fun i hi => .inr (by subst hi; exact h.l1)), h.x1.set _, hk.heap h.x3 (fun e => h.box13 e.symm), ?_, h.map.keeps hk (box_not_map h.map h.x1), h.l1, h.l2, h.l3⟩
  refine (hl.cut (by simpa using hn)).keeps hk (fun k hk' e => ?_)
  subst e
  simp [Value.ownBlock, cutAt_block] at hk'
  exact h.row1 (by simp [Value.ownBlock, hk'])

/-- One more is put in the line. -/
theorem FirS.push {W3 : World} {o : Obj} {gg off m cap x : Nat} (h : FirS w0 b1 b2 b3 T q vl W) (hown : Tail W3 w0.heap.size 54 (.slice (some ⟨gg, off, none⟩) m cap) (q.map encW ++ [encW x]))
    (hg : (W.alloc o).grownBy W3 vl.ownBlock) (hat : vl.ownBlock = some gg ∨ gg = W.heap.size + 1) : FirS w0 b1 b2 b3 T (q ++ [x]) (.slice (some ⟨gg, off, none⟩) m cap) (W3.setCell ⟨b1, 0, none⟩ (.slice (some ⟨gg, off, none⟩) m cap)) := by
  have h' := h.keeps0 ((Keeps.refl (fun _ => False) W).alloc o)
  have hk1 : Keeps (fun b => vl.ownBlock = some b) (W.alloc o) W3 := (Keeps.refl _ _).grown hg (fun k hk => .inl hk)
  have hx1 : Boxed W3 b1 45 vl := hk1.heap h'.x1 h.row1
  have hk2 : Keeps (fun b => b = b1) W3 (W3.setCell ⟨b1, 0, none⟩ (.slice (some ⟨gg, off, none⟩) m cap)) := (Keeps.refl (fun b => b = b1) W3).setCell (p := ⟨b1, 0, none⟩) (.inl rfl) _
  have hgb : gg ≠ b1 := by
    rcases hat with e | e
    · intro e'; exact h.row1 (by rw [e, e'])
    · have := h.x1.lt; omega
  refine ⟨(h'.keep.trans' hk1 (fun i e => .inr (h.line.lt i e).1)).trans' hk2 (fun i e => .inr (by subst e; exact h.l1)), hx1.set _, hk2.heap (hk1.heap h'.x3 h.row3) (fun e => h.box13 e.symm), ?_, (h'.map.keeps hk1 h.row2).keeps hk2 (box_not_map h.map h.x1), h.l1, h.l2, h.l3⟩
  rw [List.map_append]
  exact hown.keeps hk2 (fun k hk' e => by simp [Value.ownBlock] at hk'; omega)

/-- One more is seen. -/
theorem FirS.see {W' : World} {e : Ent} (h : FirS w0 b1 b2 b3 T q vl W) (hI : IMap W' b2 .u32 (parL T ++ [((e.to : Int), .agg #[.int .u32 (e.frm : Int), .int .i64 (e.op : Int)])])) (hk : Keeps (fun k => k = b2) W W') : FirS w0 b1 b2 b3 (T ++ [e]) q vl W' :=
  ⟨h.keep.trans' hk (fun i e => .inr (by subst e; exact h.l2)), hk.heap h.x1 (fun e => box_not_map h.map h.x1 e.symm), hk.heap h.x3 (fun e => box_not_map h.map h.x3 e.symm), h.line.keeps hk (fun k hk' e => by subst e; exact h.row2 hk'),
    by simpa [parL] using hI, h.l1, h.l2, h.l3⟩
end

structure FirLoop (ops : List Wop) (st : Nat) (acc : Nat → Bool) (w0 : World) (b1 b2 b3 i : Nat) (q : List Nat) (vl : Value) (ds : List Deferred) (W : World) : Prop where
  s : FirS w0 b1 b2 b3 (tree ops st i) q vl W
  q : q = (keysT (tree ops st i)).drop i
  no : ∀ (j : Nat) f, j < i → (tree ops st i)[j]? = some f → acc f.to = false
  marks : Marks ds W w0.heap.size

/-- Within the loop over the steps of e, when the steps l have come. -/
def FirI (w0 : World) (b1 b2 b3 : Nat) (T : List Ent) (q : List Nat) (e : Ent) (ds : List Deferred) (Bs Bx : Nat) (l : List Stp) (W : World) : Prop :=
  ∃ vl, FirS w0 b1 b2 b3 (T ++ frs e (keysT T) l) (q ++ keysT (frs e (keysT T) l)) vl W ∧ Marks ds W w0.heap.size ∧ W.heap[Bs]? = some (.cells #[.int .u32 (e.to : Int)] 54 (0, 0)) ∧ W.heap[Bx]? = some (.cells #[.int .u32 (e.to : Int)] 54 (0, 0)) ∧ (∀ k, vl.ownBlock = some k → k ≠ Bs) ∧ (∀ k, vl.ownBlock = some k → k ≠ Bx)

def mapLen (W : World) (b : Nat) : Nat := match W.heap[b]? with
  | some (.map es _) => es.size
  | _ => 0
def boxLen (W : World) (b : Nat) : Nat := match W.cell? ⟨b, 0, none⟩ with
  | some v => sliceLen v
  | _ => 0

/-- What First hands back. -/
def FirstPost (ops : List Wop) (st : Nat) (acc : Nat → Bool) (w : World) (e : Ending) (w' : World) : Prop := Keeps (fun _ => False) w w' ∧
  ((Best ops st acc none ∧ e = .returned (.tuple #[.slice none 0 0, .bool false])) ∨
   (∃ p, Best ops st acc (some p) ∧ ∃ v', e = .returned (.tuple #[v', .bool true]) ∧ w'.ownsRow w.heap.size 3 1 v' p.length ((intsP p).map (Value.int .i64))))

theorem reach_small {ops : List Wop} (hops : WopsOk ops) {st : Nat} (hst : st < 4294967296) {x : Nat} (h : Reach ops st x) : x < 4294967296 := by
  induction h with
  | refl => exact hst
  | step _ hy ih =>
    unfold nexts at hy
    obtain ⟨o, ho, rfl⟩ := List.mem_map.1 hy
    have ho' := List.mem_filter.1 ho
    exact next_lt ih (hops o ho'.1).2.1

/-- What a function value must do to be asked by First. -/
structure Asked (w0 : World) (g : Nat) (pa cb : Array Value) (acc : Nat → Bool) : Prop where
  enters : ∀ args w, (callFunc g args).run Try.prog w = .ok (.enter g args) w
  answers : ∀ (W : World) (x : Nat), Keeps (fun _ => False) w0 W → x < 4294967296 → Calls Try.prog g (pa.push (.int .u32 (x : Int)) ++ cb) W fun e W' => e = .returned (.bool (acc x)) ∧ ∃ n, W' = W.drewN n

theorem keysT_append (A B : List Ent) : keysT (A ++ B) = keysT A ++ keysT B := by simp [keysT]
theorem keysT_length (A : List Ent) : (keysT A).length = A.length := by simp [keysT]

theorem FirS.count {w0 : World} {b1 b2 b3 : Nat} {T : List Ent} {q : List Nat} {vl : Value} {W : World} (h : FirS w0 b1 b2 b3 T q vl W) : mapLen W b2 = T.length ∧ boxLen W b1 = q.length := by
  obtain ⟨es, c, h1, h2⟩ := h.map.length
  obtain ⟨g, off, cap, hv, _⟩ := h.line.form
  constructor
  · unfold mapLen; rw [h1]; simp only; rw [h2]; simp [parL]
  · unfold boxLen; rw [h.x1.cell]; simp only; rw [hv]; simp [sliceLen]

set_option maxRecDepth 100000 in
set_option maxHeartbeats 4000000 in
theorem first_in (w : World) (b st g0 base : Nat) (v : Value) (ops : List Wop) (hw : WordsAt w base b st g0 v ops) (hops : WopsOk ops) (hmany : ops.length ≤ 40) (hst : st < 4294967296) (l : List Nat) (hl : reached ops st = some l)
    (ga : Nat) (pa cb : Array Value) (acc : Nat → Bool) (hask : Asked w ga pa cb acc) :
    CallsIn Fence.wide 9 Try.prog 23 #[.iface 44 (.pointer (some ⟨b, 0, none⟩)), .func (.func ga) pa cb] w (FirstPost ops st acc w) := by
  have HW := Lib.hid hw; have HL0 := Lib.hid hl; have HASK := Lib.hid hask
  have hmm := @run_makeMap Try.prog
  have mS := method_Start ⟨b, 0, none⟩
  have mT := method_Steps ⟨b, 0, none⟩
  have eg := hask.enters
  clear hw hl hask
  refine callsIn_of_wp_marks Try.func23 rfl trivial ?_ rfl
  simp only [Try.ntmps23, List.size_toArray, List.length_cons, List.length_nil, Nat.reduceAdd, Nat.reduceSub, Array.replicate_succ, Array.replicate_zero, List.push_toArray, List.append_toArray, List.nil_append, List.cons_append]
  gi_wp2
  refine ⟨trivial, ?_⟩
  refine (callsIn_wide.2 (start_any _ _ _ _ _ _ _ HW.out)).mono ?_; rintro e w1 ⟨rfl, rfl⟩
  have hm0 : IMap (w.alloc (.map #[] 0)) w.heap.size .u32 [] := IMap.made w .u32
  obtain ⟨W4, hrun, hI4, hk4⟩ := hm0.run_update_new (P := Try.prog) Try.underlying98 Try.underlying54 (x := (st : Int)) (by simp) (.agg #[.int .u32 (st : Int), .int .i64 0])
  gi_wp2
  have hS : FirS w (W4.heap.size + 1 + 1) w.heap.size W4.heap.size (tree ops st 0) [st] (.slice (some ⟨W4.heap.size + 1, 0, none⟩) 1 1) (((W4.alloc (.cells #[.map (some w.heap.size)] 98)).alloc (.cells #[.int .u32 (st : Int)] 54)).alloc (.cells #[.slice (some ⟨W4.heap.size + 1, 0, none⟩) 1 1] 45)) := by
    have hsz : w.heap.size + 1 ≤ W4.heap.size := by have := hk4.size; simpa using this
    have k0 : Keeps (fun _ => False) w W4 := ((Keeps.refl (fun _ => False) w).alloc (.map #[] 0)).trans' hk4 (fun i e => .inr (by omega))
    have kA := (Keeps.refl (fun _ => False) W4).alloc (.cells #[.map (some w.heap.size)] 98)
    have kB := (Keeps.refl (fun _ => False) (W4.alloc (.cells #[.map (some w.heap.size)] 98))).alloc (.cells #[.int .u32 (st : Int)] 54)
    have kC := (Keeps.refl (fun _ => False) ((W4.alloc (.cells #[.map (some w.heap.size)] 98)).alloc (.cells #[.int .u32 (st : Int)] 54))).alloc (.cells #[.slice (some ⟨W4.heap.size + 1, 0, none⟩) 1 1] 45)
    have n1 := Boxed.new ((W4.alloc (.cells #[.map (some w.heap.size)] 98)).alloc (.cells #[.int .u32 (st : Int)] 54)) 45 (.slice (some ⟨W4.heap.size + 1, 0, none⟩) 1 1)
    rw [World.size_alloc, World.size_alloc] at n1
    have nl := Tail.new (W4.alloc (.cells #[.map (some w.heap.size)] 98)) w.heap.size 54 (.int .u32 (st : Int)) (by simp; omega)
    rw [World.size_alloc] at nl
    have n3 := Boxed.new W4 98 (.map (some w.heap.size))
    refine ⟨k0.trans (kA.trans (kB.trans kC)), n1, kC.heap (kB.heap n3 (fun h => h)) (fun h => h), nl.keeps kC (fun _ _ h => h), ?_, by omega, Nat.le_refl _, by omega⟩
    have h4 : IMap W4 w.heap.size .u32 (parL (tree ops st 0)) := by simpa [parL, tree] using hI4
    exact h4.keeps (kA.trans (kB.trans kC)) (fun h => h)
  have HS := Lib.hid hS
  clear hS hI4 hm0 hk4
  generalize (((W4.alloc (.cells #[.map (some w.heap.size)] 98)).alloc (.cells #[.int .u32 (st : Int)] 54)).alloc (.cells #[.slice (some ⟨W4.heap.size + 1, 0, none⟩) 1 1] 45)) = W5 at HS ⊢
  generalize W4.heap.size + 1 + 1 = b1 at HS ⊢
  generalize W4.heap.size + 1 = ba at HS ⊢
  generalize W4.heap.size = b3 at HS ⊢
  clear hrun
  obtain ⟨b2, hb2⟩ : ∃ b2, w.heap.size = b2 := ⟨_, rfl⟩
  have HSB : Hid (FirS w b1 b2 b3 (tree ops st 0) [st] (.slice (some ⟨ba, 0, none⟩) 1 1) W5) := by rw [← hb2]; exact HS
  clear HS hb2
  obtain ⟨i0, hi0, hz0, hz1, hz2⟩ := info_parts Try.info_u32
  refine wpIn_loop (fun a' wr => ∃ (ds : List Deferred) (u9 u10 u11 u12 u13 u14 u15 u16 u17 u18 u19 u20 u21 u22 u23 u24 u25 u26 u27 u28 u29 u30 u31 u32 u33 u34 u35 u36 u37 u38 u39 u40 u41 u42 u43 u44 u45 u46 u47 u48 u49 u50 u51 u52 u53 u54 u55 u56 u57 u58 u59 u60 u61 : Value) (i : Nat) (q : List Nat) (vl : Value), FirLoop ops st acc w b1 b2 b3 i q vl ds wr ∧ i ≤ (tree ops st i).length ∧
      a' = { tmps := #[.iface 44 (.pointer (some ⟨b, 0, none⟩)), .func (.func ga) pa cb, undef, undef, .slice none 0 0, .bool false, .int .u32 (st : Int), .pointer (some ⟨b3, 0, none⟩), .pointer (some ⟨b1, 0, none⟩), u9, u10, u11, u12, u13, u14, u15, u16, u17, u18, u19, u20, u21, u22, u23, u24, u25, u26, u27, u28, u29, u30, u31, u32, u33, u34, u35, u36, u37, u38, u39, u40, u41, u42, u43, u44, u45, u46, u47, u48, u49, u50, u51, u52, u53, u54, u55, u56, u57, u58, u59, u60, u61], defers := ds })
    (fun _ W => l.length + 1 - (mapLen W b2 - boxLen W b1)) ?start ?round
  case start => exact ⟨[], _, _, _, _, _, _, _, _, _, _, _, _, _, _, _, _, _, _, _, _, _, _, _, _, _, _, _, _, _, _, _, _, _, _, _, _, _, _, _, _, _, _, _, _, _, _, _, _, _, _, _, _, _, 0, [st], _, ⟨HSB.out, rfl, fun j f hj => by omega, Marks.nil _ _⟩, by simp, rfl⟩
  case round =>
    rintro a wr ⟨ds, u9, u10, u11, u12, u13, u14, u15, u16, u17, u18, u19, u20, u21, u22, u23, u24, u25, u26, u27, u28, u29, u30, u31, u32, u33, u34, u35, u36, u37, u38, u39, u40, u41, u42, u43, u44, u45, u46, u47, u48, u49, u50, u51, u52, u53, u54, u55, u56, u57, u58, u59, u60, u61, i, q, vl, hL, hil, rfl⟩
    have HL := Lib.hid hL
    clear hL HSB
    have x1c := HL.out.s.x1.cell
    have x1f := HL.out.s.x1.frozen
    have x3c := HL.out.s.x3.cell
    have x1l := HL.out.s.x1.lt
    have x3l := HL.out.s.x3.lt
    obtain ⟨gl, off, cap, hv, hqc, hcm, hgb, hgl⟩ := HL.out.s.line.form
    subst hv
    rw [List.length_map] at *
    by_cases hq : q = []
    · subst hq
      gi_wp2
      refine leaves_marks HL.out.marks (fun W' hk => ?_)
      have hlen : (tree ops st i).length ≤ i := by
        have h := congrArg List.length HL.out.q
        unfold keysT at h
        simp at h; omega
      have HN := HL.out.no
      refine ⟨.tuple #[.slice none 0 0, .bool false], by simp [results, Try.results23, go_sem], HL.out.s.keep.trans' hk (fun i hi => .inr hi.1), .inl ⟨tree_none hlen (fun f hf => ?_), rfl⟩⟩
      obtain ⟨j, hj⟩ := List.mem_iff_getElem?.1 hf
      exact HN j f (by have := (List.getElem?_eq_some_iff.1 hj).1; omega) hj
    · obtain ⟨x, q', rfl⟩ : ∃ x q', q = x :: q' := by
        cases q with
        | nil => exact absurd rfl hq
        | cons x q' => exact ⟨x, q', rfl⟩
      rw [List.length_cons] at *
      have hq0 := HL.out.q
      obtain ⟨e, hTi, hex⟩ : ∃ e, (tree ops st i)[i]? = some e ∧ e.to = x := by
        have h := congrArg (fun l : List Nat => l[0]?) hq0
        simp only [List.getElem?_cons_zero, List.getElem?_drop, Nat.add_zero] at h
        unfold keysT at h
        rw [List.getElem?_map] at h
        cases hT : (tree ops st i)[i]? with
        | none => rw [hT] at h; cases h
        | some e => rw [hT] at h; exact ⟨e, rfl, by simpa using h.symm⟩
      subst hex
      have hqq : q' = (keysT (tree ops st i)).drop (i + 1) := by
        have h := congrArg (List.drop 1) hq0
        rw [List.drop_drop] at h
        simpa using h
      have htl : i < (tree ops st i).length := (List.getElem?_eq_some_iff.1 hTi).1
      have hok := tree_ok ops st i
      have hll := (reached_some HL0.out).2.1
      have htf := tree_few HL0.out i
      have hnext := tree_step hTi
      have hx32 : e.to < 4294967296 := reach_small hops hst (hok.reach e (List.mem_of_getElem? hTi))
      have hqlen : q'.length + (i + 1) = (tree ops st i).length := by rw [hqq, List.length_drop, keysT_length]; omega
      have hfound : acc e.to = true → Best ops st acc (some e.path) := fun ha => tree_found HL0.out hTi ha HL.out.no
      have hno := HL.out.no
      have hcount := HL.out.s.count
      have hcx := Tail.head (by have := HL.out.s.line; rw [List.map_cons] at this; exact this)
      unfold encW at hcx
      have hsz : w.heap.size ≤ wr.heap.size := HL.out.s.keep.size
      have hpop := HL.out.s.pop (n := q'.length) rfl
      have hmk := HL.out.marks
      have hkd : KeepsD wr (wr.setCell ⟨b1, 0, none⟩ (.slice (some (cutAt gl off cap)) q'.length (cap - 1))) :=
        KeepsD.of ((Keeps.refl (fun b => b = b1) wr).setCell (p := ⟨b1, 0, none⟩) (.inl rfl) _) (fun b hb => by subst hb; exact cells_not_deferred HL.out.s.x1)
      have hm2 := hmk.keeps hkd
      clear hq hkd
      generalize hT : tree ops st i = T at hTi hqq htl hok htf hnext hqlen hno hcount hpop hil
      have HTI := Lib.hid hTi; have HQQ := Lib.hid hqq; have HOK := Lib.hid hok; have HNX := Lib.hid hnext; have HFO := Lib.hid hfound; have HNO := Lib.hid hno; have HCO := Lib.hid hcount; have HMK := Lib.hid hmk; have HTE := Lib.hid hT
      have HTF := Lib.hid (Nat.le_trans htf hll); have HTL := Lib.hid htf; have HIT := Lib.hid htl; have HQL := Lib.hid hqlen
      clear hTi hqq hok hnext hfound hno hcount hmk hT htf hll htl hqlen hq0 HL hil
      rcases (Classical.em (cap = 1)) with hc1 | hc1
      case' inl =>
        rw [show cutAt gl off cap = ⟨gl, off, none⟩ by simp [cutAt, hc1], show cap - 1 = 0 by omega] at hpop hm2
        have hz : q'.length = 0 := by omega
        rw [hz] at hpop hm2
        have HP := Lib.hid hpop; have HM := Lib.hid hm2
        clear hpop hm2
        subst hc1
        gi_wp2
        generalize (Value.slice (some ⟨gl, off, none⟩) 1 1) = vo
        generalize (Value.slice (some ⟨gl, off, none⟩) 0 0) = vc at HP HM ⊢
        generalize (Value.int .i64 1) = v23
      case' inr =>
        rw [show cutAt gl off cap = ⟨gl, off + 1, none⟩ by simp [cutAt, hc1]] at hpop hm2
        have HP := Lib.hid hpop; have HM := Lib.hid hm2
        clear hpop hm2
        gi_wp2
        generalize (Value.slice (some ⟨gl, off, none⟩) (q'.length + 1) cap) = vo
        generalize (Value.slice (some ⟨gl, off + 1, none⟩) q'.length (cap - 1)) = vc at HP HM ⊢
        generalize (Value.int .i64 ((q'.length : Int) + 1)) = v23
      all_goals
        have hkz : (wr.setCell ⟨b1, 0, none⟩ vc).heap.size = wr.heap.size := by simp
        generalize wr.setCell ⟨b1, 0, none⟩ vc = W2 at HP HM hkz ⊢
        rw [← hkz] at hsz ⊢
        have HB9 := Lib.hid (heap_alloc_new W2 (.cells #[.int .u32 (e.to : Int)] 54))
        have HPA := Lib.hid (HP.out.keeps0 ((Keeps.refl (fun _ => False) W2).alloc (.cells #[.int .u32 (e.to : Int)] 54)))
        have HMA := Lib.hid (HM.out.keeps (KeepsD.of0 ((Keeps.refl (fun _ => False) W2).alloc (.cells #[.int .u32 (e.to : Int)] 54))))
        have hv9 : ∀ k, vc.ownBlock = some k → k ≠ W2.heap.size := fun k hk => by have := (HP.out.line.lt k hk).2; omega
        have HV9 := Lib.hid hv9
        have hb9l : W2.heap.size < (W2.alloc (.cells #[.int .u32 (e.to : Int)] 54)).heap.size := by simp
        have hb9w : w.heap.size ≤ W2.heap.size := hsz
        clear hv9 hkz HP HM hsz
        generalize (W2.alloc (.cells #[.int .u32 (e.to : Int)] 54)) = W3 at HB9 HPA HMA hb9l ⊢
        generalize W2.heap.size = b9 at HB9 HV9 hb9l hb9w ⊢
        refine ⟨trivial, ?_⟩
        refine (callsIn_wide.2 (HASK.out.answers W3 e.to HPA.out.keep hx32)).mono ?_; rintro en W4' ⟨rfl, nq, rfl⟩
        have kq := (Keeps.refl (fun _ => False) W3).drewN nq
        have hb9q : b9 < (W3.drewN nq).heap.size := hb9l
        have HB9q := Lib.hid (kq.heap HB9.out (fun h => h))
        have HPq := Lib.hid (HPA.out.keeps0 kq)
        have HMq := Lib.hid (HMA.out.keeps (KeepsD.of0 kq))
        clear kq HB9 HPA HMA hb9l
        generalize W3.drewN nq = W4 at HB9q HPq HMq hb9q ⊢
        have x1c := HPq.out.x1.cell
        have x1f := HPq.out.x1.frozen
        have x3c := HPq.out.x3.cell
        have c9 : W4.cell? ⟨b9, 0, none⟩ = some (.int .u32 (e.to : Int)) := by rw [cell_of_blk HB9q.out]; rfl
        rcases hacc : acc e.to with _ | _
        case' true =>
          gi_wp2
          refine ⟨trivial, ?_⟩
          refine (callsIn_wide.2 (path_any W4 b2 ops st i T i e HOK.out HPq.out.map HTI.out (by have := HTF.out; omega))).mono ?_; rintro en w8 ⟨v8, rfl, hown8, hk8⟩
          gi_wp2
          refine leaves_marks (HMq.out.keeps (KeepsD.of0 hk8)) (fun W' hk => ?_)
          refine ⟨.tuple #[v8, .bool true], by simp [results, Try.results23, go_sem], (HPq.out.keep.trans hk8).trans' hk (fun i hi => .inr hi.1), .inr ⟨e.path, HFO.out hacc, v8, rfl, ?_⟩⟩
          exact ownsRow_mono (hk.ownsRow hown8 (fun k hk' hs => row_not_deferred hown8 k hk' hs.2)) HPq.out.keep.size
        case' false =>
          gi_wp2
          refine ⟨trivial, ?_⟩
          refine (callsIn_wide.2 (steps_any W4 b e.to)).mono ?_; rintro en w5 ⟨rfl, rfl⟩
          gi_wp2
          obtain ⟨W6, hW6⟩ : ∃ W6, ((W4.alloc (.cells #[.pointer (some ⟨b, 0, none⟩)] 44)).alloc (.cells #[.int .u32 (e.to : Int)] 54)) = W6 := ⟨_, rfl⟩
          have hz6 : W6.heap.size = W4.heap.size + 1 + 1 := by rw [← hW6]; simp
          have k6 : Keeps (fun _ => False) W4 W6 := by rw [← hW6]; exact ((Keeps.refl _ _).alloc _).alloc _
          have hBw : W6.cell? ⟨W4.heap.size, 0, none⟩ = some (.pointer (some ⟨b, 0, none⟩)) := by
            rw [← hW6]; exact ((Boxed.new W4 _ _).alloc _).cell
          have hBs : W6.heap[W4.heap.size + 1]? = some (.cells #[.int .u32 (e.to : Int)] 54 (0, 0)) := by
            rw [← hW6]
            have := heap_alloc_new (W4.alloc (.cells #[.pointer (some ⟨b, 0, none⟩)] 44)) (.cells #[.int .u32 (e.to : Int)] 54)
            rwa [World.size_alloc] at this
          have hBsc : W6.cell? ⟨W4.heap.size + 1, 0, none⟩ = some (.int .u32 (e.to : Int)) := by rw [cell_of_blk hBs]; rfl
          rw [hW6]
          have hlow4 : w.heap.size ≤ W4.heap.size := HPq.out.keep.size
          have HA6 := Lib.hid (HPq.out.keeps0 k6)
          have HM6 := Lib.hid (HMq.out.keeps (KeepsD.of0 k6))
          have HB96 := Lib.hid (k6.heap HB9q.out (fun h => h))
          have HWW := Lib.hid (show ∃ w0 : World, WordsAt w0 base b st g0 v ops ∧ w0.heap.size ≤ w.heap.size ∧ Below w.heap.size w0 W6 from ⟨w, HW.out, Nat.le_refl _, HA6.out.keep.below⟩)
          have hgrow0 : ∀ k, vc.ownBlock = some k → k ≠ W4.heap.size + 1 := fun k hk => by have := (HPq.out.line.lt k hk).2; omega
          have HG0 := Lib.hid hgrow0
          have HBS := Lib.hid hBs
          have HWL := Lib.hid (show (wsteps ops e.to).length ≤ 40 from Nat.le_trans (wsteps_le ops e.to) hmany)
          have hb6 : w.heap.size ≤ W6.heap.size := by omega
          have hb96 : b9 < W6.heap.size := by omega
          have hb26 : b2 < W6.heap.size := HA6.out.map.lt
          clear hgrow0 hBs x1c x1f x3c c9 HB9q HPq HMq
          refine wpIn_rangeFunc_ownH (α := StpOf ops e.to) rfl (by omega) (gf := 110) (lb := #[.pointer (some ⟨W4.heap.size, 0, none⟩), .pointer (some ⟨W4.heap.size + 1, 0, none⟩)]) rfl trivial (enters_of Try.func110 (by kernel_rfl) rfl)
            (steps_stops Fence.wide 8 trivial rfl (by omega) W4.heap.size (W4.heap.size + 1) w.heap.size base b st g0 e.to v ops hops (by omega) hx32 W6 (by omega) hBw hBsc (by omega) (by omega) HWW.out)
            KpS.trans (kpS_b (by omega) (by omega)) (Below.refl _ _) (fun _ => rfl)
            (fun pre W => FirI w b1 b2 b3 T q' e ds (W4.heap.size + 1) b9 (pre.map fun y => y.1) W)
            (fun _ _ _ => False) ?_ (fun _ _ _ _ _ hs _ _ => hs) ?_
            (fun (y : StpOf ops e.to) (a' : Act) (W : World) => ∃ Bx : Nat, W.heap[Bx]? = some (Obj.cells #[.int .i64 (y.1.op : Int), .int .i64 y.1.cost, .int .u32 (y.1.to : Int)] 104 (0, 0)) ∧ a' = { tmps := #[.iface 44 (.pointer (some ⟨b, 0, none⟩)), .func (.func ga) pa cb, undef, undef, .slice none 0 0, .bool false, .int .u32 (st : Int), .pointer (some ⟨b3, 0, none⟩), .pointer (some ⟨b1, 0, none⟩), .pointer (some ⟨b9, 0, none⟩), .pointer (some ⟨Bx, 0, none⟩), u11, u12, u13, u14, u15, u16, u17, u18, u19, u20, u21, vo, v23, .bool true, vo, .pointer (some ⟨gl, off, none⟩), .int .u32 (e.to : Int), vo, vc, .func (.func ga) pa cb, .int .u32 (e.to : Int), .bool false, u33, u34, u35, u36, .iface 44 (.pointer (some ⟨b, 0, none⟩)), .int .u32 (e.to : Int), .func (.func 110) #[] #[.pointer (some ⟨W4.heap.size, 0, none⟩), .pointer (some ⟨W4.heap.size + 1, 0, none⟩)], y.1.val, u41, u42, u43, u44, u45, u46, u47, u48, u49, u50, u51, u52, u53, u54, u55, u56, u57, u58, u59, u60, u61], defers := [] }) ?_ ?_ ?_ ?_ ?_
          · intro l W W' row hs hg hr
            obtain ⟨vl, h1, h2, h3, h4, h5⟩ := hs
            exact ⟨vl, h1.steady hg hr hb6 hb26, Marks.steady HM6.out h2 hg hr, steady_heap hg (fun r e => (hr r e).2) h3, steady_heap hg (fun r e => (hr r e).2) h4, h5⟩
          · exact ⟨vc, by simpa [frs, keysT] using HA6.out, HM6.out, HBS.out, HB96.out, HG0.out, HV9.out⟩
          · intro y a' _ W W' row hs hg hr
            obtain ⟨Bx, h1, h2⟩ := hs
            exact ⟨Bx, steady_heap hg (fun r e => (hr r e).2) h1, h2⟩
          · intro l pre y W K hi hK
            simp only [Stp.val]
            gi_wp2
            obtain ⟨vl, h1, h2, h3, h4, h5⟩ := hi
            refine hK _ _ ((KeepsOthers.alloc _ _).from _) ((KpS.refl _ _ W).alloc h1.keep.size (lt_of_heap h3) _) ⟨vl, h1.keeps0 ((Keeps.refl _ _).alloc _), h2.keeps (KeepsD.of0 ((Keeps.refl _ _).alloc _)), ((Keeps.refl (fun _ => False) W).alloc _).heap h3 (fun h => h), ((Keeps.refl (fun _ => False) W).alloc _).heap h4 (fun h => h), h5⟩ ⟨W.heap.size, heap_alloc_new W _, rfl⟩
          · rintro l pre y a' W hl - ⟨vl, h1, h2, h3, h4, h5, h6⟩ ⟨Bx, hBx, rfl⟩ hlt
            have x1c := h1.x1.cell
            have x1f := h1.x1.frozen
            have x3c := h1.x3.cell
            have c9 : W.cell? ⟨b9, 0, none⟩ = some (.int .u32 (e.to : Int)) := by rw [cell_of_blk h4]; rfl
            have y0 : W.cell? ⟨Bx, 0, none⟩ = some (.int .i64 (y.1.op : Int)) := by rw [cell_of_blk hBx]; rfl
            have y2 : W.cell? ⟨Bx, 2, none⟩ = some (.int .u32 (y.1.to : Int)) := by rw [cell_of_blk hBx]; rfl
            have hBxl := lt_of_heap hBx
            have l1 := h1.x1.lt
            have l3 := h1.x3.lt
            have l9 := lt_of_heap h4
            have hnd : (keysT (T ++ frs e (keysT T) (pre.map fun y => y.1))).Nodup := by
              rw [keysT_append, frs_keys]; exact nodup_freshs HOK.out.nodup
            have hsn := frs_snoc e (pre.map fun y => y.1) y.1 (keysT T)
            by_cases hm : y.1.to ∈ keysT T ++ keysT (frs e (keysT T) (pre.map fun y => y.1))
            · obtain ⟨f, hf, hfy⟩ : ∃ f ∈ T ++ frs e (keysT T) (pre.map fun y => y.1), f.to = y.1.to := by
                rw [← keysT_append] at hm
                obtain ⟨f, h1, h2⟩ := List.mem_map.1 hm
                exact ⟨f, h1, h2⟩
              have hlk := (h1.map.run_lookup_hit (P := Try.prog) Try.underlying98 Try.underlying54 (parL_nodup hnd) (parL_mem hf)).1
              rw [hfy] at hlk
              rw [if_pos hm, List.append_nil] at hsn
              have H1 := Lib.hid h1; have H2 := Lib.hid h2; have H3 := Lib.hid h3; have H4 := Lib.hid h4; have H5 := Lib.hid h5; have H6 := Lib.hid h6; have HSN := Lib.hid hsn
              clear h1 h2 h3 h4 h5 h6 hsn hm hnd hBx hf hfy
              gi_wp2
              refine ⟨(KeepsOthers.alloc _ _).from _, (KpS.refl _ _ W).alloc H1.out.keep.size (lt_of_heap H3.out) _, ⟨vl, ?_, H2.out.keeps (KeepsD.of0 ((Keeps.refl _ _).alloc _)), ((Keeps.refl (fun _ => False) W).alloc _).heap H3.out (fun h => h), ((Keeps.refl (fun _ => False) W).alloc _).heap H4.out (fun h => h), H5.out, H6.out⟩⟩
              have e1 : frs e (keysT T) ((pre ++ [y]).map fun y => y.1) = frs e (keysT T) (pre.map fun y => y.1) := by rw [List.map_append]; exact HSN.out
              rw [e1]
              exact H1.out.keeps0 ((Keeps.refl _ _).alloc _)
            · have kal := (Keeps.refl (fun _ => False) W).alloc (.cells #[.int .u32 0, .int .i64 0] 97)
              have hm2 : y.1.to ∉ keysT (T ++ frs e (keysT T) (pre.map fun y => y.1)) := by rw [keysT_append]; exact hm
              have hlk := ((h1.map).run_lookup_miss (P := Try.prog) Try.underlying98 Try.underlying54 (z := .agg #[.int .u32 0, .int .i64 0]) (by simp [Try.zeroValue97]) (parL_miss hm2)).1
              obtain ⟨W1, hrunU, hI1, hK1⟩ := ((h1.map.alloc (.cells #[.int .u32 0, .int .i64 0] 97))).run_update_new (P := Try.prog) Try.underlying98 Try.underlying54 (parL_miss hm2) (.agg #[.int .u32 (e.to : Int), .int .i64 (y.1.op : Int)])
              have hS1 := (h1.keeps0 kal).see (e := e.of y.1) hI1 hK1
              have hb2 := box_not_map h1.map h1.x1
              have hbx2 : Bx ≠ b2 := by rintro rfl; obtain ⟨es, c, hb, _⟩ := h1.map; rw [hBx] at hb; cases hb
              have hbs2 : W4.heap.size + 1 ≠ b2 := by rintro rfl; obtain ⟨es, c, hb, _⟩ := h1.map; rw [h3] at hb; cases hb
              have hb92 : b9 ≠ b2 := by rintro rfl; obtain ⟨es, c, hb, _⟩ := h1.map; rw [h4] at hb; cases hb
              have z1c := hS1.x1.cell
              have z1f := hS1.x1.frozen
              have z3c := hS1.x3.cell
              have y2' : W1.cell? ⟨Bx, 2, none⟩ = some (.int .u32 (y.1.to : Int)) := hK1.cell (kal.cell y2 (fun h => h)) hbx2
              have zs := hS1.x1.lt
              have zb := lt_of_heap (hK1.heap (kal.heap hBx (fun h => h)) hbx2)
              rw [if_neg hm] at hsn
              have hfl : (keysT (frs e (keysT T) (pre.map fun y => y.1))).length ≤ 40 := by
                rw [frs_keys]
                have e1 := freshs_le (seen := keysT T) (xs := (pre.map fun y => y.1).map Stp.to)
                rw [List.length_map, List.length_map] at e1
                have := HWL.out; omega
              obtain ⟨sk, hsk⟩ : ∃ sk, q' ++ keysT (frs e (keysT T) (pre.map fun y => y.1)) = sk := ⟨_, rfl⟩
              have hlen : sk.length ≤ 2040 := by
                have := HQL.out; have := HTF.out
                rw [← hsk, List.length_append]; omega
              rw [hsk] at hS1
              have HSK := Lib.hid hsk
              clear hsk
              have hlowW : w.heap.size ≤ W1.heap.size := hS1.keep.size
              have HROW := Lib.hid (hS1.line.keeps ((Keeps.refl (fun _ => False) W1).alloc (.cells #[.int .u32 (y.1.to : Int)] 54)) (fun _ _ h => h))
              have H1 := Lib.hid h1; have H2 := Lib.hid h2; have H3 := Lib.hid h3; have H4 := Lib.hid h4; have H5 := Lib.hid h5; have H6 := Lib.hid h6; have HSN := Lib.hid hsn; have HS1 := Lib.hid hS1; have HK1 := Lib.hid hK1; have HNB := Lib.hid hbs2; have HN9 := Lib.hid hb92; have HI1 := Lib.hid hI1
              clear h1 h2 h3 h4 h5 h6 hsn hm hm2 hnd hBx hS1 hK1 hI1 kal hb2 hbx2 hbs2 hb92 hfl
              gi_wp2_with (gi_at_builtin; refine wpListIn_append_tail _ rfl (.tmp 57) (.tmp 60) 45 rfl w.heap.size 54 i0 _ 4 Try.underlying45 hi0 hz0 hz1 hz2 rfl vl (sk.map encW) rfl HROW.out ⟨W1.heap.size, 0, none⟩ 1 (.int .u32 (y.1.to : Int)) rfl ?_ rfl sk.length (by simp) (by unfold maxLen; omega) (by omega) (by simp; omega) (W1.heap.size + 1) (by simp) ?_)
              · exact (Boxed.new W1 _ _).cell
              intro g4 off4 cap4 W2' hown2 hgrow2 hat2 hlt2
              have hbx1 : W2'.heap[b1]? = some (.cells #[vl] 45 (0, 0)) := ((Keeps.refl (fun b => vl.ownBlock = some b) _).grown hgrow2 (fun k hk => .inl hk)).heap (((Keeps.refl (fun _ => False) W1).alloc _).heap HS1.out.x1 (fun h => h)) HS1.out.row1
              have v1c : W2'.cell? ⟨b1, 0, none⟩ = some vl := (cell_of_blk hbx1).trans rfl
              have v1f : W2'.frozen? ⟨b1, 0, none⟩ = false := frozen_of_blk hbx1
              have v1l := lt_of_heap hbx1
              have HP2 := Lib.hid (HS1.out.push (x := y.1.to) hown2 hgrow2 hat2)
              have HX1 := Lib.hid hbx1
              have HG2 := Lib.hid hgrow2
              have HAT2 := Lib.hid hat2
              clear hown2 hgrow2 hat2 hlt2 hbx1
              gi_wp2
              have hk : Keeps (fun b => b = b2 ∨ b = b1 ∨ vl.ownBlock = some b) W (W2'.setCell ⟨b1, 0, none⟩ (.slice (some ⟨g4, off4, none⟩) (sk.length + 1) cap4)) := by
                have q1 : Keeps (fun b => b = b2 ∨ b = b1 ∨ vl.ownBlock = some b) W W1 := (((Keeps.refl (fun _ => False) W).alloc (.cells #[.int .u32 0, .int .i64 0] 97)).mono (fun _ _ h => h.elim)).trans (HK1.out.mono (fun _ _ h => .inl h))
                have q2 : Keeps (fun b => b = b2 ∨ b = b1 ∨ vl.ownBlock = some b) W1 W2' := (((Keeps.refl (fun _ => False) W1).alloc (.cells #[.int .u32 (y.1.to : Int)] 54)).mono (fun _ _ h => h.elim)).trans (((Keeps.refl (fun b => vl.ownBlock = some b) _).grown HG2.out (fun k hk => .inl hk)).mono (fun _ _ h => .inr (.inr h)))
                exact (q1.trans q2).trans ((Keeps.refl _ W2').setCell (p := ⟨b1, 0, none⟩) (.inl (.inr (.inl rfl))) _)
              have hS : ∀ b, b = b2 ∨ b = b1 ∨ vl.ownBlock = some b → w.heap.size ≤ b ∧ b < W6.heap.size + W.heap.size ∧ b ≠ W4.heap.size + 1 ∧ b ≠ b9 ∧ W.heap[b]? ≠ some (.deferred (some [])) ∧ (b = b2 ∨ ∃ cs t fr, W.heap[b]? = some (.cells cs t fr)) := by
                rintro b (rfl | rfl | hb)
                · exact ⟨H1.out.l2, by have := H1.out.map.lt; omega, fun e => HNB.out e.symm, fun e => HN9.out e.symm, map_not_deferred H1.out.map, .inl rfl⟩
                · refine ⟨H1.out.l1, by have := H1.out.x1.lt; omega, ?_, ?_, cells_not_deferred H1.out.x1, .inr ⟨_, _, _, H1.out.x1⟩⟩
                  · intro e'
                    have h := (show W.heap[b]? = _ from H1.out.x1)
                    rw [e', H3.out] at h
                    simp at h
                  · intro e'
                    have h := (show W.heap[b]? = _ from H1.out.x1)
                    rw [e', H4.out] at h
                    simp at h
                · obtain ⟨cur, hcur⟩ := H1.out.line.block b hb
                  exact ⟨(H1.out.line.lt b hb).1, by have := (H1.out.line.lt b hb).2; omega, H5.out b hb, H6.out b hb, H1.out.line.not_deferred b hb, .inr ⟨_, _, _, hcur⟩⟩
              refine ⟨⟨hk.size, fun k o hB hk0 hc => ?_⟩, KpS.ofKeeps hk H1.out.keep.size (fun k hlt hs => by have := (hS k hs).1; omega) (lt_of_heap H3.out) (fun hs => (hS _ hs).2.2.1 rfl), ⟨.slice (some ⟨g4, off4, none⟩) (sk.length + 1) cap4, ?_, H2.out.keeps (KeepsD.of hk (fun b hs => (hS b hs).2.2.2.2.1)), hk.heap H3.out (fun hs => (hS _ hs).2.2.1 rfl), hk.heap H4.out (fun hs => (hS _ hs).2.2.2.1 rfl), ?_, ?_⟩⟩
              · refine hk.heap hk0 (fun hs => ?_)
                rcases (hS k hs).2.2.2.2.2 with rfl | ⟨cs, t, fr, e'⟩
                · omega
                · rw [e'] at hk0; cases hk0; cases hc
              · have e1 : frs e (keysT T) ((pre ++ [y]).map fun y => y.1) = frs e (keysT T) (pre.map fun y => y.1) ++ [e.of y.1] := by rw [List.map_append]; exact HSN.out
                rw [e1, keysT_append, ← List.append_assoc, ← List.append_assoc, HSK.out]
                exact HP2.out
              · intro k hk' e'
                simp [Value.ownBlock] at hk'
                subst hk'
                rcases HAT2.out with e2 | e2
                · exact H5.out g4 e2 e'
                · have := lt_of_heap H3.out; have := HK1.out.size; simp at this; omega
              · intro k hk' e'
                simp [Value.ownBlock] at hk'
                subst hk'
                rcases HAT2.out with e2 | e2
                · exact H6.out g4 e2 e'
                · have := lt_of_heap H4.out; have := HK1.out.size; simp at this; omega
          · rintro D ys W hD hys ⟨vl, h1, h2, h3, h4, h5, h6⟩ hd
            have hys' : (ys.map fun y => y.1) = wsteps ops e.to := hys
            rw [hys', ← HNX.out] at h1
            have HM7 := Lib.hid (HM6.out.cons h2 hD (by omega) hd)
            have H1 := Lib.hid h1
            have hle : i + 1 ≤ (tree ops st (i + 1)).length := by
              rw [HNX.out, List.length_append]; have := HIT.out; omega
            have HLE := Lib.hid hle
            have HQ2 := Lib.hid (show q' ++ keysT (frs e (keysT T) (wsteps ops e.to)) = (keysT (tree ops st (i + 1))).drop (i + 1) by
              rw [HNX.out, keysT_append, List.drop_append_of_le_length (by rw [keysT_length]; exact HIT.out), HQQ.out])
            have HNO2 := Lib.hid (show ∀ (j : Nat) f, j < i + 1 → (tree ops st (i + 1))[j]? = some f → acc f.to = false by
              intro j f hj hf
              rw [HNX.out, List.getElem?_append_left (by have := HIT.out; omega)] at hf
              by_cases hji : j < i
              · exact HNO.out j f hji hf
              · have : j = i := by omega
                subst this
                rw [HTI.out] at hf; cases hf; exact hacc)
            have HMEA := Lib.hid (show l.length + 1 - (mapLen W b2 - boxLen W b1) < l.length + 1 - (mapLen wr b2 - boxLen wr b1) by
              obtain ⟨c1, c2⟩ := H1.out.count
              obtain ⟨c3, c4⟩ := HCO.out
              have hq1 := congrArg List.length HQ2.out
              rw [List.length_drop, keysT_length] at hq1
              have hq2 := HQL.out
              have hq3 := HTL.out
              have hq4 := HIT.out
              have hq5 := HLE.out
              rw [c1, c2, c3, c4, List.length_cons, hq1]
              omega)
            clear h1 h2 h3 h4 h5 h6 hd hys hys' hle
            gi_wp2
            exact ⟨⟨mark D :: ds, _, _, _, _, _, _, _, _, _, _, _, _, _, _, _, _, _, _, _, _, _, _, _, _, _, _, _, _, _, _, _, _, _, _, _, _, _, _, _, _, _, _, _, _, _, _, _, _, _, _, _, _, _, i + 1, _, vl, ⟨H1.out, HQ2.out, HNO2.out, HM7.out⟩, HLE.out, rfl⟩, HMEA.out⟩
          · exact fun _ _ _ _ _ _ h _ => h.elim

theorem first_any (w : World) (b st g0 base : Nat) (v : Value) (ops : List Wop) (hw : WordsAt w base b st g0 v ops) (hops : WopsOk ops) (hmany : ops.length ≤ 40) (hst : st < 4294967296) (l : List Nat) (hl : reached ops st = some l)
    (ga : Nat) (pa cb : Array Value) (acc : Nat → Bool) (hask : Asked w ga pa cb acc) :
    Calls Try.prog 23 #[.iface 44 (.pointer (some ⟨b, 0, none⟩)), .func (.func ga) pa cb] w (FirstPost ops st acc w) := callsIn_wide.1 (first_in w b st g0 base v ops hw hops hmany hst l hl ga pa cb acc hask)

end Go.Proofs.Ytjcgkmodmjckjaa

namespace Go.Proofs.Ytjcgkmodmjckjaa.U
open Go.RowKit

structure Ent where
  blk : Nat
  item : Int
  key : Int
  time : Int

def Ent.ptr (e : Ent) : Value := .pointer (some ⟨e.blk, 0, none⟩)

def lessE (a b : Ent) : Bool := decide (a.key < b.key) || (a.key == b.key && decide (a.time < b.time))

/-! ### Swap -/
def swp (L : List Ent) (i k : Nat) : List Ent :=
  match L[i]?, L[k]? with
  | some a, some b => (L.set i b).set k a
  | _, _ => L

theorem swp_eq {L : List Ent} {i k : Nat} {a b : Ent} (hi : L[i]? = some a) (hk : L[k]? = some b) : swp L i k = (L.set i b).set k a := by simp [swp, hi, hk]

theorem length_swp (L : List Ent) (i k : Nat) : (swp L i k).length = L.length := by
  unfold swp; split <;> simp

theorem get_swp {L : List Ent} {i k : Nat} {a b : Ent} (hi : L[i]? = some a) (hk : L[k]? = some b) (j : Nat) :
    (swp L i k)[j]? = if j = k then some a else if j = i then some b else L[j]? := by
  have li : i < L.length := (List.getElem?_eq_some_iff.1 hi).1
  have lk : k < L.length := (List.getElem?_eq_some_iff.1 hk).1
  rw [swp_eq hi hk, List.getElem?_set]
  by_cases h : k = j
  · subst h; simp [lk]
  · rw [if_neg h, if_neg (fun e => h e.symm), List.getElem?_set]
    by_cases h' : i = j
    · subst h'; simp [li]
    · rw [if_neg h', if_neg (fun e => h' e.symm)]

theorem swp_self {L : List Ent} {i : Nat} {a : Ent} (hi : L[i]? = some a) : swp L i i = L := by
  apply List.ext_getElem?
  intro j
  rw [get_swp hi hi]
  by_cases h : j = i
  · subst h; simp [hi]
  · simp [h]

def hfoot (v : Value) (L : List Ent) (b : Nat) : Prop := v.ownBlock = some b ∨ ∃ e ∈ L, e.blk = b

theorem mem_swp {L : List Ent} {i k : Nat} {e : Ent} : e ∈ swp L i k → e ∈ L := by
  intro h
  cases hi : L[i]? with
  | none => simpa [swp, hi] using h
  | some a =>
    cases hk : L[k]? with
    | none => simpa [swp, hi, hk] using h
    | some b =>
      obtain ⟨j, hj⟩ := List.mem_iff_getElem?.1 h
      rw [get_swp hi hk] at hj
      split at hj
      · exact (Option.some.inj hj) ▸ List.mem_of_getElem? hi
      · split at hj
        · exact (Option.some.inj hj) ▸ List.mem_of_getElem? hk
        · exact List.mem_of_getElem? hj

end Go.Proofs.Ytjcgkmodmjckjaa.U

namespace Go.Proofs.Ytjcgkmodmjckjaa.U
open Go.RowKit

theorem hfoot_swp {v : Value} {L : List Ent} {i k b : Nat} (h : hfoot v (swp L i k) b) : hfoot v L b := by
  rcases h with h | ⟨e, he, rfl⟩
  · exact .inl h
  · exact .inr ⟨e, mem_swp he, rfl⟩

def lessAt (L : List Ent) (i k : Nat) : Bool :=
  match L[i]?, L[k]? with
  | some a, some b => lessE a b
  | _, _ => false

theorem lessAt_eq {L : List Ent} {i k : Nat} {a b : Ent} (hi : L[i]? = some a) (hk : L[k]? = some b) : lessAt L i k = lessE a b := by simp [lessAt, hi, hk]

def upL (L : List Ent) (j : Nat) : List Ent :=
  if j = 0 then L else if lessAt L j ((j - 1) / 2) then upL (swp L ((j - 1) / 2) j) ((j - 1) / 2) else L
termination_by j
decreasing_by omega

def downL (L : List Ent) (n i : Nat) : List Ent × Nat :=
  if n ≤ 2 * i + 1 then (L, i) else
  let j := if 2 * i + 2 < n && lessAt L (2 * i + 2) (2 * i + 1) then 2 * i + 2 else 2 * i + 1
  if lessAt L j i then downL (swp L i j) n j else (L, i)
termination_by n - i
decreasing_by split <;> omega

theorem downL_stop {L : List Ent} {n i : Nat} (h : n ≤ 2 * i + 1) : downL L n i = (L, i) := by rw [downL, if_pos h]
theorem downL_go {L : List Ent} {n i j : Nat} (h : ¬ n ≤ 2 * i + 1) (hj : (if 2 * i + 2 < n && lessAt L (2 * i + 2) (2 * i + 1) then 2 * i + 2 else 2 * i + 1) = j) :
    downL L n i = if lessAt L j i then downL (swp L i j) n j else (L, i) := by
  rw [downL, if_neg h]; simp only [hj]

theorem ret_bool {a b : Bool} (h : a = b) : Ending.returned (.bool a) = .returned (.bool b) := by rw [h]


end Go.Proofs.Ytjcgkmodmjckjaa.U

namespace Go.Proofs.Ytjcgkmodmjckjaa.U
open Go.RowKit

def fixL (L : List Ent) (i : Nat) : List Ent := if i < (downL L L.length i).2 then (downL L L.length i).1 else upL (downL L L.length i).1 i

/-! ### the slice's own Pop -/
/-- What heap.Pop leaves: the list behind the swap and the sinking, its last element. -/
def popL (L : List Ent) : List Ent := (downL (swp L 0 (L.length - 1)) (L.length - 1) 0).1

theorem length_downL (L : List Ent) (n i : Nat) : (downL L n i).1.length = L.length := by
  induction hm : n - i using Nat.strongRecOn generalizing L i with
  | _ m ih =>
    by_cases h : n ≤ 2 * i + 1
    · rw [downL_stop h]
    · rw [downL_go h rfl]
      generalize hj : (if (decide (2 * i + 2 < n) && lessAt L (2 * i + 2) (2 * i + 1)) = true then 2 * i + 2 else 2 * i + 1) = j
      have hij : i < j := by subst hj; split <;> omega
      split
      · rw [ih (n - j) (by omega) _ _ rfl, length_swp]
      · rfl

theorem length_popL (L : List Ent) : (popL L).length = L.length := by unfold popL; rw [length_downL, length_swp]

end Go.Proofs.Ytjcgkmodmjckjaa.U

namespace Go.Proofs.Ytjcgkmodmjckjaa.U
open Go.RowKit

def at' (L : List Ent) (i : Nat) : Ent := L.getD i ⟨0, 0, 0, 0⟩
theorem at_eq {L : List Ent} {i : Nat} {e : Ent} (h : L[i]? = some e) : at' L i = e := by simp [at', h]
theorem get_at {L : List Ent} {i : Nat} (h : i < L.length) : L[i]? = some (at' L i) := by simp [at', h]
theorem at_mem {L : List Ent} {i : Nat} (h : i < L.length) : at' L i ∈ L := List.mem_of_getElem? (get_at h)

def leE (a b : Ent) : Prop := lessE b a = false
theorem leE_iff (a b : Ent) : leE a b ↔ a.key < b.key ∨ (a.key = b.key ∧ a.time ≤ b.time) := by
  unfold leE lessE; simp; omega
theorem leE.refl (a : Ent) : leE a a := by rw [leE_iff]; right; exact ⟨rfl, Int.le_refl _⟩
theorem leE.trans {a b c : Ent} (h : leE a b) (k : leE b c) : leE a c := by rw [leE_iff] at *; omega
theorem leE_of_less {a b : Ent} (h : lessE a b = true) : leE a b := by
  rw [leE_iff]; unfold lessE at h; simp at h; omega

theorem lessAt_at {L : List Ent} {i k : Nat} (hi : i < L.length) (hk : k < L.length) : lessAt L i k = lessE (at' L i) (at' L k) := lessAt_eq (get_at hi) (get_at hk)

theorem at_swp {L : List Ent} {i k : Nat} (hi : i < L.length) (hk : k < L.length) (j : Nat) : at' (swp L i k) j = if j = k then at' L i else if j = i then at' L k else at' L j := by
  have := get_swp (get_at hi) (get_at hk) j
  simp only [at', List.getD, this]
  split
  · rfl
  · split <;> rfl

theorem perm_swp (L : List Ent) (i k : Nat) : (swp L i k).Perm L := by
  cases hi : L[i]? with
  | none => simp [swp, hi]
  | some a =>
    cases hk : L[k]? with
    | none => simp [swp, hi, hk]
    | some b =>
      have li : i < L.length := (List.getElem?_eq_some_iff.1 hi).1
      have lk : k < L.length := (List.getElem?_eq_some_iff.1 hk).1
      have ea := (List.getElem?_eq_some_iff.1 hi).2
      have eb := (List.getElem?_eq_some_iff.1 hk).2
      have hp := Array.swap_perm (xs := L.toArray) (i := i) (j := k) (by simpa using li) (by simpa using lk)
      have := Array.perm_iff_toList_perm.1 hp
      have e : (L.toArray.swap i k (by simpa using li) (by simpa using lk)).toList = swp L i k := by
        rw [swp_eq hi hk]
        simp [Array.swap, ea, eb]
      rw [e] at this
      simpa using this

theorem perm_upL (L : List Ent) (j : Nat) : (upL L j).Perm L := by
  induction j using Nat.strongRecOn generalizing L with
  | _ j ih =>
    rw [upL]
    split
    · exact List.Perm.refl _
    · split
      · exact (ih _ (by omega) _).trans (perm_swp _ _ _)
      · exact List.Perm.refl _

/-- What the sinking does, step by step. -/
theorem downL_ind {P : List Ent → Nat → List Ent × Nat → Prop} {n : Nat} (h1 : ∀ L i, n ≤ 2 * i + 1 → P L i (L, i))
    (h2 : ∀ L i j, ¬ n ≤ 2 * i + 1 → (if (decide (2 * i + 2 < n) && lessAt L (2 * i + 2) (2 * i + 1)) = true then 2 * i + 2 else 2 * i + 1) = j → lessAt L j i = false → P L i (L, i))
    (h3 : ∀ L i j, ¬ n ≤ 2 * i + 1 → (if (decide (2 * i + 2 < n) && lessAt L (2 * i + 2) (2 * i + 1)) = true then 2 * i + 2 else 2 * i + 1) = j → lessAt L j i = true → P (swp L i j) j (downL (swp L i j) n j) → P L i (downL (swp L i j) n j)) :
    ∀ L i, P L i (downL L n i) := by
  intro L i
  induction hm : n - i using Nat.strongRecOn generalizing L i with
  | _ m ih =>
    by_cases h : n ≤ 2 * i + 1
    · rw [downL_stop h]; exact h1 L i h
    · obtain ⟨j, hj⟩ : ∃ j, (if (decide (2 * i + 2 < n) && lessAt L (2 * i + 2) (2 * i + 1)) = true then 2 * i + 2 else 2 * i + 1) = j := ⟨_, rfl⟩
      rw [downL_go h hj]
      have hij : i < j := by subst hj; split <;> omega
      cases hc : lessAt L j i
      · simp only [Bool.false_eq_true, if_false]; exact h2 L i j h hj hc
      · simp only [if_true]; exact h3 L i j h hj hc (ih (n - j) (by omega) _ _ rfl)

theorem child_lt {L : List Ent} {n i j : Nat} (h : ¬ n ≤ 2 * i + 1) (hj : (if (decide (2 * i + 2 < n) && lessAt L (2 * i + 2) (2 * i + 1)) = true then 2 * i + 2 else 2 * i + 1) = j) : j < n ∧ i < j ∧ (j - 1) / 2 = i := by
  subst hj
  split
  · rename_i hc; simp at hc; omega
  · omega

theorem perm_downL (L : List Ent) (n i : Nat) : (downL L n i).1.Perm L :=
  downL_ind (P := fun L _ r => r.1.Perm L) (fun _ _ _ => List.Perm.refl _) (fun _ _ _ _ _ _ => List.Perm.refl _) (fun _ _ _ _ _ _ h => h.trans (perm_swp _ _ _)) L i

theorem downL_beyond (L : List Ent) (n i : Nat) (hn : n ≤ L.length) : ∀ k, n ≤ k → at' (downL L n i).1 k = at' L k :=
  downL_ind (P := fun L _ r => n ≤ L.length → ∀ k, n ≤ k → at' r.1 k = at' L k) (fun _ _ _ _ _ _ => rfl) (fun _ _ _ _ _ _ _ _ _ => rfl)
    (fun L i j h hj _ ih hn k hk => by
      obtain ⟨h1, h2, h3⟩ := child_lt h hj
      rw [ih (by rw [length_swp]; exact hn) k hk, at_swp (by omega) (by omega), if_neg (by omega), if_neg (by omega)]) L i hn

def Heap (L : List Ent) (n : Nat) : Prop := ∀ c, 0 < c → c < n → leE (at' L ((c - 1) / 2)) (at' L c)

theorem heap_downL (L : List Ent) (n i : Nat) (hn : n ≤ L.length) (H1 : ∀ c, 0 < c → c < n → (c - 1) / 2 ≠ i → c ≠ i → leE (at' L ((c - 1) / 2)) (at' L c))
    (H2 : ∀ c, 0 < c → c < n → (c - 1) / 2 = i → 0 < i → leE (at' L ((i - 1) / 2)) (at' L c)) :
    ((downL L n i).2 = i ∧ (downL L n i).1 = L ∧ ∀ c, 0 < c → c < n → (c - 1) / 2 = i → leE (at' L i) (at' L c)) ∨ (i < (downL L n i).2 ∧ Heap (downL L n i).1 n) := by
  refine downL_ind (n := n) (P := fun L i r => n ≤ L.length → (∀ c, 0 < c → c < n → (c - 1) / 2 ≠ i → c ≠ i → leE (at' L ((c - 1) / 2)) (at' L c)) → (∀ c, 0 < c → c < n → (c - 1) / 2 = i → 0 < i → leE (at' L ((i - 1) / 2)) (at' L c)) →
    (r.2 = i ∧ r.1 = L ∧ ∀ c, 0 < c → c < n → (c - 1) / 2 = i → leE (at' L i) (at' L c)) ∨ (i < r.2 ∧ Heap r.1 n)) ?_ ?_ ?_ L i hn H1 H2
  · intro L i h hn H1 H2
    exact .inl ⟨rfl, rfl, fun c h0 hc hp => by omega⟩
  · intro L i j h hj hl hn H1 H2
    obtain ⟨h1, h2, h3⟩ := child_lt h hj
    refine .inl ⟨rfl, rfl, fun c h0 hc hp => ?_⟩
    have hji : leE (at' L i) (at' L j) := by rw [lessAt_at (by omega) (by omega)] at hl; exact hl
    -- c is a child of i: j is the smaller one
    have hcc : c = 2 * i + 1 ∨ c = 2 * i + 2 := by omega
    refine hji.trans ?_
    by_cases hb : (decide (2 * i + 2 < n) && lessAt L (2 * i + 2) (2 * i + 1)) = true
    · rw [if_pos hb] at hj
      subst hj
      simp at hb
      rw [lessAt_at (by omega) (by omega)] at hb
      rcases hcc with rfl | rfl
      · exact leE_of_less hb.2
      · exact leE.refl _
    · rw [if_neg hb] at hj
      subst hj
      simp at hb
      rcases hcc with rfl | rfl
      · exact leE.refl _
      · have := hb (by omega)
        rw [lessAt_at (by omega) (by omega)] at this
        exact this
  · intro L i j h hj hl ih hn H1 H2
    obtain ⟨h1, h2, h3⟩ := child_lt h hj
    have hlt : lessE (at' L j) (at' L i) = true := by rw [lessAt_at (by omega) (by omega)] at hl; exact hl
    have hsw : ∀ k, at' (swp L i j) k = if k = j then at' L i else if k = i then at' L j else at' L k := at_swp (by omega) (by omega)
    have hmin : ∀ c, 0 < c → c < n → (c - 1) / 2 = i → leE (at' L j) (at' L c) := by
      intro c h0 hc hp
      have hcc : c = 2 * i + 1 ∨ c = 2 * i + 2 := by omega
      by_cases hb : (decide (2 * i + 2 < n) && lessAt L (2 * i + 2) (2 * i + 1)) = true
      · rw [if_pos hb] at hj
        subst hj
        simp at hb
        rw [lessAt_at (by omega) (by omega)] at hb
        rcases hcc with rfl | rfl
        · exact leE_of_less hb.2
        · exact leE.refl _
      · rw [if_neg hb] at hj
        subst hj
        simp at hb
        rcases hcc with rfl | rfl
        · exact leE.refl _
        · have := hb (by omega)
          rw [lessAt_at (by omega) (by omega)] at this
          exact this
    have hall : ∀ c, 0 < c → c < n → (c - 1) / 2 ≠ j → c ≠ j → leE (at' (swp L i j) ((c - 1) / 2)) (at' (swp L i j) c) := by
      intro c h0 hc hp hcj
      rw [hsw, hsw, if_neg hp, if_neg hcj]
      by_cases hpi : (c - 1) / 2 = i
      · rw [if_pos hpi, if_neg (by omega)]
        exact hmin c h0 hc hpi
      · rw [if_neg hpi]
        by_cases hci : c = i
        · subst hci
          rw [if_pos rfl]
          exact H2 j (by omega) h1 h3 h0
        · rw [if_neg hci]
          exact H1 c h0 hc hpi hci
    have hih := ih (by rw [length_swp]; exact hn) hall (by
      intro c h0 hc hp hj0
      rw [hsw, hsw, if_neg (by omega), if_pos h3, if_neg (by omega), if_neg (by omega)]
      have := H1 c h0 hc (by omega) (by omega)
      rw [hp] at this
      exact this)
    rcases hih with ⟨e1, e2, e3⟩ | ⟨e1, e2⟩
    · refine .inr ⟨by omega, ?_⟩
      rw [e2]
      intro c h0 hc
      by_cases hp : (c - 1) / 2 = j
      · rw [hp]; exact e3 c h0 hc hp
      · by_cases hcj : c = j
        · subst hcj
          rw [h3, hsw, hsw, if_neg (by omega), if_pos rfl, if_pos rfl]
          exact leE_of_less hlt
        · exact hall c h0 hc hp hcj
    · exact .inr ⟨by omega, e2⟩

theorem heap_upL (L : List Ent) (n j : Nat) (hn : n ≤ L.length) (hj : j < n) (H1 : ∀ c, 0 < c → c < n → c ≠ j → leE (at' L ((c - 1) / 2)) (at' L c))
    (H2 : ∀ c, 0 < c → c < n → (c - 1) / 2 = j → 0 < j → leE (at' L ((j - 1) / 2)) (at' L c)) : Heap (upL L j) n := by
  induction j using Nat.strongRecOn generalizing L with
  | _ j ih =>
    rw [upL]
    split
    · rename_i h0; subst h0; intro c hc hcn; exact H1 c hc hcn (by omega)
    · rename_i h0
      have hlt : (j - 1) / 2 < L.length := by omega
      cases hl : lessAt L j ((j - 1) / 2)
      · simp only [Bool.false_eq_true, if_false]
        rw [lessAt_at (by omega) hlt] at hl
        intro c hc hcn
        by_cases e : c = j
        · subst e; exact hl
        · exact H1 c hc hcn e
      · simp only [if_true]
        rw [lessAt_at (by omega) hlt] at hl
        have hsw : ∀ k, at' (swp L ((j - 1) / 2) j) k = if k = j then at' L ((j - 1) / 2) else if k = (j - 1) / 2 then at' L j else at' L k := at_swp hlt (by omega)
        generalize hi : (j - 1) / 2 = i at *
        refine ih i (by omega) _ (by rw [length_swp]; exact hn) (by omega) ?_ ?_
        · intro c hc hcn hci
          rw [hsw, hsw]
          by_cases hcj : c = j
          · subst hcj
            rw [if_pos rfl, hi, if_neg (by omega), if_pos rfl]
            exact leE_of_less hl
          · rw [if_neg hcj, if_neg hci]
            by_cases hpj : (c - 1) / 2 = j
            · rw [if_pos hpj]; exact H2 c hc hcn hpj (by omega)
            · rw [if_neg hpj]
              by_cases hpi : (c - 1) / 2 = i
              · rw [if_pos hpi]
                have := H1 c hc hcn hcj
                rw [hpi] at this
                exact (leE_of_less hl).trans this
              · rw [if_neg hpi]; exact H1 c hc hcn hcj
        · intro c hc hcn hci hi0
          rw [hsw, hsw, if_neg (by omega), if_neg (by omega)]
          have hpi := H1 i hi0 (by omega) (by omega)
          by_cases hcj : c = j
          · rw [if_pos hcj]; exact hpi
          · rw [if_neg hcj, if_neg (by omega)]
            have := H1 c hc hcn hcj
            rw [hci] at this
            exact hpi.trans this

theorem heap_min {L : List Ent} {n : Nat} (h : Heap L n) : ∀ i, i < n → leE (at' L 0) (at' L i) := by
  intro i
  induction i using Nat.strongRecOn with
  | _ i ih =>
    intro hi
    by_cases h0 : i = 0
    · subst h0; exact leE.refl _
    · exact (ih ((i - 1) / 2) (by omega) (by omega)).trans (h i (by omega) hi)

/-- The list without its last element, and that element. -/
theorem snoc_of {L : List Ent} {n : Nat} (h : L.length = n + 1) : L = L.take n ++ [at' L n] := by
  have : L.drop n = [at' L n] := by
    apply List.ext_getElem?
    intro i
    rw [List.getElem?_drop]
    cases i with
    | zero => simp [get_at (L := L) (i := n) (by omega)]
    | succ i => simp; omega
  rw [← this, List.take_append_drop]

theorem at_take {L : List Ent} {n i : Nat} (h : i < n) : at' (L.take n) i = at' L i := by simp [at', h]

theorem heap_take {L : List Ent} {n : Nat} (h : Heap L n) : Heap (L.take n) n := by
  intro c h0 hc; rw [at_take (by omega), at_take hc]; exact h c h0 hc

theorem popL_law {L : List Ent} {n : Nat} (hl : L.length = n + 1) (h : Heap L (n + 1)) :
    ∃ R, popL L = R ++ [at' L 0] ∧ R.length = n ∧ Heap R n ∧ (R ++ [at' L 0]).Perm L := by
  have hlen : (popL L).length = n + 1 := by rw [length_popL]; exact hl
  have hp : (popL L).Perm L := (perm_downL _ _ _).trans (perm_swp _ _ _)
  have hsw : ∀ k, at' (swp L 0 n) k = if k = n then at' L 0 else if k = 0 then at' L n else at' L k := at_swp (by omega) (by omega)
  have e0 : popL L = (downL (swp L 0 n) n 0).1 := by unfold popL; rw [hl]; rfl
  have hlast : at' (popL L) n = at' L 0 := by
    rw [e0, downL_beyond _ _ _ (by rw [length_swp]; omega) n (Nat.le_refl _), hsw, if_pos rfl]
  have hs := snoc_of hlen
  rw [hlast] at hs
  refine ⟨(popL L).take n, hs, by rw [List.length_take, hlen]; omega, heap_take ?_, by rw [← hs]; exact hp⟩
  have hd := heap_downL (swp L 0 n) n 0 (by rw [length_swp]; omega) (by
    intro c h0 hc hpc hc0
    rw [hsw, hsw, if_neg (by omega), if_neg hpc, if_neg (by omega), if_neg hc0]
    exact h c h0 (by omega)) (by intro c _ _ _ h; omega)
  rw [e0]
  rcases hd with ⟨d1, d2, d3⟩ | ⟨d1, d2⟩
  · rw [d2]
    intro c h0 hc
    by_cases hpc : (c - 1) / 2 = 0
    · rw [hpc]; exact d3 c h0 hc hpc
    · rw [hsw, hsw, if_neg (by omega), if_neg hpc, if_neg (by omega), if_neg (by omega)]
      exact h c h0 (by omega)
  · exact d2

theorem fixL_law {L : List Ent} {i : Nat} {e : Ent} (hi : i < L.length) (h : Heap L L.length) : Heap (fixL (L.set i e) i) L.length ∧ (fixL (L.set i e) i).Perm (L.set i e) := by
  have hat : ∀ k, k ≠ i → at' (L.set i e) k = at' L k := by
    intro k hk; simp only [at', List.getD, List.getElem?_set]; rw [if_neg (fun e => hk e.symm)]
  have hl : (L.set i e).length = L.length := by simp
  unfold fixL
  rw [hl]
  have hd := heap_downL (L.set i e) L.length i (by omega) (by
    intro c h0 hc hp hci
    rw [hat _ hp, hat _ hci]; exact h c h0 hc) (by
    intro c h0 hc hp hi0
    rw [hat _ (by omega), hat _ (by omega)]
    have a := h c h0 hc
    rw [hp] at a
    exact (h i hi0 hi).trans a)
  rcases hd with ⟨d1, d2, d3⟩ | ⟨d1, d2⟩
  · rw [if_neg (by omega), d2]
    refine ⟨heap_upL _ _ i (by omega) hi ?_ ?_, perm_upL _ _⟩
    · intro c h0 hc hci
      by_cases hp : (c - 1) / 2 = i
      · rw [hp]; exact d3 c h0 hc hp
      · rw [hat _ hp, hat _ hci]; exact h c h0 hc
    · intro c h0 hc hp hi0
      rw [hat _ (by omega), hat _ (by omega)]
      have a := h c h0 hc
      rw [hp] at a
      exact (h i hi0 hi).trans a
  · rw [if_pos d1]
    exact ⟨d2, perm_downL _ _ _⟩

theorem push_law {L : List Ent} {e : Ent} (h : Heap L L.length) : Heap (upL (L ++ [e]) L.length) (L.length + 1) ∧ (upL (L ++ [e]) L.length).Perm (L ++ [e]) := by
  have hat : ∀ k, k < L.length → at' (L ++ [e]) k = at' L k := by
    intro k hk; simp [at', List.getElem?_append_left hk]
  refine ⟨heap_upL _ _ _ (by simp) (by omega) ?_ ?_, perm_upL _ _⟩
  · intro c h0 hc hcl
    rw [hat _ (by omega), hat _ (by omega)]; exact h c h0 (by omega)
  · intro c h0 hc hp; omega

end Go.Proofs.Ytjcgkmodmjckjaa.U

namespace Go.Proofs.Ytjcgkmodmjckjaa.U
open Go.RowKit

def setA (A : List (Int × Int)) (x k : Int) : List (Int × Int) := A.filter (fun p => p.1 != x) ++ [(x, k)]

theorem setA_new {A : List (Int × Int)} {x k : Int} (hx : ∀ p ∈ A, p.1 ≠ x) : setA A x k = A ++ [(x, k)] := by
  unfold setA; congr 1; rw [List.filter_eq_self]; intro p hp; simpa using hx p hp

theorem filter_view (E : List Ent) (x : Int) : (E.filter (fun e => e.item != x)).map (fun e => (e.item, e.key)) = (E.map (fun e => (e.item, e.key))).filter (fun p => p.1 != x) := by
  rw [List.filter_map]; rfl

theorem nodup_setA {A : List (Int × Int)} {x k : Int} (h : (A.map Prod.fst).Nodup) : ((setA A x k).map Prod.fst).Nodup := by
  unfold setA
  rw [List.map_append, List.nodup_append]
  refine ⟨(List.Sublist.map Prod.fst List.filter_sublist).nodup h, by simp, ?_⟩
  intro a ha b hb e
  simp at hb
  subst hb; subst e
  obtain ⟨p, hp, rfl⟩ := List.mem_map.1 ha
  have := (List.mem_filter.1 hp).2
  simp at this

end Go.Proofs.Ytjcgkmodmjckjaa.U

namespace Go.Proofs.Ytjcgkmodmjckjaa.U
open Go.RowKit

theorem step_idelete {P : Program} {ops : Array Oper} {o : Oper} {a : Act} {w : World} {K : Act → World → Prop} {Q : Exit → Act → World → Prop} {E : Prop} {k e : TypeId} {kd : IntKind} {b : Nat} {l : List (Int × Value)}
    (hg : o.guard = none) (m x : Operand) (t t2 : TypeId) (hop : o.op = Op.call { callee := Callee.builtin Builtin.delete, args := #[m, x], argTypes := #[t, t2] }) (ht : P.underlying t = some (.map k e)) (hk : P.underlying k = some (.int kd))
    (h : IMap w b kd l) (hn : (l.map Prod.fst).Nodup) (n : Int) (hm : a.eval m = .map (some b)) (hx : a.eval x = .int kd n)
    (hK : ∀ w', IMap w' b kd (l.filter fun p => p.1 != n) → Keeps (fun k => k = b) w w' → K (a.put o.dst (.tuple #[])) w') :
    if Region.wanted o (yielded ops a.tmps) = true then Oper.wp P o a w K Q else E := by
  have hw : Region.wanted o (yielded ops a.tmps) = true := by simp [Region.wanted, hg]
  rw [if_pos hw]
  obtain ⟨w', hrun, r1, r2⟩ := h.run_delete ht hk hn o.type t2 n
  unfold Oper.wp
  simp [execOp, hop, resolve, invoke, builtin, hm, hx, hrun, Result.andThen]
  exact hK w' r1 r2

def firstMin : List (Int × Int) → Option (Int × Int)
  | [] => none
  | p :: r => match firstMin r with
    | none => some p
    | some q => if q.2 < p.2 then some q else some p

theorem firstMin_none {A : List (Int × Int)} : firstMin A = none ↔ A = [] := by
  cases A with
  | nil => simp [firstMin]
  | cons p r => simp [firstMin]; split <;> (try split) <;> simp

theorem firstMin_mem {A : List (Int × Int)} {q : Int × Int} (h : firstMin A = some q) : q ∈ A := by
  induction A generalizing q with
  | nil => simp [firstMin] at h
  | cons p r ih =>
    simp only [firstMin] at h
    split at h
    · simp at h; subst h; simp
    · rename_i q' hq'
      split at h
      · simp at h; subst h; exact List.mem_cons_of_mem _ (ih hq')
      · simp at h; subst h; simp

theorem firstMin_of {E : List Ent} (ho : E.Pairwise (fun a b => a.time < b.time)) {e0 : Ent} (he : e0 ∈ E) (hm : ∀ e ∈ E, leE e0 e) : firstMin (E.map fun e => (e.item, e.key)) = some (e0.item, e0.key) := by
  induction E with
  | nil => simp at he
  | cons a r ih =>
    obtain ⟨h1, h2⟩ := List.pairwise_cons.1 ho
    simp only [List.map_cons, firstMin]
    rcases List.mem_cons.1 he with rfl | he'
    · cases hf : firstMin (r.map fun e => (e.item, e.key)) with
      | none => rfl
      | some q =>
        obtain ⟨e, he2, hq⟩ := List.mem_map.1 (firstMin_mem hf)
        have := (leE_iff _ _).1 (hm e (by simp [he2]))
        subst hq
        simp only
        rw [if_neg (by simp; omega)]
    · rw [ih h2 he' (fun e h => hm e (by simp [h]))]
      have := (leE_iff _ _).1 (hm a (by simp))
      have := h1 e0 he'
      show (if e0.key < a.key then some (e0.item, e0.key) else some (a.item, a.key)) = _
      rw [if_pos (by omega)]

end Go.Proofs.Ytjcgkmodmjckjaa.U

namespace Go.Proofs.Ytjcgkmodmjckjaa
open Go.RowKit

/-- What limited hands back. -/
def limV (v : Value) (n : Nat) (ok : Bool) : Value := if n ≤ 60 then .tuple #[v, .bool ok, .agg #[.int .i64 0, .int .i64 0]] else .tuple #[.slice none 0 0, .bool false, .agg #[.int .i64 10, .int .i64 (-9)]]

theorem limited_any (w : World) (ao : Option Addr) (n cap : Nat) (ok : Bool) :
    Calls Try.prog 22 #[.slice ao n cap, .bool ok] w fun e w' => e = .returned (limV (.slice ao n cap) n ok) ∧ Keeps (fun _ => False) w w' := by
  by_cases hn : n ≤ 60
  · have HV : Hid (limV (.slice ao n cap) n ok = .tuple #[.slice ao n cap, .bool ok, .agg #[.int .i64 0, .int .i64 0]]) := by unfold Hid limV; rw [if_pos hn]
    go_enter Try.func22, Try.ntmps22
    go_wp2_with fail
    refine bodyPost_ret (results_tmp2_cell _ _ w.heap.size 28 #[.int .i64 0, .int .i64 0] (0, 0) _ rfl rfl (heap_alloc_new _ _) Try.underlying28 rfl (by kernel_rfl)) rfl ?_
    exact ⟨congrArg Ending.returned HV.out.symm, (Keeps.refl _ _).alloc _⟩
  · have HV : Hid (limV (.slice ao n cap) n ok = .tuple #[.slice none 0 0, .bool false, .agg #[.int .i64 10, .int .i64 (-9)]]) := by unfold Hid limV; rw [if_neg hn]
    go_enter Try.func22, Try.ntmps22
    go_wp2_with fail
    refine bodyPost_ret (results_tmp2_cell _ _ w.heap.size 28 #[.int .i64 10, .int .i64 (-9)] (0, 0) _ rfl rfl (heap_alloc_new _ _) Try.underlying28 rfl (by kernel_rfl)) rfl ?_
    exact ⟨congrArg Ending.returned HV.out.symm, (Keeps.refl _ _).alloc _⟩

/-- Whether a word holds all facts of a goal. -/
def goalB (g x : Nat) : Bool := x &&& g == g

theorem goal_bits {x g : Nat} (hx : x < 4294967296) (hg : g < 4294967296) : (bits .and .u32 (x : Int) (g : Int) == (g : Int)) = goalB g x := by
  rw [(u32_bits hx hg).1]
  unfold goalB
  cases h : x &&& g == g with
  | true => rw [beq_iff_eq] at h ⊢; exact_mod_cast h
  | false => rw [beq_eq_false_iff_ne] at h ⊢; intro e; exact h (by exact_mod_cast e)

theorem asked_goal (w : World) (base b s g : Nat) (v : Value) (ops : List Wop) (h : WordsAt w base b s g v ops) (hg : g < 4294967296) : Asked w 24 #[.pointer (some ⟨b, 0, none⟩)] #[] (goalB g) := by
  refine ⟨enters_of Try.func24 (by kernel_rfl) rfl, fun W x hk hx => ?_⟩
  refine (goal_any W base b s g x v ops (h.keeps0 hk)).mono ?_
  rintro e w' ⟨rfl, hq⟩
  rw [goal_bits hx hg]
  exact ⟨rfl, hq⟩

def fltV (c i : Int) : Value := .agg #[.int .i64 c, .int .i64 i]

/-- A way as breadth hands it back. -/
def WayPost (ops : List Wop) (s : Nat) (acc : Nat → Bool) (w : World) (e : Ending) (w' : World) : Prop :=
  (Best ops s acc none ∧ e = .returned (.tuple #[.slice none 0 0, .bool false, fltV 0 0])) ∨
  (∃ p, Best ops s acc (some p) ∧ ((60 < p.length ∧ e = .returned (.tuple #[.slice none 0 0, .bool false, fltV 10 (-9)])) ∨
    (p.length ≤ 60 ∧ ∃ v, e = .returned (.tuple #[v, .bool true, fltV 0 0]) ∧ w'.ownsRow w.heap.size 3 1 v p.length ((intsP p).map (Value.int .i64)))))

def PlanPost (t : Tsk) (w : World) (e : Ending) (w' : World) : Prop := Keeps (fun _ => False) w w' ∧
  (((taskFault t).1 ≠ 0 ∧ e = .returned (.tuple #[.slice none 0 0, .bool false, fltV (taskFault t).1 (taskFault t).2])) ∨
   (t.Ok ∧ explored t = none ∧ e = .returned (.tuple #[.slice none 0 0, .bool false, fltV 10 (-7)])) ∨
   (t.Ok ∧ ∃ l, explored t = some l ∧ WayPost (wordsOf t.ops) (wd t.init) (goalB (wd t.goal)) w e w'))

set_option maxHeartbeats 2000000 in
theorem plan_any (w : World) (vi vg vo : Value) (t : Tsk) (h : TaskAt w vi vg vo t) :
    Calls Try.prog 8 #[.agg #[.int .i64 t.n, vi, vg, vo]] w (PlanPost t w) := by
  obtain ⟨ai, ci, h1, _⟩ := h.init.form
  obtain ⟨ag, cg, h2, _⟩ := h.goal.form
  obtain ⟨ao, co, h3, hmo⟩ := h.ops.form
  subst h1 h2 h3
  have K1 := (Keeps.refl (fun _ => False) w).alloc (.cells #[.int .i64 t.n, .slice ai t.init.length ci, .slice ag t.goal.length cg, .slice ao t.ops.length co] 25)
  have HT := h.keeps0 (K1.alloc (.cells #[.int .i64 0, .int .i64 0] 28))
  have HB := (Four.new w (.int .i64 t.n) (.slice ai t.init.length ci) (.slice ag t.goal.length cg) (.slice ao t.ops.length co) 25).keeps0 ((Keeps.refl _ _).alloc (.cells #[.int .i64 0, .int .i64 0] 28))
  have HF : Flt w ((w.alloc (.cells #[.int .i64 t.n, .slice ai t.init.length ci, .slice ag t.goal.length cg, .slice ao t.ops.length co] 25)).alloc (.cells #[.int .i64 0, .int .i64 0] 28)) (w.heap.size + 1) 28 :=
    ⟨by have := heap_alloc_new (w.alloc (.cells #[.int .i64 t.n, .slice ai t.init.length ci, .slice ag t.goal.length cg, .slice ao t.ops.length co] 25)) (.cells #[.int .i64 0, .int .i64 0] 28); rwa [World.size_alloc] at this, by omega, K1.alloc _⟩
  replace HT := Lib.hid HT; replace HB := Lib.hid HB; replace HF := Lib.hid HF
  clear h K1
  go_enter Try.func8, Try.ntmps8
  go_upto_region 1 with fail
  generalize ((w.alloc (.cells #[.int .i64 t.n, .slice ai t.init.length ci, .slice ag t.goal.length cg, .slice ao t.ops.length co] 25)).alloc (.cells #[.int .i64 0, .int .i64 0] 28)) = w1 at HT HB HF ⊢
  have hbx := HB.out.lt
  obtain ⟨d0, d1, d2, d3⟩ := HB.out
  go_wp2_with fail
  refine (checked_any _ _ _ _ t HT.out).mono ?_; rintro e w2 ⟨hk, hr⟩
  have K2 := Lib.hid hk
  have HF2 := Lib.hid (HF.out.keeps0 hk)
  clear d0 d1 d2 d3 hk
  have hb0 := HF2.out.keep.size
  rcases hr with ⟨hc, rfl⟩ | ⟨hok, hx, rfl⟩ | ⟨hok, l, hx, b, v, vl, ws, rfl, hw, _, _, _⟩
  · have hc2 : ((taskFault t).1 == 0) = false := by simpa using hc
    have HC := Lib.hid hc
    clear hc
    generalize hfe : taskFault t = f at hc2 HC ⊢
    have HFE := Lib.hid hfe
    clear hfe
    have HF3 := Lib.hid (HF2.out.keeps0 ((Keeps.refl _ _).alloc (.cells #[.int .i64 f.1, .int .i64 f.2] 28)))
    obtain ⟨e0, e1, z0, z1, hF⟩ := HF3.out.cells
    go_wp2_with fail
    go_region
    all_goals
      go_wp2
      refine bodyPost_ret (results_tmp2_cell _ _ (w.heap.size + 1) 28 #[.int .i64 f.1, .int .i64 f.2] (0, 0) _ rfl rfl (((Keeps.refl (fun _ => False) _).drew).heap (HF3.out.set (.int .i64 f.1) (.int .i64 f.2)).1 (fun h => h)) Try.underlying28 rfl (by kernel_rfl)) rfl ?_
      refine ⟨((HF3.out.set (.int .i64 f.1) (.int .i64 f.2)).2).drew, .inl ?_⟩
      rw [HFE.out]
      exact ⟨HC.out, rfl⟩
  · have HX := Lib.hid hx; have OK := Lib.hid hok
    clear hx hok
    have HF3 := Lib.hid (HF2.out.keeps0 ((Keeps.refl _ _).alloc (.cells #[.int .i64 10, .int .i64 (-7)] 28)))
    obtain ⟨e0, e1, z0, z1, hF⟩ := HF3.out.cells
    go_wp2_with fail
    go_region
    all_goals
      go_wp2
      refine bodyPost_ret (results_tmp2_cell _ _ (w.heap.size + 1) 28 #[.int .i64 10, .int .i64 (-7)] (0, 0) _ rfl rfl (((Keeps.refl (fun _ => False) _).drew).heap (HF3.out.set (.int .i64 10) (.int .i64 (-7))).1 (fun h => h)) Try.underlying28 rfl (by kernel_rfl)) rfl ?_
      exact ⟨((HF3.out.set (.int .i64 10) (.int .i64 (-7))).2).drew, .inr (.inl ⟨OK.out, HX.out, rfl⟩)⟩
  · have HX := Lib.hid hx; have OK := Lib.hid hok
    have KA := (Keeps.refl (fun _ => False) w2).alloc (.cells #[.int .i64 0, .int .i64 0] 28)
    have HW := Lib.hid (hw.keeps0 KA)
    have HF3 := Lib.hid (HF2.out.keeps0 KA)
    clear hx hok hw KA
    go_wp2_with fail
    generalize w2.alloc (.cells #[.int .i64 0, .int .i64 0] 28) = w3 at HW HF3 ⊢
    have hs32 : wd t.init < 4294967296 := wd_lt32 (by have := OK.out.n1; omega : t.n ≤ 32) OK.out.init
    have hg32 : wd t.goal < 4294967296 := wd_lt32 (by have := OK.out.n1; omega : t.n ≤ 32) OK.out.goal
    refine (first_any w3 b (wd t.init) (wd t.goal) _ v (wordsOf t.ops) HW.out (wops_ok OK.out) (by unfold wordsOf; rw [List.length_map]; exact OK.out.few) hs32 l HX.out _ _ _ (goalB (wd t.goal)) (asked_goal w3 _ b _ _ v _ HW.out hg32)).mono ?_
    rintro e w4 ⟨hk4, hr⟩
    have HF4 := Lib.hid (HF3.out.keeps0 hk4)
    have hlow := HF3.out.keep.size
    clear hk4
    rcases hr with ⟨hbest, rfl⟩ | ⟨p, hbest, v', rfl, hown⟩
    · have HBE := Lib.hid hbest
      clear hbest
      go_wp2_with fail
      refine (limited_any _ none 0 0 false).mono ?_; rintro e w5 ⟨rfl, hk5⟩
      have HF5 := Lib.hid (HF4.out.keeps0 hk5)
      obtain ⟨e0, e1, z0, z1, hF⟩ := HF5.out.cells
      clear hk5
      simp only [limV, Nat.zero_le, if_true]
      go_wp2_with fail
      refine bodyPost_ret (results_tmp2_cell _ _ (w.heap.size + 1) 28 #[.int .i64 0, .int .i64 0] (0, 0) _ rfl rfl (HF5.out.set (.int .i64 0) (.int .i64 0)).1 Try.underlying28 rfl (by kernel_rfl)) rfl ?_
      exact ⟨(HF5.out.set _ _).2, .inr (.inr ⟨OK.out, l, HX.out, .inl ⟨HBE.out, rfl⟩⟩)⟩
    · have HBE := Lib.hid hbest
      obtain ⟨av, cv, hav⟩ := ownsRow_form1 hown
      subst hav
      have HO := Lib.hid hown
      clear hbest hown
      go_wp2_with fail
      refine (limited_any _ av p.length cv true).mono ?_; rintro e w5 ⟨rfl, hk5⟩
      have HF5 := Lib.hid (HF4.out.keeps0 hk5)
      have HO5 := Lib.hid (hk5.ownsRow HO.out (fun _ _ h => h))
      obtain ⟨e0, e1, z0, z1, hF⟩ := HF5.out.cells
      clear hk5
      by_cases hp : p.length ≤ 60
      · simp only [limV, hp, if_true]
        go_wp2_with fail
        refine bodyPost_ret (results_tmp2_cell _ _ (w.heap.size + 1) 28 #[.int .i64 0, .int .i64 0] (0, 0) _ rfl rfl (HF5.out.set (.int .i64 0) (.int .i64 0)).1 Try.underlying28 rfl (by kernel_rfl)) rfl ?_
        have kS := keeps_pair (w := w5) (w.heap.size + 1) (.int .i64 0) (.int .i64 0)
        refine ⟨(HF5.out.set _ _).2, .inr (.inr ⟨OK.out, l, HX.out, .inr ⟨p, HBE.out, .inr ⟨hp, _, rfl, ?_⟩⟩⟩)⟩
        refine ownsRow_mono (kS.ownsRow HO5.out (fun k hk e => ?_)) hlow
        have h1 := (World.ownsRow.lt HO5.out k hk).1
        have h2 := lt_of_heap HF3.out.blk
        omega
      · simp only [limV, hp, if_false]
        go_wp2_with fail
        refine bodyPost_ret (results_tmp2_cell _ _ (w.heap.size + 1) 28 #[.int .i64 10, .int .i64 (-9)] (0, 0) _ rfl rfl (HF5.out.set (.int .i64 10) (.int .i64 (-9))).1 Try.underlying28 rfl (by kernel_rfl)) rfl ?_
        exact ⟨(HF5.out.set _ _).2, .inr (.inr ⟨OK.out, l, HX.out, .inr ⟨p, HBE.out, .inl ⟨by omega, rfl⟩⟩⟩)⟩

end Go.Proofs.Ytjcgkmodmjckjaa

namespace Go.Proofs.Ytjcgkmodmjckjaa
open Go.RowKit

/-! ### lists -/
/-! ### States -/
/-- The words in increasing order (by their lists of facts). -/
def ordW (a b : Nat) : Prop := ¬ cmpW b a < 0

end Go.Proofs.Ytjcgkmodmjckjaa

namespace Go.Proofs.Ytjcgkmodmjckjaa
open Go.RowKit

/-- A row of slices of facts, each in memory of its own. -/
structure SRow (W : World) (base : Nat) (v : Value) (ws : List Nat) (vs : List Value) : Prop where
  out : W.ownsRow base 22 1 v ws.length vs
  st : ∀ (i : Nat) (x : Nat), ws[i]? = some x → ∃ u, vs[i]? = some u ∧ Ints W u (facts x) ∧ (∀ k, u.ownBlock = some k → v.ownBlock ≠ some k) ∧ ∀ k, u.ownBlock = some k → base ≤ k ∧ k < W.heap.size

theorem SRow.keepsS {S : Nat → Prop} {W W' : World} {base : Nat} {v : Value} {ws : List Nat} {vs : List Value} (h : SRow W base v ws vs) (hk : Keeps S W W') (hs : ∀ k, S k → k < base) : SRow W' base v ws vs :=
  ⟨hk.ownsRow h.out (fun k hv hS => by have := (World.ownsRow.lt h.out k hv).1; have := hs k hS; omega), fun i x hx => by
    obtain ⟨u, h1, h2, h3, h4⟩ := h.st i x hx
    exact ⟨u, h1, h2.keepsS hk (fun _ k hk' hS => by have := (h4 k hk').1; have := hs k hS; omega), h3, fun k hk' => ⟨(h4 k hk').1, Nat.lt_of_lt_of_le (h4 k hk').2 hk.size⟩⟩⟩
theorem SRow.keeps0 {W W' : World} {base : Nat} {v : Value} {ws : List Nat} {vs : List Value} (h : SRow W base v ws vs) (hk : Keeps (fun _ => False) W W') : SRow W' base v ws vs := h.keepsS hk (fun _ h => h.elim)
theorem SRow.snoc {W7 W8 : World} {base : Nat} {v vo' vn : Value} {Q : List Nat} {vs : List Value} {y : Nat} (h : SRow W7 base v Q vs) (hn : Ints W7 vn (facts y))
    (hnb : ∀ k, vn.ownBlock = some k → v.ownBlock ≠ some k) (hnl : ∀ k, vn.ownBlock = some k → base ≤ k ∧ k < W7.heap.size)
    (K78 : Keeps (fun k => v.ownBlock = some k) W7 W8) (ho : W8.ownsRow base 22 1 vo' (Q.length + 1) (vs ++ [vn])) (hg : ∀ k, vo'.ownBlock = some k → v.ownBlock = some k ∨ W7.heap.size ≤ k) : SRow W8 base vo' (Q ++ [y]) (vs ++ [vn]) := by
  have hsz := K78.size
  have hvl : vs.length = Q.length := by simpa using h.out.1
  refine ⟨by rw [List.length_append]; exact ho, fun i x hx => ?_⟩
  have key : ∀ u, Ints W7 u (facts x) → (∀ k, u.ownBlock = some k → v.ownBlock ≠ some k) → (∀ k, u.ownBlock = some k → base ≤ k ∧ k < W7.heap.size) → Ints W8 u (facts x) ∧ (∀ k, u.ownBlock = some k → vo'.ownBlock ≠ some k) ∧ ∀ k, u.ownBlock = some k → base ≤ k ∧ k < W8.heap.size := fun u h1 h2 h3 =>
    ⟨h1.keepsS K78 (fun _ k hk e => h2 k hk e), fun k hk e => by
      rcases hg k e with h4 | h4
      · exact h2 k hk h4
      · have := (h3 k hk).2; omega, fun k hk => ⟨(h3 k hk).1, Nat.lt_of_lt_of_le (h3 k hk).2 hsz⟩⟩
  by_cases hlt : i < Q.length
  · rw [List.getElem?_append_left hlt] at hx
    obtain ⟨u, h1, h2, h3, h4⟩ := h.st i x hx
    exact ⟨u, by rw [List.getElem?_append_left (by omega)]; exact h1, key u h2 h3 h4⟩
  · have hil := (List.getElem?_eq_some_iff.1 hx).1
    have hi : i = Q.length := by simp at hil; omega
    subst hi
    rw [List.getElem?_append_right (Nat.le_refl _)] at hx
    simp at hx; subst hx
    exact ⟨vn, by rw [← hvl, List.getElem?_append_right (Nat.le_refl _)]; simp, key vn hn hnb hnl⟩
theorem SRow.lists {W : World} {base : Nat} {v : Value} {L : List Nat} {vs : List Value} (h : SRow W base v L vs) : Lists W v (L.map facts) := by
  obtain ⟨ao, cap, hv, hm, hc⟩ := Sl.of_own h.out
  refine ⟨ao, cap, by rw [List.length_map]; exact hv, by rw [List.length_map]; exact hm.1, fun h0 => ?_⟩
  rw [List.length_map] at h0
  obtain ⟨b, off, ha, hx⟩ := hc h0
  refine ⟨b, off, ha, fun i l hl => ?_⟩
  rw [List.getElem?_map] at hl
  cases hy : L[i]? with
  | none => rw [hy] at hl; cases hl
  | some y =>
    rw [hy] at hl; cases hl
    obtain ⟨u, h1, h2, _⟩ := h.st i y hy
    exact ⟨u, hx i u h1, h2⟩

def ExplPost (t : Tsk) (w : World) (e : Ending) (w' : World) : Prop := Keeps (fun _ => False) w w' ∧
  ((∃ c i, c ≠ 0 ∧ expF t = (c, i) ∧ e = .returned (.tuple #[.slice none 0 0, fltV c i])) ∨
   (t.Ok ∧ ∃ (l ws : List Nat) (v : Value), explored t = some l ∧ ws.Perm l ∧ ws.Pairwise ordW ∧ e = .returned (.tuple #[v, fltV 0 0]) ∧ Lists w' v (ws.map facts)))

set_option maxRecDepth 100000 in
set_option maxHeartbeats 2000000 in
theorem explore_any (w : World) (vi vg vo : Value) (t : Tsk) (h : TaskAt w vi vg vo t) :
    Calls Try.prog 7 #[.agg #[.int .i64 t.n, vi, vg, vo]] w (ExplPost t w) := by
  obtain ⟨j0, hj0, jz0, jz1, jz2⟩ := info_parts Try.info22
  obtain ⟨ai, ci, h1, _⟩ := h.init.form
  obtain ⟨ag, cg, h2, _⟩ := h.goal.form
  obtain ⟨ao, co, h3, hmo⟩ := h.ops.form
  subst h1 h2 h3
  have K1 := (Keeps.refl (fun _ => False) w).alloc (.cells #[.int .i64 t.n, .slice ai t.init.length ci, .slice ag t.goal.length cg, .slice ao t.ops.length co] 25)
  have HT := h.keeps0 (K1.alloc (.cells #[.int .i64 0, .int .i64 0] 28))
  have HB := (Four.new w (.int .i64 t.n) (.slice ai t.init.length ci) (.slice ag t.goal.length cg) (.slice ao t.ops.length co) 25).keeps0 ((Keeps.refl _ _).alloc (.cells #[.int .i64 0, .int .i64 0] 28))
  have HF : Flt w ((w.alloc (.cells #[.int .i64 t.n, .slice ai t.init.length ci, .slice ag t.goal.length cg, .slice ao t.ops.length co] 25)).alloc (.cells #[.int .i64 0, .int .i64 0] 28)) (w.heap.size + 1) 28 :=
    ⟨by have := heap_alloc_new (w.alloc (.cells #[.int .i64 t.n, .slice ai t.init.length ci, .slice ag t.goal.length cg, .slice ao t.ops.length co] 25)) (.cells #[.int .i64 0, .int .i64 0] 28); rwa [World.size_alloc] at this, by omega, K1.alloc _⟩
  replace HT := Lib.hid HT; replace HB := Lib.hid HB; replace HF := Lib.hid HF
  clear h K1
  go_enter Try.func7, Try.ntmps7
  go_upto_region 1 with fail
  generalize ((w.alloc (.cells #[.int .i64 t.n, .slice ai t.init.length ci, .slice ag t.goal.length cg, .slice ao t.ops.length co] 25)).alloc (.cells #[.int .i64 0, .int .i64 0] 28)) = w1 at HT HB HF ⊢
  have hbx := HB.out.lt
  obtain ⟨d0, d1, d2, d3⟩ := HB.out
  go_wp2_with fail
  refine (checked_any _ _ _ _ t HT.out).mono ?_; rintro e w2 ⟨hk, hr⟩
  have HF2 := Lib.hid (HF.out.keeps0 hk)
  clear d0 d1 d2 d3 hk
  have hb0 := HF2.out.keep.size
  rcases hr with ⟨hc, rfl⟩ | ⟨hok, hx, rfl⟩ | ⟨hok, l, hx, b, v, vl, ws, rfl, hw, hperm, hord, hown⟩
  · have hc2 : ((taskFault t).1 == 0) = false := by simpa using hc
    have HE := Lib.hid (show expF t = taskFault t by unfold expF; rw [if_neg hc])
    have HC := Lib.hid hc
    clear hc
    generalize hfe : taskFault t = f at hc2 HC HE ⊢
    clear hfe
    have HF3 := Lib.hid (HF2.out.keeps0 ((Keeps.refl _ _).alloc (.cells #[.int .i64 f.1, .int .i64 f.2] 28)))
    obtain ⟨e0, e1, z0, z1, hF⟩ := HF3.out.cells
    go_wp2_with fail
    go_region
    all_goals
      go_wp2
      refine bodyPost_ret (results_tmp_cell _ _ (w.heap.size + 1) 28 #[.int .i64 f.1, .int .i64 f.2] (0, 0) _ rfl rfl (((Keeps.refl (fun _ => False) _).drew).heap (HF3.out.set (.int .i64 f.1) (.int .i64 f.2)).1 (fun h => h)) Try.underlying28 rfl (by kernel_rfl)) rfl ?_
      exact ⟨((HF3.out.set (.int .i64 f.1) (.int .i64 f.2)).2).drew, .inl ⟨f.1, f.2, HC.out, HE.out, rfl⟩⟩
  · have HE := Lib.hid (show expF t = (10, -7) by unfold expF; rw [if_pos (taskFault_zero.2 hok), hx])
    clear hx hok
    have HF3 := Lib.hid (HF2.out.keeps0 ((Keeps.refl _ _).alloc (.cells #[.int .i64 10, .int .i64 (-7)] 28)))
    obtain ⟨e0, e1, z0, z1, hF⟩ := HF3.out.cells
    go_wp2_with fail
    go_region
    all_goals
      go_wp2
      refine bodyPost_ret (results_tmp_cell _ _ (w.heap.size + 1) 28 #[.int .i64 10, .int .i64 (-7)] (0, 0) _ rfl rfl (((Keeps.refl (fun _ => False) _).drew).heap (HF3.out.set (.int .i64 10) (.int .i64 (-7))).1 (fun h => h)) Try.underlying28 rfl (by kernel_rfl)) rfl ?_
      exact ⟨((HF3.out.set (.int .i64 10) (.int .i64 (-7))).2).drew, .inl ⟨10, -7, by decide, HE.out, rfl⟩⟩
  · have HX := Lib.hid hx; have OK := Lib.hid hok; have PERM := Lib.hid hperm; have ORD := Lib.hid (show ws.Pairwise ordW from hord)
    have hfew : ws.length ≤ 2000 := by rw [hperm.length_eq]; exact (reached_some hx).2.1
    have KA := (Keeps.refl (fun _ => False) w2).alloc (.cells #[.int .i64 0, .int .i64 0] 28)
    have HV := Lib.hid (show Sl _ vl ws.length (ws.map encW) from (Sl.of_own hown).keeps0 KA)
    have HF3 := Lib.hid (HF2.out.keeps0 KA)
    obtain ⟨av, cv, hav⟩ := ownsRow_form1 hown
    subst hav
    clear hx hok hw KA hperm hord hown
    have F0 := heap_alloc_new w2 (.cells #[.int .i64 0, .int .i64 0] 28)
    go_upto_region 2 with fail
    generalize w2.alloc (.cells #[.int .i64 0, .int .i64 0] 28) = w3 at HV HF3 F0 ⊢
    have HCV := Lib.hid (Sl.cellN HV.out rfl)
    have f0 : w3.cell? ⟨w2.heap.size, 0, none⟩ = some (.int .i64 0) := by rw [cell_of_blk F0]; rfl
    have f1 : w3.cell? ⟨w2.heap.size, 1, none⟩ = some (.int .i64 0) := by rw [cell_of_blk F0]; rfl
    clear F0
    obtain ⟨e0, e1, z0, z1, hF⟩ := HF3.out.cells
    have hb2 := HF3.out.keep.size
    have hbF := HF3.out.blk
    go_wp2_with fail
    go_loopw [7, 22] (fun v7 v22 wr => ∃ (i : Nat) (vs : List Value), i ≤ ws.length ∧ v22 = .int .i64 (i : Int) ∧ SRow wr w3.heap.size v7 (ws.take i) vs ∧ Keeps (fun _ => False) w3 wr) (fun _ v22 _ => ws.length - (intOf v22).toNat)
    case atStart => exact ⟨0, [], Nat.zero_le _, rfl, ⟨World.ownsRow_nil _ _ _ _, fun i x hx => by simp at hx⟩, Keeps.refl _ _⟩
    case round =>
      obtain ⟨i, vs, hi, rfl, hrow, hkr⟩ := hrel
      have HR := Lib.hid hrow; have HKR := Lib.hid hkr
      have hsz := hkr.size
      have HTL := Lib.hid (show (ws.take i).length = i by rw [List.length_take]; omega)
      obtain ⟨ar, cr, har⟩ := ownsRow_form1 hrow.out
      rw [HTL.out] at har
      subst har
      clear hrow hkr
      by_cases hlt : i < ws.length
      · obtain ⟨bl, ol, rfl, hx'⟩ := HCV.out (by omega)
        obtain ⟨x, hx⟩ : ∃ x, ws[i]? = some x := ⟨_, List.getElem?_eq_getElem hlt⟩
        have hu := HKR.out.cell (hx' i (.int .u32 (x : Int)) (by rw [List.getElem?_map, hx]; rfl)) (fun h => h)
        have HTK := Lib.hid (take_getS hx)
        clear hx' hx
        go_wp2_with fail
        refine (facts_any _ x).mono ?_; rintro e w4 ⟨vf, rfl, hown, hk1, hd1⟩
        obtain ⟨af, cf, haf⟩ := ownsRow_form1 hown
        subst haf
        have HO := Lib.hid hown; have HK1 := Lib.hid hk1
        have HR4 := Lib.hid (HR.out.keeps0 hk1)
        have hs4 := hk1.size
        have HNL := Lib.hid (show ∀ k, (Value.slice af (facts x).length cf).ownBlock = some k → w3.heap.size ≤ k ∧ k < w4.heap.size from fun k hk => by have := World.ownsRow.lt hown k hk; omega)
        have HNB := Lib.hid (show ∀ k, (Value.slice af (facts x).length cf).ownBlock = some k → (Value.slice ar i cr).ownBlock ≠ some k from fun k hk e => by
          have h1 := (World.ownsRow.lt hown k hk).1
          have h2 := (World.ownsRow.lt HR.out.out k (by rw [HTL.out] at *; exact e)).2
          omega)
        clear hown hk1 hd1 hu
        go_wp2_with (at_builtin; refine wpList_append_d rfl _ _ _ rfl w3.heap.size 22 j0 _ 1 24 Try.underlying31 hj0 jz0 jz1 jz2 rfl (by omega) _ i vs (by rfl) (World.ownsRow.alloc (by have h := HR4.out.out; rw [HTL.out] at h; exact h) (.cells #[.slice af (facts x).length cf] 22)) ⟨w4.heap.size, 0, none⟩ 1 1 [.slice af (facts x).length cf] (by rfl) (by rfl) (World.news_of_block (cs := #[.slice af (facts x).length cf]) (t := 22) (fr := (0, 0)) (heap_alloc_new _ _)) (by simp [Value.oneCell']) (by omega) (by unfold maxLen; omega) (by omega) (by simp; omega) (w4.heap.size + 1) (by simp) ?_)
        intro gg cap2 w5 hown hgrow hat hlt5 hd5
        have hk5 : Keeps (fun k => (Value.slice ar i cr).ownBlock = some k) w4 w5 := ((Keeps.refl _ w4).alloc _).grown hgrow (fun k hk => .inl hk)
        have HROW : Hid (SRow w5 w3.heap.size (.slice (some ⟨gg, 0, none⟩) (i + 1) cap2) (ws.take (i + 1)) (vs ++ [.slice af (facts x).length cf])) := by
          unfold Hid
          rw [HTK.out]
          exact SRow.snoc HR4.out (Ints.of_own HO.out) HNB.out HNL.out hk5 (by rw [HTL.out]; exact hown) (fun k hk => by
            simp [Value.ownBlock] at hk
            subst hk
            rcases hat with h | h
            · exact .inl h
            · exact .inr (by omega))
        have HK5 := Lib.hid (own_grown (by have h := HR4.out.out; rw [HTL.out] at h; exact h) (HKR.out.trans HK1.out) ((Keeps.refl _ w4).alloc (.cells #[.slice af (facts x).length cf] 22)) hgrow)
        clear hown hgrow hat hd5 hk5
        go_wp2_with fail
        go_roundw
        case rel => exact ⟨i + 1, _, by omega, by go_num, HROW.out, HK5.out⟩
        case measure => simp only [intOf]; omega
      · have hie : i = ws.length := by omega
        subst hie
        have HR2 := Lib.hid (show SRow wr w3.heap.size (.slice ar ws.length cr) ws vs by have h := HR.out; rw [List.take_length] at h; exact h)
        have HFr := Lib.hid (HF3.out.keeps0 HKR.out)
        clear e0 e1 z0 z1 f0 f1
        obtain ⟨e0, e1, z0, z1, hF2⟩ := HFr.out.cells
        go_wp2_with fail
        refine bodyPost_ret (results_tmp_cell _ _ (w.heap.size + 1) 28 #[.int .i64 0, .int .i64 0] (0, 0) _ rfl rfl (HFr.out.set (.int .i64 0) (.int .i64 0)).1 Try.underlying28 rfl (by kernel_rfl)) rfl ?_
        refine ⟨(HFr.out.set (.int .i64 0) (.int .i64 0)).2, .inr ⟨OK.out, l, ws, _, HX.out, PERM.out, ORD.out, rfl, ?_⟩⟩
        exact (HR2.out.keepsS (keeps_pair (w.heap.size + 1) _ _) (fun k hk => by omega)).lists

end Go.Proofs.Ytjcgkmodmjckjaa

namespace Go.Proofs.Ytjcgkmodmjckjaa
open Go.RowKit

def stepT : Tsk := ⟨1, [], [0], [⟨[], [0], [], 3⟩]⟩

theorem Ints.nil (w : World) : Ints w (.slice none 0 0) [] := ⟨none, 0, rfl, by simp, fun h => by simp at h⟩
theorem Ints.one {w : World} {b : Nat} {x : Int} {T : TypeId} (h : w.heap[b]? = some (.cells #[.int .i64 x] T (0, 0))) : Ints w (.slice (some ⟨b, 0, none⟩) 1 1) [x] := by
  refine ⟨_, _, rfl, by simp [maxLen], fun _ => ⟨b, 0, rfl, fun j y hj => ?_⟩⟩
  rw [Nat.zero_add, cell_of_blk h]
  cases j with
  | zero => simpa using hj
  | succ j => simp at hj

set_option maxRecDepth 100000 in
theorem step_any (w : World) : Calls Try.prog 9 #[] w fun e w' => ∃ vi vg vo, e = .returned (.agg #[.int .i64 1, vi, vg, vo]) ∧ TaskAt w' vi vg vo stepT ∧ Keeps (fun _ => False) w w' := by
  go_enter Try.func9, Try.ntmps9
  go_wp2_with fail
  generalize hw1 : w.alloc (Obj.cells #[.int .i64 1, .slice none 0 0, .slice (some ⟨w.heap.size + 1, 0, none⟩) 1 1, .slice (some ⟨w.heap.size + 1 + 1 + 1, 0, none⟩) 1 1] 25) = w1
  have s1 : w1.heap.size = w.heap.size + 1 := by rw [← hw1]; simp
  have k1 : Keeps (fun _ => False) w w1 := by rw [← hw1]; exact (Keeps.refl _ _).alloc _
  have b1 : w1.heap[w.heap.size]? = some (.cells #[.int .i64 1, .slice none 0 0, .slice (some ⟨w.heap.size + 1, 0, none⟩) 1 1, .slice (some ⟨w.heap.size + 1 + 1 + 1, 0, none⟩) 1 1] 25 (0, 0)) := by rw [← hw1]; exact heap_alloc_new _ _
  clear hw1
  have b2 := heap_alloc_new w1 (.cells #[.int .i64 0] 3)
  have k2 := (Keeps.refl (fun _ => False) w1).alloc (.cells #[.int .i64 0] 3)
  have s2 : (w1.alloc (.cells #[.int .i64 0] 3)).heap.size = w1.heap.size + 1 := by simp
  generalize w1.alloc (.cells #[.int .i64 0] 3) = w2 at b2 k2 s2 ⊢
  have b3 := heap_alloc_new w2 (.cells #[.int .i64 0] 3)
  have k3 := (Keeps.refl (fun _ => False) w2).alloc (.cells #[.int .i64 0] 3)
  have s3 : (w2.alloc (.cells #[.int .i64 0] 3)).heap.size = w2.heap.size + 1 := by simp
  generalize w2.alloc (.cells #[.int .i64 0] 3) = w3 at b3 k3 s3 ⊢
  have b4 := heap_alloc_new w3 (.cells #[.slice none 0 0, .slice (some ⟨w.heap.size + 1 + 1, 0, none⟩) 1 1, .slice none 0 0, .int .i64 3] 64)
  have k4 := (Keeps.refl (fun _ => False) w3).alloc (.cells #[.slice none 0 0, .slice (some ⟨w.heap.size + 1 + 1, 0, none⟩) 1 1, .slice none 0 0, .int .i64 3] 64)
  generalize w3.alloc (.cells #[.slice none 0 0, .slice (some ⟨w.heap.size + 1 + 1, 0, none⟩) 1 1, .slice none 0 0, .int .i64 3] 64) = w4 at b4 k4 ⊢
  have k14 := k2.trans (k3.trans k4)
  refine bodyPost_ret (results_cell_row rfl _ _ w.heap.size 25 _ (0, 0) _ rfl (k14.heap b1 (fun h => h)) Try.underlying25 rfl (by kernel_rfl)) rfl ?_
  have e1 : w1.heap.size = w.heap.size + 1 := s1
  have e2 : w2.heap.size = w.heap.size + 1 + 1 := by omega
  have e3 : w3.heap.size = w.heap.size + 1 + 1 + 1 := by omega
  rw [e1] at b2; rw [e2] at b3; rw [e3] at b4
  refine ⟨_, _, _, rfl, ⟨Ints.nil _, Ints.one ((k3.trans k4).heap b2 (fun h => h)), ⟨_, _, rfl, by simp [maxLen, stepT], fun _ => ⟨_, 0, rfl, fun i o ho => ?_⟩⟩⟩, k1.trans k14⟩
  cases i with
  | zero =>
    simp [stepT] at ho; subst ho
    refine ⟨.slice none 0 0, .slice (some ⟨w.heap.size + 1 + 1, 0, none⟩) 1 1, .slice none 0 0, ?_, ?_, ?_, ?_, Ints.nil _, Ints.one (k4.heap b3 (fun h => h)), Ints.nil _⟩
    all_goals (rw [cell_of_blk b4]; rfl)
  | succ i => simp [stepT] at ho

theorem stepT_ok : taskFault stepT = (0, 0) := by decide
theorem stepT_reached : explored stepT = some [0, 1] := reached_of_end (i := 2) (by decide) rfl
end Go.Proofs.Ytjcgkmodmjckjaa

namespace Go.Proofs.Ytjcgkmodmjckjaa
open Go.RowKit

theorem good_next_mem {t : Tsk} (ok : t.Ok) {x y : Nat} (hx : Good t.n x) (hy : y ∈ nexts (wordsOf t.ops) x) : Good t.n y := by
  unfold nexts at hy
  obtain ⟨wo, hwo, rfl⟩ := List.mem_map.1 hy
  have hm := (List.mem_filter.1 hwo).1
  unfold wordsOf at hm
  obtain ⟨o, ho, rfl⟩ := List.mem_map.1 hm
  exact (good_next (by have := ok.n1; omega) (ok.ops o ho) hx).2.2
theorem good_reach {t : Tsk} (ok : t.Ok) {s x : Nat} (hs : Good t.n s) (h : Reach (wordsOf t.ops) s x) : Good t.n x := by
  induction h with
  | refl => exact hs
  | step _ hy ih => exact good_next_mem ok ih hy
theorem good_explored {t : Tsk} (ok : t.Ok) {L : List Nat} (h : explored t = some L) : ∀ x ∈ L, Good t.n x := by
  intro x hx
  exact good_reach ok (good_wd (by have := ok.n1; omega) ok.init) (((reached_some h).2.2.2 x).1 hx)
end Go.Proofs.Ytjcgkmodmjckjaa

namespace Go.Proofs.Ytjcgkmodmjckjaa
open Go.RowKit

end Go.Proofs.Ytjcgkmodmjckjaa

/- space's example. -/
namespace Go.Proofs.Ytjcgkmodmjckjaa
open Go.RowKit

end Go.Proofs.Ytjcgkmodmjckjaa

/- space: the law that the functions are the reference's. -/
namespace Go.Proofs.Ytjcgkmodmjckjaa
open Go.RowKit

theorem exp_cases (t : Tsk) : (∃ c i, c ≠ 0 ∧ expF t = (c, i)) ∨ (t.Ok ∧ ∃ l, explored t = some l ∧ expF t = (0, 0)) := by
  unfold expF
  by_cases h : (taskFault t).1 = 0
  · rw [if_pos h]
    cases hx : explored t with
    | none => exact .inl ⟨10, -7, by decide, rfl⟩
    | some l => exact .inr ⟨taskFault_zero.1 h, l, rfl, rfl⟩
  · rw [if_neg h]
    exact .inl ⟨_, _, h, rfl⟩
theorem exp_none {t : Tsk} {c i : Int} (hc : c ≠ 0) (he : expF t = (c, i)) {l : List Nat} (ok : t.Ok) (hx : explored t = some l) : False := by
  unfold expF at he
  rw [if_pos (taskFault_zero.2 ok), hx] at he
  cases he; exact hc rfl

section
variable {w : World} {vi vg vo : Value} {t : Tsk}
theorem explore_bad (h : TaskAt w vi vg vo t) {c i : Int} (hc : c ≠ 0) (he : expF t = (c, i)) :
    Calls Try.prog 7 #[.agg #[.int .i64 t.n, vi, vg, vo]] w fun e w' => e = .returned (.tuple #[.slice none 0 0, fltV c i]) ∧ Keeps (fun _ => False) w w' := by
  refine (explore_any w vi vg vo t h).mono ?_
  rintro e w' ⟨hk, ⟨c', i', _, he', rfl⟩ | ⟨ok, l, ws, v, h1, _⟩⟩
  · rw [he] at he'; cases he'; exact ⟨rfl, hk⟩
  · exact (exp_none hc he ok h1).elim
/-- The sorted states of a task. -/
def WsOf (_t : Tsk) (l ws : List Nat) : Prop := ws.Perm l ∧ ws.Pairwise ordW
theorem explore_good (h : TaskAt w vi vg vo t) (ok : t.Ok) {l : List Nat} (hx : explored t = some l) :
    Calls Try.prog 7 #[.agg #[.int .i64 t.n, vi, vg, vo]] w fun e w' => ∃ ws v, WsOf t l ws ∧ e = .returned (.tuple #[v, fltV 0 0]) ∧ Lists w' v (ws.map facts) ∧ Keeps (fun _ => False) w w' := by
  refine (explore_any w vi vg vo t h).mono ?_
  rintro e w' ⟨hk, ⟨c', i', hc, he', rfl⟩ | ⟨_, l', ws, v, h1, h2, h3, rfl, h4⟩⟩
  · exact (exp_none hc he' ok hx).elim
  · rw [hx] at h1; cases h1
    exact ⟨ws, v, ⟨h2, h3⟩, rfl, h4, hk⟩
end

end Go.Proofs.Ytjcgkmodmjckjaa

/- space: SpaceFunctionsMatchSpec walked. -/
namespace Go.Proofs.Ytjcgkmodmjckjaa
open Go.RowKit

end Go.Proofs.Ytjcgkmodmjckjaa

namespace Go.Proofs.Ytjcgkmodmjckjaa

def costN (ops : List Wop) : List Nat → Int
  | [] => 0
  | a :: r => ((ops[a]?.map Wop.cost).getD 0) + costN ops r
theorem costN_bound {ops : List Wop} (h : ∀ o ∈ ops, 0 ≤ o.cost ∧ o.cost ≤ 100) : ∀ p : List Nat, 0 ≤ costN ops p ∧ costN ops p ≤ 100 * (p.length : Int)
  | [] => by simp [costN]
  | a :: r => by
    have h2 := costN_bound h r
    rw [costN]
    cases ho : ops[a]? with
    | none => simp; omega
    | some o =>
      have h1 := h o (List.mem_of_getElem? ho)
      simp; omega

section
variable {ops : List Wop} {L : List Nat} {acc : Nat → Bool} {D : Nat → Int}
/-! ### the finite costs are small -/
def below (L : List Nat) (D : Nat → Int) (z : Int) : Nat := (L.filter fun y => decide (D y < z)).length
end

end Go.Proofs.Ytjcgkmodmjckjaa

namespace Go.Proofs.Ytjcgkmodmjckjaa

/-- k for each cost, st for each step. -/
def wayN (k st : Int) (ops : List Wop) (p : List Nat) : Int := k * costN ops p + st * (p.length : Int)
theorem wayN_nil (k st : Int) (ops : List Wop) : wayN k st ops [] = 0 := by unfold wayN costN; simp
theorem costN_append (ops : List Wop) : ∀ p q : List Nat, costN ops (p ++ q) = costN ops p + costN ops q
  | [], q => by simp [costN]
  | a :: p, q => by rw [List.cons_append, costN, costN, costN_append ops p q]; omega
theorem wayN_append (k st : Int) (ops : List Wop) (p q : List Nat) : wayN k st ops (p ++ q) = wayN k st ops p + wayN k st ops q := by
  unfold wayN
  rw [costN_append, List.length_append, Int.natCast_add, Int.mul_add, Int.mul_add]; omega
theorem wayN_one {k st : Int} {ops : List Wop} {a : Nat} {o : Wop} (h : ops[a]? = some o) : wayN k st ops [a] = k * o.cost + st := by
  unfold wayN; simp [costN, h]
theorem wayN_low {k st : Int} {ops : List Wop} (hk : 0 ≤ k) (hs : 0 ≤ st) (h0 : ∀ o ∈ ops, 0 ≤ o.cost ∧ o.cost ≤ 100) (p : List Nat) : 0 ≤ wayN k st ops p := by
  have h1 := Int.mul_nonneg hk (costN_bound h0 p).1
  have h2 := Int.mul_nonneg hs (Int.natCast_nonneg p.length)
  unfold wayN; omega

/-- b is the least price of a plan, or -1 where there is none. -/
def LeastOf (k st : Int) (ops : List Wop) (s : Nat) (acc : Nat → Bool) (b : Int) : Prop :=
  (b = -1 ∧ ∀ p y, runOps ops s p = some y → acc y = false) ∨
  (0 ≤ b ∧ (∃ p y, runOps ops s p = some y ∧ acc y = true ∧ wayN k st ops p = b) ∧ ∀ p y, runOps ops s p = some y → acc y = true → b ≤ wayN k st ops p)
theorem LeastOf.unique {k st : Int} {ops : List Wop} {s : Nat} {acc : Nat → Bool} {b b' : Int} (h : LeastOf k st ops s acc b) (h' : LeastOf k st ops s acc b') : b = b' := by
  rcases h with ⟨h1, h2⟩ | ⟨h1, ⟨p, y, hp, hy, hb⟩, h3⟩ <;> rcases h' with ⟨g1, g2⟩ | ⟨g1, ⟨q, z, hq, hz, hc⟩, g3⟩
  · rw [h1, g1]
  · rw [h2 q z hq] at hz; cases hz
  · rw [g2 p y hp] at hy; cases hy
  · have := h3 q z hq hz; have := g3 p y hp hy; omega

end Go.Proofs.Ytjcgkmodmjckjaa

namespace Go.Proofs.Ytjcgkmodmjckjaa

structure SArc where
  op : Nat
  price : Int
  to : Nat

/-- The prices after one of them is set. -/
def putP {α : Type} (P : Nat → Option α) (x : Nat) (v : α) : Nat → Option α := fun y => if y = x then some v else P y
theorem putP_same {α : Type} (P : Nat → Option α) (x : Nat) (v : α) : putP P x v x = some v := by simp [putP]
theorem putP_other {α : Type} (P : Nat → Option α) {x y : Nat} (v : α) (h : y ≠ x) : putP P x v y = P y := by simp [putP, h]
/-! ### where the sides meet -/
/-! ### the end -/
section
variable {ops : List Wop} {L : List Nat} {Gf Gb : Nat → List SArc} {Sf Sb : Nat → Prop} {C : Int} {F B : Nat → Option Int} {pf pb : Nat → Option SArc} {Af Ab : List (Int × Int)} {sf sb : Nat} {best : Int} {at_ : Nat} {found : Bool}
end

end Go.Proofs.Ytjcgkmodmjckjaa

namespace Go.Proofs.Ytjcgkmodmjckjaa
open Go.RowKit

def NMap {α : Type} (w : World) (b : Nat) (enc : α → Value) (f : Nat → Option α) : Prop :=
  ∃ l : List (Nat × α), IMap w b .i64 (l.map fun p => ((p.1 : Int), enc p.2)) ∧ (l.map Prod.fst).Nodup ∧ ∀ x v, f x = some v ↔ (x, v) ∈ l

section
variable {α : Type} {w : World} {b : Nat} {enc : α → Value} {f : Nat → Option α}
theorem NMap.keeps {S : Nat → Prop} {w' : World} (h : NMap w b enc f) (hk : Keeps S w w') (hs : ¬ S b) : NMap w' b enc f := by
  obtain ⟨l, h1, h2⟩ := h; exact ⟨l, h1.keeps hk hs, h2⟩
theorem NMap.lt (h : NMap w b enc f) : b < w.heap.size := by obtain ⟨l, h1, _⟩ := h; exact h1.lt
theorem NMap.map_block (h : NMap w b enc f) : ∃ es c, w.heap[b]? = some (.map es c) := by obtain ⟨l, ⟨es, c, hb, _⟩, _⟩ := h; exact ⟨es, c, hb⟩
theorem NMap.ne_cells (h : NMap w b enc f) {g : Nat} {cs : Array Value} {T : TypeId} {fr : Nat × Nat} (hg : w.heap[g]? = some (.cells cs T fr)) : b ≠ g := fun e => by
  obtain ⟨es, c, hb⟩ := h.map_block
  rw [e, hg] at hb; cases hb
theorem NMap.made (w : World) (enc : α → Value) : NMap (w.alloc (.map #[] 0)) w.heap.size enc (fun _ => none) :=
  ⟨[], IMap.made w .i64, by simp, fun x v => by simp⟩
theorem nkeys_nodup {l : List (Nat × α)} (h : (l.map Prod.fst).Nodup) : ((l.map fun p => ((p.1 : Int), enc p.2)).map Prod.fst).Nodup := by
  rw [List.map_map]
  have : (l.map ((Prod.fst : Int × Value → Int) ∘ fun p => ((p.1 : Int), enc p.2))) = (l.map Prod.fst).map fun x : Nat => (x : Int) := by rw [List.map_map]; rfl
  rw [this]
  unfold List.Nodup at h ⊢
  rw [List.pairwise_map]
  exact h.imp fun hne e => hne (by omega)
theorem nkeys_miss {l : List (Nat × α)} (hl : ∀ x v, f x = some v ↔ (x, v) ∈ l) {x : Nat} (hx : f x = none) : ∀ p ∈ l.map (fun p => ((p.1 : Int), enc p.2)), p.1 ≠ (x : Int) := fun p hp e => by
  obtain ⟨q, hq, rfl⟩ := List.mem_map.1 hp
  have : q.1 = x := by simp only at e; omega
  have h2 := (hl q.1 q.2).2 hq
  rw [this, hx] at h2; cases h2
variable {P : Program} {t k e : TypeId}
theorem NMap.look_some (h : NMap w b enc f) (ht : P.underlying t = some (.map k e)) (hk : P.underlying k = some (.int .i64)) {x : Nat} {v : α} (hx : f x = some v) :
    (Instr.lookup t (.map (some b)) (.int .i64 (x : Int)) true).run P w = .ok (.tuple #[enc v, .bool true]) w ∧ (Instr.lookup t (.map (some b)) (.int .i64 (x : Int)) false).run P w = .ok (enc v) w := by
  obtain ⟨l, h1, h2, h3⟩ := h
  exact h1.run_lookup_hit ht hk (nkeys_nodup h2) (List.mem_map.2 ⟨(x, v), (h3 x v).1 hx, rfl⟩)
theorem NMap.look_none (h : NMap w b enc f) (ht : P.underlying t = some (.map k e)) (hk : P.underlying k = some (.int .i64)) {z : Value} (hz : (zeroValue e).run P w = .ok z w) {x : Nat} (hx : f x = none) :
    (Instr.lookup t (.map (some b)) (.int .i64 (x : Int)) true).run P w = .ok (.tuple #[z, .bool false]) w ∧ (Instr.lookup t (.map (some b)) (.int .i64 (x : Int)) false).run P w = .ok z w := by
  obtain ⟨l, h1, _, h3⟩ := h
  exact h1.run_lookup_miss ht hk hz (nkeys_miss h3 hx)
/-- A store. -/
theorem NMap.put (h : NMap w b enc f) (ht : P.underlying t = some (.map k e)) (hk : P.underlying k = some (.int .i64)) (x : Nat) (v : α) :
    ∃ w', (Instr.mapUpdate t (.map (some b)) (.int .i64 (x : Int)) (enc v)).run P w = .ok () w' ∧ NMap w' b enc (putP f x v) ∧ Keeps (fun j => j = b) w w' := by
  obtain ⟨l, h1, h2, h3⟩ := h
  cases hx : f x with
  | none =>
    obtain ⟨w', hr, hi, hk'⟩ := h1.run_update_new ht hk (nkeys_miss h3 hx) (enc v)
    refine ⟨w', hr, ⟨l ++ [(x, v)], by rw [List.map_append]; exact hi, ?_, fun y u => ?_⟩, hk'⟩
    · rw [List.map_append, List.nodup_append]
      refine ⟨h2, by simp, fun a ha c hc hac => ?_⟩
      simp only [List.map_cons, List.map_nil, List.mem_singleton] at hc
      obtain ⟨q, hq, rfl⟩ := List.mem_map.1 ha
      have h4 := (h3 q.1 q.2).2 hq
      rw [hac, hc, hx] at h4; cases h4
    · by_cases hy : y = x
      · subst hy
        rw [putP_same, List.mem_append]
        constructor
        · intro h; cases h; exact .inr (by simp)
        · rintro (h | h)
          · have := (h3 y u).2 h; rw [hx] at this; cases this
          · simp at h; rw [h]
      · rw [putP_other f v hy, h3 y u, List.mem_append]
        constructor
        · exact .inl
        · rintro (h | h)
          · exact h
          · simp at h; exact absurd h.1 hy
  | some u0 =>
    obtain ⟨j, hj⟩ := List.mem_iff_getElem?.1 ((h3 x u0).1 hx)
    obtain ⟨w', hr, hi, hk'⟩ := h1.run_update_old ht hk (nkeys_nodup h2) (x := (x : Int)) (u := enc u0) (j := j) (by rw [List.getElem?_map, hj]; rfl) (enc v)
    have hjl := (List.getElem?_eq_some_iff.1 hj).1
    have hkeys : (l.set j (x, v)).map Prod.fst = l.map Prod.fst := by
      apply List.ext_getElem?
      intro n
      rw [List.getElem?_map, List.getElem?_map]
      by_cases hn : n = j
      · subst hn; rw [List.getElem?_set_self hjl, hj]; rfl
      · rw [List.getElem?_set_ne (fun e => hn e.symm)]
    refine ⟨w', hr, ⟨l.set j (x, v), by rw [List.map_set]; exact hi, by rw [hkeys]; exact h2, fun y u => ?_⟩, hk'⟩
    have uniq : ∀ n q, l[n]? = some q → q.1 = x → n = j := fun n q hq hqx => by
      have e1 : (l.map Prod.fst)[n]? = some x := by rw [List.getElem?_map, hq]; simp [hqx]
      have e2 : (l.map Prod.fst)[j]? = some x := by rw [List.getElem?_map, hj]; rfl
      exact nodup_ix h2 e1 e2
    by_cases hy : y = x
    · subst hy
      rw [putP_same]
      constructor
      · intro h; cases h
        exact List.mem_of_getElem? (List.getElem?_set_self hjl)
      · intro h
        obtain ⟨n, hn⟩ := List.mem_iff_getElem?.1 h
        by_cases hnj : n = j
        · subst hnj; rw [List.getElem?_set_self hjl] at hn; cases hn; rfl
        · rw [List.getElem?_set_ne (fun e => hnj e.symm)] at hn
          exact absurd (uniq n _ hn rfl) hnj
    · rw [putP_other f v hy, h3 y u]
      constructor
      · intro h
        obtain ⟨n, hn⟩ := List.mem_iff_getElem?.1 h
        have hnj : n ≠ j := fun e => by subst e; rw [hj] at hn; cases hn; exact hy rfl
        exact List.mem_of_getElem? (i := n) (by rw [List.getElem?_set_ne (fun e => hnj e.symm)]; exact hn)
      · intro h
        obtain ⟨n, hn⟩ := List.mem_iff_getElem?.1 h
        by_cases hnj : n = j
        · subst hnj; rw [List.getElem?_set_self hjl] at hn; cases hn; exact absurd rfl hy
        · rw [List.getElem?_set_ne (fun e => hnj e.symm)] at hn
          exact List.mem_of_getElem? hn
end

end Go.Proofs.Ytjcgkmodmjckjaa
