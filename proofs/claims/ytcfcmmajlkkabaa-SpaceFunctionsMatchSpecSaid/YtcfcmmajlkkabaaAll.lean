/- space.All: a search with a stack. -/
import Derived.Test.YtcfcmmajlkkabaaSteps
import Derived.Test.YtcfcmmajlkkabaaKitA
import Derived.Test.YtcfcmmajlkkabaaSort
namespace Go.Proofs.Ytcfcmmajlkkabaa
open Go.RowKit Go.Shelf
attribute [local go_sem] Oper.semAt_some

theorem Try.info_u32 : (Try.prog.info? 90).map (fun i => (i.zero, i.size, i.bytes)) = some (some (.int .u32 0), 1, 4) := by kernel_rfl

def seenL (seen : List Nat) : List (Int × Value) := seen.map fun x : Nat => ((x : Int), Value.agg #[])

theorem seenL_nodup {l : List Nat} (h : l.Nodup) : ((seenL l).map Prod.fst).Nodup := by
  unfold seenL
  rw [List.map_map]
  have e : (Prod.fst ∘ fun x : Nat => ((x : Int), Value.agg #[])) = fun x : Nat => (x : Int) := rfl
  rw [e]
  exact List.Pairwise.map _ (fun a b hab => by omega) h
theorem seenL_mem {l : List Nat} {x : Nat} (h : x ∈ l) : ((x : Int), Value.agg #[]) ∈ seenL l := List.mem_map.2 ⟨x, h, rfl⟩
theorem seenL_miss {l : List Nat} {x : Nat} (h : x ∉ l) : ∀ p ∈ seenL l, p.1 ≠ (x : Int) := by
  intro p hp e
  obtain ⟨y, hy, rfl⟩ := List.mem_map.1 hp
  have : y = x := by simp only at e; omega
  exact h (this ▸ hy)

theorem wsteps_le (ops : List Wop) (s : Nat) : (wsteps ops s).length ≤ ops.length := by
  have h := congrArg List.length (wsteps_nexts ops s)
  rw [List.length_map] at h
  rw [h]
  unfold nexts
  rw [List.length_map]
  exact List.length_filter_le _ _

/-- What All knows between two steps. -/
structure AllS (w0 : World) (b1 b2 b3 : Nat) (stk seen out : List Nat) (vs vo : Value) (W : World) : Prop where
  keep : Keeps (fun _ => False) w0 W
  x1 : Boxed W b1 85 vs
  x3 : Boxed W b3 122 (.map (some b2))
  stack : W.ownsRow w0.heap.size 90 1 vs stk.length (stk.map encW)
  map : IMap W b2 .u32 (seenL seen)
  out : W.ownsRow w0.heap.size 90 1 vo out.length (out.map encW)
  apart : ∀ k, vs.ownBlock = some k → vo.ownBlock ≠ some k
  some_ : vs ≠ .slice none 0 0
  l1 : w0.heap.size ≤ b1
  l2 : w0.heap.size ≤ b2
  l3 : w0.heap.size ≤ b3

theorem AllS.by {w0 : World} {b1 b2 b3 : Nat} {stk seen out : List Nat} {vs vo : Value} {W W' : World} {S : Nat → Prop} (h : AllS w0 b1 b2 b3 stk seen out vs vo W) (hk : Keeps S W W')
    (s1 : ¬ S b1) (s2 : ¬ S b2) (s3 : ¬ S b3) (ss : ∀ k, vs.ownBlock = some k → ¬ S k) (so : ∀ k, vo.ownBlock = some k → ¬ S k) (hS : ∀ k, S k → w0.heap.size ≤ k) : AllS w0 b1 b2 b3 stk seen out vs vo W' :=
  ⟨h.keep.trans' hk (fun i hi => .inr (hS i hi)), hk.heap h.x1 s1, hk.heap h.x3 s3, hk.ownsRow h.stack ss, h.map.keeps hk s2, hk.ownsRow h.out so, h.apart, h.some_, h.l1, h.l2, h.l3⟩
theorem AllS.keeps0 {w0 : World} {b1 b2 b3 : Nat} {stk seen out : List Nat} {vs vo : Value} {W W' : World} (h : AllS w0 b1 b2 b3 stk seen out vs vo W) (hk : Keeps (fun _ => False) W W') : AllS w0 b1 b2 b3 stk seen out vs vo W' :=
  h.by hk (fun h => h) (fun h => h) (fun h => h) (fun _ _ h => h) (fun _ _ h => h) (fun _ h => h.elim)

section
variable {w0 : World} {b1 b2 b3 : Nat} {stk seen out : List Nat} {vs vo : Value} {W : World}
theorem AllS.row1 (h : AllS w0 b1 b2 b3 stk seen out vs vo W) : vs.ownBlock ≠ some b1 := fun e => h.x1.not_row (by decide) h.stack e.symm
theorem AllS.row3 (h : AllS w0 b1 b2 b3 stk seen out vs vo W) : vs.ownBlock ≠ some b3 := fun e => h.x3.not_row (by decide) h.stack e.symm
theorem AllS.orow1 (h : AllS w0 b1 b2 b3 stk seen out vs vo W) : vo.ownBlock ≠ some b1 := fun e => h.x1.not_row (by decide) h.out e.symm
theorem AllS.orow3 (h : AllS w0 b1 b2 b3 stk seen out vs vo W) : vo.ownBlock ≠ some b3 := fun e => h.x3.not_row (by decide) h.out e.symm
theorem not_map {base : Nat} {e : TypeId} {size n : Nat} {v : Value} {xs : List Value} {kd : IntKind} {l : List (Int × Value)} {b : Nat} (hm : IMap W b kd l) (hr : W.ownsRow base e size v n xs) : v.ownBlock ≠ some b := by
  intro e'
  rcases hr.2 with ⟨rfl, _⟩ | ⟨g, cap, cur, rfl, _, hgg, _⟩
  · simp [Value.ownBlock] at e'
  · simp [Value.ownBlock] at e'; subst e'
    obtain ⟨es, c, hb, _⟩ := hm
    rw [hgg] at hb; cases hb
theorem box_not_map {t : TypeId} {v : Value} {kd : IntKind} {l : List (Int × Value)} {b c : Nat} (hm : IMap W b kd l) (hx : Boxed W c t v) : b ≠ c := by
  rintro rfl
  obtain ⟨es, c, hb, _⟩ := hm
  rw [show W.heap[b]? = _ from hx] at hb; cases hb
theorem AllS.box13 (h : AllS w0 b1 b2 b3 stk seen out vs vo W) : b1 ≠ b3 := by
  rintro rfl
  have := (show W.heap[b1]? = _ from h.x1).symm.trans h.x3
  simp at this

/-- The last of the stack is taken. -/
theorem AllS.pop {g n cap : Nat} {x : Nat} (h : AllS w0 b1 b2 b3 (stk ++ [x]) seen out (.slice (some ⟨g, 0, none⟩) (n + 1) cap) vo W) (hn : stk.length = n) :
    AllS w0 b1 b2 b3 stk seen out (.slice (some ⟨g, 0, none⟩) n cap) vo (W.setCell ⟨b1, 0, none⟩ (.slice (some ⟨g, 0, none⟩) n cap)) := by
  have hk : Keeps (fun b => b = b1) W (W.setCell ⟨b1, 0, none⟩ (.slice (some ⟨g, 0, none⟩) n cap)) := (Keeps.refl (fun b => b = b1) W).setCell (p := ⟨b1, 0, none⟩) (.inl rfl) _
  have hs := h.stack
  rw [List.length_append, List.map_append, List.length_singleton, hn] at hs
  have hr := ownsRow_init hs
  refine ⟨h.keep.trans' hk (fun i hi => .inr (by subst hi; exact h.l1)), h.x1.set _, hk.heap h.x3 (fun e => h.box13 e.symm), ?_, h.map.keeps hk (box_not_map h.map h.x1), hk.ownsRow h.out (fun k hk' e => by subst e; exact h.orow1 hk'), h.apart, by simp, h.l1, h.l2, h.l3⟩
  rw [hn]
  refine hk.ownsRow hr (fun k hk' e => by subst e; exact h.row1 (by simpa [Value.ownBlock] using hk'))

theorem lt_of_heap_map {b : Nat} {kd : IntKind} {l : List (Int × Value)} (h : IMap W b kd l) : b < W.heap.size := h.lt
/-- Blocks that are no cells and lie beyond may turn. -/
theorem AllS.steady {W' : World} {row : Option Nat} {B : Nat} (h : AllS w0 b1 b2 b3 stk seen out vs vo W) (hg : W.grownBy W' row) (hr : ∀ r, row = some r → B ≤ r ∧ ∃ o : Obj, W.heap[r]? = some o ∧ o.isCells = false) (hB : w0.heap.size ≤ B) (hb2 : b2 < B) : AllS w0 b1 b2 b3 stk seen out vs vo W' :=
  ⟨steady_keeps0 hg (fun r e => (hr r e).1) hB h.keep, steady_heap hg (fun r e => (hr r e).2) h.x1, steady_heap hg (fun r e => (hr r e).2) h.x3, steady_row hg (fun r e => (hr r e).2) h.stack, steady_map hg (fun r e => (hr r e).1) hb2 h.map, steady_row hg (fun r e => (hr r e).2) h.out, h.apart, h.some_, h.l1, h.l2, h.l3⟩

/-- One more is put out. -/
theorem AllS.put {W3 : World} {o : Obj} {gg m cap x : Nat} (h : AllS w0 b1 b2 b3 stk seen out vs vo W) (hm : out.length + 1 = m) (hown : W3.ownsRow w0.heap.size 90 1 (.slice (some ⟨gg, 0, none⟩) m cap) m (out.map encW ++ [encW x]))
    (hg : (W.alloc o).grownBy W3 vo.ownBlock) (hat : vo.ownBlock = some gg ∨ gg = W.heap.size + 1) : AllS w0 b1 b2 b3 stk seen (out ++ [x]) vs (.slice (some ⟨gg, 0, none⟩) m cap) W3 := by
  have h' := h.keeps0 ((Keeps.refl (fun _ => False) W).alloc o)
  have hk : Keeps (fun b => vo.ownBlock = some b) (W.alloc o) W3 := (Keeps.refl _ _).grown hg (fun k hk => .inl hk)
  refine ⟨h'.keep.trans' hk (fun i e => .inr (World.ownsRow.lt h.out i e).1), hk.heap h'.x1 h.orow1, hk.heap h'.x3 h.orow3, hk.ownsRow h'.stack (fun k hk' e => h.apart k hk' e), h'.map.keeps hk (not_map h.map h.out), ?_, ?_, h.some_, h.l1, h.l2, h.l3⟩
  · rw [List.length_append, List.length_singleton, hm, List.map_append]; exact hown
  · intro k hk' e
    simp [Value.ownBlock] at e
    subst e
    rcases hat with e | e
    · exact h.apart gg hk' e
    · have := (World.ownsRow.lt h.stack gg hk').2; omega

/-- One more is put on the stack. -/
theorem AllS.push {W3 : World} {o : Obj} {gg m cap x : Nat} (h : AllS w0 b1 b2 b3 stk seen out vs vo W) (hm : stk.length + 1 = m) (hown : W3.ownsRow w0.heap.size 90 1 (.slice (some ⟨gg, 0, none⟩) m cap) m (stk.map encW ++ [encW x]))
    (hg : (W.alloc o).grownBy W3 vs.ownBlock) (hat : vs.ownBlock = some gg ∨ gg = W.heap.size + 1) : AllS w0 b1 b2 b3 (stk ++ [x]) seen out (.slice (some ⟨gg, 0, none⟩) m cap) vo (W3.setCell ⟨b1, 0, none⟩ (.slice (some ⟨gg, 0, none⟩) m cap)) := by
  have h' := h.keeps0 ((Keeps.refl (fun _ => False) W).alloc o)
  have hk1 : Keeps (fun b => vs.ownBlock = some b) (W.alloc o) W3 := (Keeps.refl _ _).grown hg (fun k hk => .inl hk)
  have hx1 : Boxed W3 b1 85 vs := hk1.heap h'.x1 h.row1
  have hk2 : Keeps (fun b => b = b1) W3 (W3.setCell ⟨b1, 0, none⟩ (.slice (some ⟨gg, 0, none⟩) m cap)) := (Keeps.refl (fun b => b = b1) W3).setCell (p := ⟨b1, 0, none⟩) (.inl rfl) _
  have hgb : gg ≠ b1 := by
    rcases hat with e | e
    · intro e'; exact h.row1 (by rw [e, e'])
    · have := h.x1.lt; omega
  have ho : W3.ownsRow w0.heap.size 90 1 vo out.length (out.map encW) := hk1.ownsRow h'.out (fun k hk' e => h.apart k e hk')
  refine ⟨(h'.keep.trans' hk1 (fun i e => .inr (World.ownsRow.lt h.stack i e).1)).trans' hk2 (fun i e => .inr (by subst e; exact h.l1)), hx1.set _, hk2.heap (hk1.heap h'.x3 h.row3) (fun e => h.box13 e.symm), ?_, (h'.map.keeps hk1 (not_map h.map h.stack)).keeps hk2 (box_not_map h.map h.x1), hk2.ownsRow ho (fun k hk' e => by subst e; exact h.orow1 hk'), ?_, by simp, h.l1, h.l2, h.l3⟩
  · rw [List.length_append, List.length_singleton, hm, List.map_append]
    exact hk2.ownsRow hown (fun k hk' e => by simp [Value.ownBlock] at hk'; omega)
  · intro k hk' e
    simp [Value.ownBlock] at hk'
    subst hk'
    rcases hat with e' | e'
    · exact h.apart gg e' e
    · have := (World.ownsRow.lt h.out gg e).2; omega

/-- One more is seen. -/
theorem AllS.see {W' : World} {x : Nat} (h : AllS w0 b1 b2 b3 stk seen out vs vo W) (hI : IMap W' b2 .u32 (seenL seen ++ [((x : Int), .agg #[])])) (hk : Keeps (fun k => k = b2) W W') : AllS w0 b1 b2 b3 stk (seen ++ [x]) out vs vo W' :=
  ⟨h.keep.trans' hk (fun i e => .inr (by subst e; exact h.l2)), hk.heap h.x1 (fun e => box_not_map h.map h.x1 e.symm), hk.heap h.x3 (fun e => box_not_map h.map h.x3 e.symm), hk.ownsRow h.stack (fun k hk' e => by subst e; exact not_map h.map h.stack hk'),
    by simpa [seenL] using hI, hk.ownsRow h.out (fun k hk' e => by subst e; exact not_map h.map h.out hk'), h.apart, h.some_, h.l1, h.l2, h.l3⟩
end

def sliceLen : Value → Nat
  | .slice _ n _ => n
  | _ => 0

structure AllLoop (ops : List Wop) (st : Nat) (w0 : World) (b1 b2 b3 : Nat) (stk seen out : List Nat) (vs vo : Value) (ds : List Deferred) (W : World) : Prop where
  s : AllS w0 b1 b2 b3 stk seen out vs vo W
  dfs : Dfs ops st stk seen out
  few : seen.length ≤ 2000
  small : ∀ x ∈ seen, x < 4294967296
  marks : Marks ds W w0.heap.size

/-- Within the loop over the steps of x, when the words l have come. -/
def AllI (w0 : World) (b1 b2 b3 : Nat) (stk seen out : List Nat) (x : Nat) (vo : Value) (ds : List Deferred) (Bs : Nat) (l : List Nat) (W : World) : Prop :=
  ∃ vs, AllS w0 b1 b2 b3 (stk ++ freshs seen l) (seen ++ freshs seen l) (out ++ [x]) vs vo W ∧ Marks ds W w0.heap.size ∧ W.heap[Bs]? = some (.cells #[.int .u32 (x : Int)] 90 (0, 0)) ∧ ∀ k, vs.ownBlock = some k → k ≠ Bs

/-- What All hands back. -/
def AllPost (ops : List Wop) (st : Nat) (w : World) (e : Ending) (w' : World) : Prop := Keeps (fun _ => False) w w' ∧
  ((reached ops st = none ∧ e = .returned (.tuple #[.slice none 0 0, .bool false])) ∨
   (∃ l, reached ops st = some l ∧ ∃ (v' : Value) (out : List Nat), e = .returned (.tuple #[v', .bool true]) ∧ out.Perm l ∧ w'.ownsRow w.heap.size 90 1 v' out.length (out.map encW)))

set_option maxRecDepth 100000 in
set_option maxHeartbeats 4000000 in
theorem all_in (w : World) (b st g0 base : Nat) (v : Value) (ops : List Wop) (hw : WordsAt w base b st g0 v ops) (hops : WopsOk ops) (hmany : ops.length ≤ 40) (hst : st < 4294967296) :
    CallsIn Fence.wide 9 Try.prog 88 #[.iface 84 (.pointer (some ⟨b, 0, none⟩))] w (AllPost ops st w) := by
  have HW := Lib.hid hw
  have hmm := @run_makeMap Try.prog
  have mS := method_Start ⟨b, 0, none⟩
  have mT := method_Steps ⟨b, 0, none⟩
  clear hw
  refine callsIn_of_wp_marks Try.func88 rfl trivial ?_ rfl
  simp only [Try.ntmps88, List.size_toArray, List.length_cons, List.length_nil, Nat.reduceAdd, Nat.reduceSub, Array.replicate_succ, Array.replicate_zero, List.push_toArray, List.append_toArray, List.nil_append, List.cons_append]
  gi_wp2
  refine ⟨trivial, ?_⟩
  refine (callsIn_wide.2 (start_any _ _ _ _ _ _ _ HW.out)).mono ?_; rintro e w1 ⟨rfl, rfl⟩
  gi_wp2
  have kA := (((Keeps.refl (fun _ => False) w).alloc (.cells #[.int .u32 (st : Int)] 90)).alloc (.cells #[.slice (some ⟨w.heap.size, 0, none⟩) 1 1] 85))
  have kB := kA.alloc (.map #[] 0)
  refine ⟨trivial, ?_⟩
  refine (callsIn_wide.2 (start_any _ _ _ _ _ _ _ (HW.out.keeps0 kB))).mono ?_; rintro e w1 ⟨rfl, rfl⟩
  have hm0 : IMap (((w.alloc (.cells #[.int .u32 (st : Int)] 90)).alloc (.cells #[.slice (some ⟨w.heap.size, 0, none⟩) 1 1] 85)).alloc (.map #[] 0)) (w.heap.size + 1 + 1) .u32 [] := by
    have := IMap.made ((w.alloc (.cells #[.int .u32 (st : Int)] 90)).alloc (.cells #[.slice (some ⟨w.heap.size, 0, none⟩) 1 1] 85)) .u32
    rwa [World.size_alloc, World.size_alloc] at this
  obtain ⟨W4, hrun, hI4, hk4⟩ := hm0.run_update_new (P := Try.prog) Try.underlying122 Try.underlying90 (x := (st : Int)) (by simp) (.agg #[])
  have hx0 := heap_alloc_new w (.cells #[.int .u32 (st : Int)] 90)
  have hx1 := heap_alloc_new (w.alloc (.cells #[.int .u32 (st : Int)] 90)) (.cells #[.slice (some ⟨w.heap.size, 0, none⟩) 1 1] 85)
  rw [World.size_alloc] at hx1
  have hS : AllS w (w.heap.size + 1) (w.heap.size + 1 + 1) W4.heap.size [st] [st] [] (.slice (some ⟨w.heap.size, 0, none⟩) 1 1) (.slice none 0 0) (W4.alloc (.cells #[.map (some (w.heap.size + 1 + 1))] 122)) := by
    have n0 : ¬ w.heap.size = w.heap.size + 1 + 1 := by omega
    have n1 : ¬ w.heap.size + 1 = w.heap.size + 1 + 1 := by omega
    have g0 := hk4.heap (((Below.heap_alloc _ _ _ (by simp; omega)).trans ((Below.heap_alloc _ _ _ (by simp)).trans hx0))) n0
    have g1 := hk4.heap ((Below.heap_alloc _ _ _ (by simp)).trans hx1) n1
    have a0 := ((Keeps.refl (fun _ => False) W4).alloc (.cells #[.map (some (w.heap.size + 1 + 1))] 122))
    refine ⟨(kB.trans' hk4 (fun i e => .inr (by omega))).alloc _, a0.heap g1 (fun h => h), Boxed.new W4 _ _, ?_, ?_, World.ownsRow_nil _ _ _ _, fun k _ => by simp [Value.ownBlock], by simp, by omega, by omega, ?_⟩
    · exact ⟨by simp, .inr ⟨w.heap.size, 1, _, rfl, Nat.le_refl _, a0.heap g0 (fun h => h), by simp, by unfold maxLen; omega, by simp, by simp [encW]⟩⟩
    · have := hI4.alloc (.cells #[.map (some (w.heap.size + 1 + 1))] 122)
      simpa [seenL] using this
    · have := hk4.size; simp at this; omega
  have HS := Lib.hid hS
  have HK4 := Lib.hid hk4
  clear hS hI4 hx0 hx1 hm0 kA kB hk4
  gi_wp2
  generalize W4.heap.size = b3 at HS ⊢
  generalize (W4.alloc (.cells #[.map (some (w.heap.size + 1 + 1))] 122)) = W5 at HS ⊢
  generalize w.heap.size + 1 + 1 = b2 at HS ⊢
  generalize w.heap.size + 1 = b1 at HS ⊢
  clear hrun HK4
  obtain ⟨i0, hi0, hz0, hz1, hz2⟩ := info_parts Try.info_u32
  refine wpIn_loop (fun a' wr => ∃ (ds : List Deferred) (u6 u7 u8 u9 u10 u11 u12 u13 u14 u15 u16 u17 u18 u19 u20 u21 u22 u23 u24 u25 u26 u27 u28 u29 u30 u31 u32 u33 u34 u35 u36 u37 u38 u39 u40 u41 u42 u43 u44 u45 u46 u47 u48 u49 u50 u51 u52 u53 u54 u55 u56 u57 u58 u59 u60 u61 u62 : Value) (stk seen out : List Nat) (vs : Value), AllLoop ops st w b1 b2 b3 stk seen out vs u6 ds wr ∧
      a' = { tmps := #[.iface 84 (.pointer (some ⟨b, 0, none⟩)), undef, .slice none 0 0, .bool false, .pointer (some ⟨b1, 0, none⟩), .pointer (some ⟨b3, 0, none⟩), u6, u7, u8, u9, u10, u11, u12, u13, u14, u15, u16, u17, u18, u19, u20, u21, u22, u23, u24, u25, u26, u27, u28, u29, u30, u31, u32, u33, u34, u35, u36, u37, u38, u39, u40, u41, u42, u43, u44, u45, u46, u47, u48, u49, u50, u51, u52, u53, u54, u55, u56, u57, u58, u59, u60, u61, u62], defers := ds })
    (fun a' _ => 2001 - sliceLen (a'.tmps.getD 6 undef)) ?start ?round
  case start => exact ⟨[], _, _, _, _, _, _, _, _, _, _, _, _, _, _, _, _, _, _, _, _, _, _, _, _, _, _, _, _, _, _, _, _, _, _, _, _, _, _, _, _, _, _, _, _, _, _, _, _, _, _, _, _, _, _, _, _, _, [st], [st], [], _, ⟨HS.out, Dfs.start ops st, by simp, by simpa using hst, Marks.nil _ _⟩, rfl⟩
  case round =>
    rintro a wr ⟨ds, u6, u7, u8, u9, u10, u11, u12, u13, u14, u15, u16, u17, u18, u19, u20, u21, u22, u23, u24, u25, u26, u27, u28, u29, u30, u31, u32, u33, u34, u35, u36, u37, u38, u39, u40, u41, u42, u43, u44, u45, u46, u47, u48, u49, u50, u51, u52, u53, u54, u55, u56, u57, u58, u59, u60, u61, u62, stk, seen, out, vs, hL, rfl⟩
    have HL := Lib.hid hL
    clear hL
    have x1c := HL.out.s.x1.cell
    have x1f := HL.out.s.x1.frozen
    have x3c := HL.out.s.x3.cell
    by_cases hstk : stk = []
    · subst hstk
      obtain ⟨g1, c1, hv⟩ := ownsRow_form1 HL.out.s.stack
      subst hv
      gi_wp2
      refine leaves_marks HL.out.marks (fun W' hk => ?_)
      obtain ⟨l, hl1, hl2⟩ := HL.out.dfs.found HL.out.few
      refine ⟨.tuple #[u6, .bool true], by simp [results, Try.results88, go_sem], HL.out.s.keep.trans' hk (fun i hi => .inr hi.1), .inr ⟨l, hl1, u6, out, rfl, hl2, hk.ownsRow HL.out.s.out (fun k hk' hs => row_not_deferred HL.out.s.out k hk' hs.2)⟩⟩
    · obtain ⟨stk', x, rfl⟩ : ∃ stk' x, stk = stk' ++ [x] := ⟨stk.dropLast, stk.getLast hstk, (List.dropLast_concat_getLast hstk).symm⟩
      have hsv := HL.out.s.stack
      rw [List.length_append, List.map_append, List.length_singleton] at hsv
      obtain ⟨g, cap, hv, hg1, hg2⟩ := hsv.form (by omega)
      subst hv
      have hcx : wr.cell? ⟨g, stk'.length, none⟩ = some (encW x) := by
        have := World.ownsRow.cells hsv (g := g) rfl stk'.length (encW x) (by rw [List.getElem?_append_right (by simp)]; simp)
        have hadd : (⟨g, 0, none⟩ : Addr).add stk'.length = ⟨g, stk'.length, none⟩ := by unfold Addr.add; split <;> simp_all
        rwa [hadd] at this
      have hin := ownsRow_init hsv
      have hcap : stk'.length + 1 ≤ cap := by
        rcases hsv.2 with ⟨_, h0⟩ | ⟨_, _, _, hv', _, _, hn', _⟩
        · omega
        · simp only [Value.slice.injEq] at hv'; obtain ⟨_, _, rfl⟩ := hv'; exact hn'
      have hcapi : (stk'.length : Int) ≤ (cap : Int) := by omega
      have hbig : stk'.length ≤ 2000 := by
        have h1 := HL.out.dfs.perm.length_eq
        have h2 := HL.out.few
        simp at h1; omega
      have hout : out.length ≤ 2000 := by
        have h1 := HL.out.dfs.perm.length_eq
        have h2 := HL.out.few
        simp at h1; omega
      unfold encW at hcx
      have HSV := Lib.hid hsv; have HIN := Lib.hid hin
      clear hsv hin hstk
      have HP := Lib.hid (HL.out.s.pop (n := stk'.length) rfl)
      have HPO := Lib.hid (HP.out.out.alloc (.cells #[.int .u32 (x : Int)] 90))
      have hsz : (wr.setCell ⟨b1, 0, none⟩ (.slice (some ⟨g, 0, none⟩) stk'.length cap)).heap.size = wr.heap.size := by simp
      have hlow : w.heap.size ≤ wr.heap.size := HL.out.s.keep.size
      gi_wp2_with (gi_at_builtin; refine wpListIn_append_lies _ rfl (.tmp 33) (.tmp 35) 85 rfl w.heap.size 90 i0 _ 1 4 Try.underlying85 hi0 hz0 hz1 hz2 rfl (by omega) u6 out.length (out.map encW) rfl HPO.out ⟨wr.heap.size, 0, none⟩ 1 1 [.int .u32 (x : Int)] rfl rfl ?hnews ?hone (by omega) (by unfold maxLen; omega) (by omega) (by simp; omega) (wr.heap.size + 1) (by simp) ?_)
      case hnews =>
        have := World.news_of_block (cs := #[.int .u32 (x : Int)]) (t := 90) (fr := (0, 0)) (heap_alloc_new (wr.setCell ⟨b1, 0, none⟩ (.slice (some ⟨g, 0, none⟩) stk'.length cap)) (.cells #[.int .u32 (x : Int)] 90))
        rwa [hsz] at this
      case hone => simp [Value.oneCell']
      intro g2 cap2 w3 hown hgrow hat hlt3
      have HA := Lib.hid (HP.out.put (x := x) rfl hown hgrow (by rw [hsz]; exact hat))
      have HD := Lib.hid (show KeepsD wr w3 from by
        have k1 : Keeps (fun b => b = b1) wr (wr.setCell ⟨b1, 0, none⟩ (.slice (some ⟨g, 0, none⟩) stk'.length cap)) := (Keeps.refl (fun b => b = b1) wr).setCell (p := ⟨b1, 0, none⟩) (.inl rfl) _
        have k2 : Keeps (fun b => u6.ownBlock = some b) ((wr.setCell ⟨b1, 0, none⟩ (.slice (some ⟨g, 0, none⟩) stk'.length cap)).alloc (.cells #[.int .u32 (x : Int)] 90)) w3 := (Keeps.refl _ _).grown hgrow (fun k hk => .inl hk)
        exact (KeepsD.of k1 (fun b e => by subst e; exact cells_not_deferred HL.out.s.x1)).trans ((KeepsD.of0 ((Keeps.refl _ _).alloc _)).trans (KeepsD.of k2 (fun b e => row_not_deferred HPO.out b e))))
      have HDF := Lib.hid HL.out.dfs.step
      have hx32 : x < 4294967296 := HL.out.small x (HL.out.dfs.perm.mem_iff.2 (by simp))
      have HM := Lib.hid (HL.out.marks.keeps HD.out)
      obtain ⟨ao6, c6, h6⟩ := ownsRow_form1 HL.out.s.out
      have H6 := Lib.hid h6
      clear h6
      have HND := Lib.hid HL.out.dfs.nodup
      have HWL := Lib.hid (show (wsteps ops x).length ≤ 40 from Nat.le_trans (wsteps_le ops x) hmany)
      have HFEW := Lib.hid HL.out.few; have HSM := Lib.hid HL.out.small
      clear hown hgrow hat hlt3 hcx x1c x1f x3c hg1 hg2 hsz HPO HP HIN HSV HD HL
      gi_wp2
      refine ⟨trivial, ?_⟩
      refine (callsIn_wide.2 (steps_any w3 b x)).mono ?_; rintro e w4 ⟨rfl, rfl⟩
      gi_wp2
      obtain ⟨W6, hW6⟩ : ∃ W6, ((w3.alloc (.cells #[.pointer (some ⟨b, 0, none⟩)] 84)).alloc (.cells #[.int .u32 (x : Int)] 90)) = W6 := ⟨_, rfl⟩
      have hz6 : W6.heap.size = w3.heap.size + 1 + 1 := by rw [← hW6]; simp
      have k6 : Keeps (fun _ => False) w3 W6 := by rw [← hW6]; exact ((Keeps.refl _ _).alloc _).alloc _
      have hBw : W6.cell? ⟨w3.heap.size, 0, none⟩ = some (.pointer (some ⟨b, 0, none⟩)) := by
        rw [← hW6]; exact ((Boxed.new w3 _ _).alloc _).cell
      have hBs : W6.heap[w3.heap.size + 1]? = some (.cells #[.int .u32 (x : Int)] 90 (0, 0)) := by
        rw [← hW6]
        have := heap_alloc_new (w3.alloc (.cells #[.pointer (some ⟨b, 0, none⟩)] 84)) (.cells #[.int .u32 (x : Int)] 90)
        rwa [World.size_alloc] at this
      have hBsc : W6.cell? ⟨w3.heap.size + 1, 0, none⟩ = some (.int .u32 (x : Int)) := by rw [cell_of_blk hBs]; rfl
      rw [hW6]
      have hlow3 : w.heap.size ≤ w3.heap.size := HA.out.keep.size
      have HA6 := Lib.hid (HA.out.keeps0 k6)
      have HM6 := Lib.hid (HM.out.keeps (KeepsD.of0 k6))
      have HWW := Lib.hid (show ∃ w0 : World, WordsAt w0 base b st g0 v ops ∧ w0.heap.size ≤ w.heap.size ∧ Below w.heap.size w0 W6 from ⟨w, HW.out, Nat.le_refl _, HA6.out.keep.below⟩)
      have hgrow0 : ∀ k, (Value.slice (some ⟨g, 0, none⟩) stk'.length cap).ownBlock = some k → k ≠ w3.heap.size + 1 := fun k hk => by have := (World.ownsRow.lt HA.out.stack k hk).2; omega
      have HG0 := Lib.hid hgrow0
      have HBS := Lib.hid hBs
      clear hgrow0 hBs
      refine wpIn_rangeFunc_ownH (α := StpOf ops x) rfl (by omega) (gf := 98) (lb := #[.pointer (some ⟨w3.heap.size, 0, none⟩), .pointer (some ⟨w3.heap.size + 1, 0, none⟩)]) rfl trivial (enters_of Try.func98 (by kernel_rfl) rfl)
        (steps_stops Fence.wide 8 trivial rfl (by omega) w3.heap.size (w3.heap.size + 1) w.heap.size base b st g0 x v ops hops (by omega) hx32 W6 (by omega) hBw hBsc (by omega) (by omega) HWW.out)
        KpS.trans (kpS_b (by omega) (by omega)) (Below.refl _ _) (fun _ => rfl)
        (fun pre W => AllI w b1 b2 b3 stk' seen out x (.slice (some ⟨g2, 0, none⟩) (out.length + 1) cap2) ds (w3.heap.size + 1) (pre.map fun y => y.1.to) W)
        (fun _ _ _ => False) ?hI (fun _ _ _ _ _ hs _ _ => hs) ?h0
        (fun (y : StpOf ops x) (a' : Act) (W : World) => ∃ Bx : Nat, W.heap[Bx]? = some (Obj.cells #[.int .i64 (y.1.op : Int), .int .i64 y.1.cost, .int .u32 (y.1.to : Int)] 113 (0, 0)) ∧ a' = { tmps := #[.iface 84 (.pointer (some ⟨b, 0, none⟩)), undef, .slice none 0 0, .bool false, .pointer (some ⟨b1, 0, none⟩), .pointer (some ⟨b3, 0, none⟩), .slice (some ⟨g2, 0, none⟩) (out.length + 1) cap2, .int .u32 (x : Int), .pointer (some ⟨Bx, 0, none⟩), u9, u10, u11, u12, u13, u14, u15, u16, u17, u18, (.slice (some ⟨g, 0, none⟩) (stk'.length + 1) cap), .int .i64 ((stk'.length : Int) + 1), .bool true, (.slice (some ⟨g, 0, none⟩) (stk'.length + 1) cap), (.slice (some ⟨g, 0, none⟩) (stk'.length + 1) cap), .int .i64 ((stk'.length : Int) + 1), .int .i64 (stk'.length : Int), .pointer (some ⟨g, stk'.length, none⟩), .int .u32 (x : Int), (.slice (some ⟨g, 0, none⟩) (stk'.length + 1) cap), (.slice (some ⟨g, 0, none⟩) (stk'.length + 1) cap), .int .i64 ((stk'.length : Int) + 1), .int .i64 (stk'.length : Int), .slice (some ⟨g, 0, none⟩) stk'.length cap, u6, .int .u32 (x : Int), .slice (some ⟨wr.heap.size, 0, none⟩) 1 1, .slice (some ⟨g2, 0, none⟩) (out.length + 1) cap2, .iface 84 (.pointer (some ⟨b, 0, none⟩)), .int .u32 (x : Int), .func (.func 98) #[] #[.pointer (some ⟨w3.heap.size, 0, none⟩), .pointer (some ⟨w3.heap.size + 1, 0, none⟩)], y.1.val, u41, u42, u43, u44, u45, u46, u47, u48, u49, u50, u51, u52, u53, u54, u55, u56, u57, u58, u59, u60, u61, u62], defers := [] }) ?hAx ?assign ?body ?done ?stop
      case hI =>
        intro l W W' row hs hg hr
        obtain ⟨vs', h1, h2, h3, h4⟩ := hs
        exact ⟨vs', h1.steady hg hr (by omega) (by have := lt_of_heap_map HA6.out.map; omega), Marks.steady HM6.out h2 hg hr, steady_heap hg (fun r e => (hr r e).2) h3, h4⟩
      case h0 => exact ⟨_, by simpa [freshs] using HA6.out, HM6.out, HBS.out, HG0.out⟩
      case hAx =>
        intro y a' _ W W' row hs hg hr
        obtain ⟨Bx, h1, h2⟩ := hs
        exact ⟨Bx, steady_heap hg (fun r e => (hr r e).2) h1, h2⟩
      case assign =>
        intro l pre y W K hi hK
        simp only [Stp.val]
        gi_wp2
        obtain ⟨vs', h1, h2, h3, h4⟩ := hi
        refine hK _ _ ((KeepsOthers.alloc _ _).from _) ((KpS.refl _ _ W).alloc h1.keep.size (lt_of_heap h3) _) ⟨vs', h1.keeps0 ((Keeps.refl _ _).alloc _), h2.keeps (KeepsD.of0 ((Keeps.refl _ _).alloc _)), ((Keeps.refl (fun _ => False) W).alloc _).heap h3 (fun h => h), h4⟩ ⟨W.heap.size, heap_alloc_new W _, rfl⟩
      case body =>
        rintro l pre y a' W hl - ⟨vs', h1, h2, h3, h4⟩ ⟨Bx, hBx, rfl⟩ hlt
        have x1c := h1.x1.cell
        have x1f := h1.x1.frozen
        have x3c := h1.x3.cell
        have y2 : W.cell? ⟨Bx, 2, none⟩ = some (.int .u32 (y.1.to : Int)) := by rw [cell_of_blk hBx]; rfl
        have hBxl := lt_of_heap hBx
        have l1 := h1.x1.lt
        have l3 := h1.x3.lt
        have hnd := nodup_freshs (xs := pre.map fun y => y.1.to) HND.out
        have hsn := freshs_snoc (pre.map fun y => y.1.to) y.1.to seen
        by_cases hm : y.1.to ∈ seen ++ freshs seen (pre.map fun y => y.1.to)
        · have hlk := (h1.map.run_lookup_hit (P := Try.prog) Try.underlying122 Try.underlying90 (seenL_nodup hnd) (seenL_mem hm)).1
          rw [if_pos hm, List.append_nil] at hsn
          have H1 := Lib.hid h1; have H2 := Lib.hid h2; have H3 := Lib.hid h3; have H4 := Lib.hid h4; have HSN := Lib.hid hsn
          clear h1 h2 h3 h4 hsn hm hnd hBx
          gi_wp2
          refine ⟨(KeepsOthers.alloc _ _).from _, (KpS.refl _ _ W).alloc H1.out.keep.size (lt_of_heap H3.out) _, ⟨vs', ?_, H2.out.keeps (KeepsD.of0 ((Keeps.refl _ _).alloc _)), ((Keeps.refl (fun _ => False) W).alloc _).heap H3.out (fun h => h), H4.out⟩⟩
          have e : freshs seen ((pre ++ [y]).map fun y => y.1.to) = freshs seen (pre.map fun y => y.1.to) := by rw [List.map_append]; exact HSN.out
          rw [e]
          exact H1.out.keeps0 ((Keeps.refl _ _).alloc _)
        · have kal := (Keeps.refl (fun _ => False) W).alloc (.cells #[] 118)
          have hlk := ((h1.map).run_lookup_miss (P := Try.prog) Try.underlying122 Try.underlying90 (z := .agg #[]) (by simp [Try.zeroValue118]) (seenL_miss hm)).1
          obtain ⟨W1, hrunU, hI1, hK1⟩ := ((h1.map.alloc (.cells #[] 118))).run_update_new (P := Try.prog) Try.underlying122 Try.underlying90 (seenL_miss hm) (.agg #[])
          have hS1 := (h1.keeps0 kal).see (x := y.1.to) hI1 hK1
          have hb2 := box_not_map h1.map h1.x1
          have hbx2 : Bx ≠ b2 := by rintro rfl; obtain ⟨es, c, hb, _⟩ := h1.map; rw [hBx] at hb; cases hb
          have hbs2 : w3.heap.size + 1 ≠ b2 := by rintro rfl; obtain ⟨es, c, hb, _⟩ := h1.map; rw [h3] at hb; cases hb
          have z1c := hS1.x1.cell
          have z1f := hS1.x1.frozen
          have z3c := hS1.x3.cell
          have y2' : W1.cell? ⟨Bx, 2, none⟩ = some (.int .u32 (y.1.to : Int)) := hK1.cell (kal.cell y2 (fun h => h)) hbx2
          have zs := hS1.x1.lt
          have zb := lt_of_heap (hK1.heap (kal.heap hBx (fun h => h)) hbx2)
          rw [if_neg hm] at hsn
          have hfl : (freshs seen (pre.map fun y => y.1.to)).length ≤ 40 := by
            have e1 := freshs_le (seen := seen) (xs := pre.map fun y => y.1.to)
            rw [List.length_map] at e1
            have := HWL.out; omega
          obtain ⟨sk, hsk⟩ : ∃ sk, stk' ++ freshs seen (pre.map fun y => y.1.to) = sk := ⟨_, rfl⟩
          have hlen : sk.length ≤ 2040 := by rw [← hsk, List.length_append]; omega
          rw [hsk] at hS1
          have HSK := Lib.hid hsk
          clear hsk
          have hlowW : w.heap.size ≤ W1.heap.size := hS1.keep.size
          have HROW := Lib.hid (hS1.stack.alloc (.cells #[.int .u32 (y.1.to : Int)] 90))
          have H1 := Lib.hid h1; have H2 := Lib.hid h2; have H3 := Lib.hid h3; have H4 := Lib.hid h4; have HSN := Lib.hid hsn; have HS1 := Lib.hid hS1; have HK1 := Lib.hid hK1; have HNB := Lib.hid hbs2; have HI1 := Lib.hid hI1
          clear h1 h2 h3 h4 hsn hm hnd hBx hS1 hK1 hI1 kal hb2 hbx2 hbs2 hfl
          gi_wp2_with (gi_at_builtin; refine wpListIn_append_lies _ rfl (.tmp 54) (.tmp 57) 85 rfl w.heap.size 90 i0 _ 1 4 Try.underlying85 hi0 hz0 hz1 hz2 rfl (by omega) vs' sk.length (sk.map encW) rfl HROW.out ⟨W1.heap.size, 0, none⟩ 1 1 [.int .u32 (y.1.to : Int)] rfl rfl ?hnews2 ?hone2 (by omega) (by unfold maxLen; omega) (by omega) (by simp; omega) (W1.heap.size + 1) (by simp) ?_)
          case hnews2 => exact World.news_of_block (cs := #[.int .u32 (y.1.to : Int)]) (t := 90) (fr := (0, 0)) (heap_alloc_new W1 (.cells #[.int .u32 (y.1.to : Int)] 90))
          case hone2 => simp [Value.oneCell']
          intro g4 cap4 W2 hown2 hgrow2 hat2 hlt2
          have hbx1 : W2.heap[b1]? = some (.cells #[vs'] 85 (0, 0)) := ((Keeps.refl (fun b => vs'.ownBlock = some b) _).grown hgrow2 (fun k hk => .inl hk)).heap (((Keeps.refl (fun _ => False) W1).alloc _).heap HS1.out.x1 (fun h => h)) HS1.out.row1
          have v1c : W2.cell? ⟨b1, 0, none⟩ = some vs' := (cell_of_blk hbx1).trans rfl
          have v1f : W2.frozen? ⟨b1, 0, none⟩ = false := frozen_of_blk hbx1
          have v1l := lt_of_heap hbx1
          have HP2 := Lib.hid (HS1.out.push (x := y.1.to) rfl hown2 hgrow2 hat2)
          have HX1 := Lib.hid hbx1
          have HG2 := Lib.hid hgrow2
          have HAT2 := Lib.hid hat2
          clear hown2 hgrow2 hat2 hlt2 hbx1
          gi_wp2
          have hk : Keeps (fun b => b = b2 ∨ b = b1 ∨ vs'.ownBlock = some b) W (W2.setCell ⟨b1, 0, none⟩ (.slice (some ⟨g4, 0, none⟩) (sk.length + 1) cap4)) := by
            have q1 : Keeps (fun b => b = b2 ∨ b = b1 ∨ vs'.ownBlock = some b) W W1 := (((Keeps.refl (fun _ => False) W).alloc (.cells #[] 118)).mono (fun _ _ h => h.elim)).trans (HK1.out.mono (fun _ _ h => .inl h))
            have q2 : Keeps (fun b => b = b2 ∨ b = b1 ∨ vs'.ownBlock = some b) W1 W2 := (((Keeps.refl (fun _ => False) W1).alloc (.cells #[.int .u32 (y.1.to : Int)] 90)).mono (fun _ _ h => h.elim)).trans (((Keeps.refl (fun b => vs'.ownBlock = some b) _).grown HG2.out (fun k hk => .inl hk)).mono (fun _ _ h => .inr (.inr h)))
            exact (q1.trans q2).trans ((Keeps.refl _ W2).setCell (p := ⟨b1, 0, none⟩) (.inl (.inr (.inl rfl))) _)
          have hS : ∀ b, b = b2 ∨ b = b1 ∨ vs'.ownBlock = some b → w.heap.size ≤ b ∧ b < W6.heap.size + W.heap.size ∧ b ≠ w3.heap.size + 1 ∧ W.heap[b]? ≠ some (.deferred (some [])) ∧ (b = b2 ∨ ∃ cs t fr, W.heap[b]? = some (.cells cs t fr)) := by
            rintro b (rfl | rfl | hb)
            · exact ⟨H1.out.l2, by have := H1.out.map.lt; omega, fun e => HNB.out e.symm, map_not_deferred H1.out.map, .inl rfl⟩
            · refine ⟨H1.out.l1, by have := H1.out.x1.lt; omega, ?_, cells_not_deferred H1.out.x1, .inr ⟨_, _, _, H1.out.x1⟩⟩
              intro e
              have h := (show W.heap[b]? = _ from H1.out.x1)
              rw [e, H3.out] at h
              simp at h
            · refine ⟨(World.ownsRow.lt H1.out.stack b hb).1, by have := (World.ownsRow.lt H1.out.stack b hb).2; omega, H4.out b hb, row_not_deferred H1.out.stack b hb, .inr ?_⟩
              rcases H1.out.stack.2 with ⟨e, _⟩ | ⟨gq, cq, curq, e, _, hgq, _⟩
              · rw [e] at hb; simp [Value.ownBlock] at hb
              · rw [e] at hb; simp [Value.ownBlock] at hb; subst hb; exact ⟨_, _, _, hgq⟩
          refine ⟨⟨hk.size, fun k o hB hk0 hc => ?_⟩, KpS.ofKeeps hk H1.out.keep.size (fun k hlt hs => by have := (hS k hs).1; omega) (lt_of_heap H3.out) (fun hs => (hS _ hs).2.2.1 rfl), ⟨.slice (some ⟨g4, 0, none⟩) (sk.length + 1) cap4, ?_, H2.out.keeps (KeepsD.of hk (fun b hs => (hS b hs).2.2.2.1)), hk.heap H3.out (fun hs => (hS _ hs).2.2.1 rfl), ?_⟩⟩
          · refine hk.heap hk0 (fun hs => ?_)
            rcases (hS k hs).2.2.2.2 with rfl | ⟨cs, t, fr, e⟩
            · have := HA6.out.map.lt; omega
            · rw [e] at hk0; cases hk0; cases hc
          · have e : freshs seen ((pre ++ [y]).map fun y => y.1.to) = freshs seen (pre.map fun y => y.1.to) ++ [y.1.to] := by rw [List.map_append]; exact HSN.out
            rw [e, ← List.append_assoc, ← List.append_assoc, HSK.out]
            exact HP2.out
          · intro k hk' e
            simp [Value.ownBlock] at hk'
            subst hk'
            rcases HAT2.out with e' | e'
            · exact H4.out g4 e' e
            · have := lt_of_heap H3.out; have := HK1.out.size; simp at this; omega
      case done =>
        rintro D ys W hD hys ⟨vs', h1, h2, h3, h4⟩ hd
        have hl : (ys.map fun y => y.1.to) = nexts ops x := by
          have := congrArg (List.map Stp.to) hys
          rw [wsteps_nexts] at this
          rw [← this, List.map_map]; rfl
        rw [hl] at h1
        have HM7 := Lib.hid (HM6.out.cons h2 hD (by omega) hd)
        obtain ⟨sn, hsn⟩ : ∃ sn, seen ++ freshs seen (nexts ops x) = sn := ⟨_, rfl⟩
        obtain ⟨sk, hsk⟩ : ∃ sk, stk' ++ freshs seen (nexts ops x) = sk := ⟨_, rfl⟩
        have hdf := HDF.out
        rw [hsn, hsk] at hdf h1
        have HDF2 := Lib.hid hdf
        have hsmall : ∀ z ∈ sn, z < 4294967296 := by
          rw [← hsn]
          intro z hz
          rcases mem_freshs.1 hz with hz | hz
          · exact HSM.out z hz
          · unfold nexts at hz
            obtain ⟨o, ho, rfl⟩ := List.mem_map.1 hz
            have ho' := List.mem_filter.1 ho
            exact next_lt hx32 (hops o ho'.1).2.1
        have HSMN := Lib.hid hsmall
        have hlen := h1.map.run_len (P := Try.prog) Try.underlying122 3
        have hll : (seenL sn).length = sn.length := by unfold seenL; simp
        rw [hll] at hlen
        have H1 := Lib.hid h1
        have x3c := h1.x3.cell
        have hsn40 : sn.length ≤ 2040 := by
          have e1 := freshs_le (seen := seen) (xs := nexts ops x)
          have e2 := congrArg List.length (wsteps_nexts ops x)
          rw [List.length_map] at e2
          have := HWL.out; have := HFEW.out
          rw [← hsn, List.length_append]; omega
        clear h1 h2 h3 h4 hl hd hll hdf hsn hsk hsmall HDF HSM HND HBS HG0 HWW HA6 HA HM6 HM
        by_cases hbig2 : 2000 < sn.length
        · gi_wp2
          refine leaves_marks (ds := mark D :: ds) HM7.out (fun W' hk => ?_)
          refine ⟨.tuple #[.slice none 0 0, .bool false], by simp [results, Try.results88, go_sem], H1.out.keep.trans' hk (fun i hi => .inr hi.1), .inl ⟨HDF2.out.many hbig2, rfl⟩⟩
        · have hle2 : sn.length ≤ 2000 := by omega
          gi_wp2
          refine ⟨⟨mark D :: ds, _, _, _, _, _, _, _, _, _, _, _, _, _, _, _, _, _, _, _, _, _, _, _, _, _, _, _, _, _, _, _, _, _, _, _, _, _, _, _, _, _, _, _, _, _, _, _, _, _, _, _, _, _, _, _, _, _, sk, sn, out ++ [x], vs', ⟨H1.out, HDF2.out, hle2, HSMN.out, HM7.out⟩, rfl⟩, ?_⟩
          simp [sliceLen, H6.out]
          omega
      case stop => exact fun _ _ _ _ _ _ h _ => h.elim

theorem all_any (w : World) (b st g0 base : Nat) (v : Value) (ops : List Wop) (hw : WordsAt w base b st g0 v ops) (hops : WopsOk ops) (hmany : ops.length ≤ 40) (hst : st < 4294967296) :
    Calls Try.prog 88 #[.iface 84 (.pointer (some ⟨b, 0, none⟩))] w (AllPost ops st w) := callsIn_wide.1 (all_in w b st g0 base v ops hw hops hmany hst)

end Go.Proofs.Ytcfcmmajlkkabaa
