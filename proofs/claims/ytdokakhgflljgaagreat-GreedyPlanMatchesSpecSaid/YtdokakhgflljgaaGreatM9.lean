/- greedy.first: what the search has in memory between its steps. greedy.first: a search in the order of the heuristic's values. strips.Contains, Update, Can, Next. A search by novelty of a width that no state exceeds finds a plan if there is one, in plain words. The reference's BestPlans and BestFault. The reference's BestFault. bothends: what meet's two sides say of the task's plans (plain), and what a search for best plans hands back. astar.Checked, for a kind that is permitted; astar.Heuristic; astar.Admissible. astar.Plan, for a kind whose heuristic is admissible. Rounds until nothing changes, in plain Lean. relaxed: the values of facts as a function, and that the greatest ones are admissible, in plain Lean. No condition beyond what each theorem says. -/
import Derived.Test.YtdokakhgflljgaaGreatM8
import Derived.Sort.CutIn
import Derived.Sort.LoopGhostIn
import Derived.Test.YtdokakhgflljgaaGreatM6
import Derived.Sort.OwnSortedInts
import Derived.Test.YtdokakhgflljgaaGreatM4
import Derived.Test.YtdokakhgflljgaaGreatM3
import Derived.Test.YtdokakhgflljgaaGreatM7

namespace Go.Proofs.YtdokakhgflljgaaGreat
open Go.RowKit Go.Shelf

/-- What first holds: the heuristic's own memory, the map of the parents, the queue, and the boxes of the variables that the loop's body names. -/
structure GrM (w : World) (FH : Nat → Prop) (I : World → Prop) (fn : Value) (b3 b8 b9 mr q : Nat) (fp : Nat → Option SArc) (A : List (Int × Int)) (t : Int) (F : Nat → Prop) (W : World) : Prop where
 keep : Keeps FH w W
 hI : I W
 par_ : FMap W mr backV fp
 que : U.QRep W q A t F
 x3 : Boxed W b3 67 fn
 x8 : Boxed W b8 95 (.map (some mr))
 x9 : Boxed W b9 96 (.pointer (some ⟨q, 0, none⟩))
 lF : ∀ k, F k → w.heap.size ≤ k ∧ k < W.heap.size ∧ k ≠ mr
 fb : ∀ k, F k → k ≠ b3 ∧ k ≠ b8 ∧ k ≠ b9
 l3 : w.heap.size ≤ b3
 l8 : w.heap.size ≤ b8
 l9 : w.heap.size ≤ b9
 lr : w.heap.size ≤ mr

section
variable {w W W' : World} {L : List Nat} {H : Nat → Int} {gh n0 : Nat} {pa cb : Array Value} {FH : Nat → Prop} {I : World → Prop} {fn : Value} {b3 b8 b9 mr q : Nat} {fp fp' : Nat → Option SArc} {A A' : List (Int × Int)} {t t' : Int} {F F' : Nat → Prop}
theorem GrM.by {S : Nat → Prop} (hh : Heur gh pa cb L H n0 w.heap.size FH I) (h : GrM w FH I fn b3 b8 b9 mr q fp A t F W) (hk : Keeps S W W') (hS : ∀ k, S k → w.heap.size ≤ k) (c3 : ¬ S b3) (c8 : ¬ S b8) (c9 : ¬ S b9) (e2 : ¬ S mr) (e4 : ∀ k, F k → ¬ S k) :
  GrM w FH I fn b3 b8 b9 mr q fp A t F W' :=
 ⟨h.keep.trans' hk (fun i hi => .inr (hS i hi)), hh.steady h.hI hk hS, h.par_.keeps hk e2, h.que.keeps hk e4, hk.heap h.x3 c3, hk.heap h.x8 c8, hk.heap h.x9 c9,
   fun k hk' => ⟨(h.lF k hk').1, Nat.lt_of_lt_of_le (h.lF k hk').2.1 hk.size, (h.lF k hk').2.2⟩, h.fb, h.l3, h.l8, h.l9, h.lr⟩
theorem GrM.keeps0 (hh : Heur gh pa cb L H n0 w.heap.size FH I) (h : GrM w FH I fn b3 b8 b9 mr q fp A t F W) (hk : Keeps (fun _ => False) W W') : GrM w FH I fn b3 b8 b9 mr q fp A t F W' :=
 h.by hh hk (fun _ h => h.elim) (fun h => h) (fun h => h) (fun h => h) (fun h => h) (fun _ _ h => h)
/-- The heuristic has been asked. -/
theorem GrM.asked (hh : Heur gh pa cb L H n0 w.heap.size FH I) (h : GrM w FH I fn b3 b8 b9 mr q fp A t F W) (hk : Keeps FH W W') (hI : I W') : GrM w FH I fn b3 b8 b9 mr q fp A t F W' := by
 have no : ∀ k, w.heap.size ≤ k → ¬ FH k := fun k hk h => by have := (hh.lo k h).2; omega
 exact ⟨h.keep.trans hk, hI, h.par_.keeps hk (no _ h.lr), h.que.keeps hk (fun k hF => no k (h.lF k hF).1), hk.heap h.x3 (no _ h.l3), hk.heap h.x8 (no _ h.l8), hk.heap h.x9 (no _ h.l9),
   fun k hk' => ⟨(h.lF k hk').1, Nat.lt_of_lt_of_le (h.lF k hk').2.1 hk.size, (h.lF k hk').2.2⟩, h.fb, h.l3, h.l8, h.l9, h.lr⟩
theorem GrM.boxes (h : GrM w FH I fn b3 b8 b9 mr q fp A t F W) {j : Nat} (hj : ∀ {g : Nat} {cs : Array Value} {T : TypeId} {fr : Nat × Nat}, W.heap[g]? = some (.cells cs T fr) → j ≠ g) : b3 ≠ j ∧ b8 ≠ j ∧ b9 ≠ j :=
 ⟨(hj h.x3).symm, (hj h.x8).symm, (hj h.x9).symm⟩
theorem GrM.pard (hh : Heur gh pa cb L H n0 w.heap.size FH I) (h : GrM w FH I fn b3 b8 b9 mr q fp A t F W) (hk : Keeps (fun k => k = mr) W W') (hp : FMap W' mr backV fp') : GrM w FH I fn b3 b8 b9 mr q fp' A t F W' := by
 have hb := h.boxes (fun hg => h.par_.ne_cells hg)
 have lo : ∀ k, k = mr → w.heap.size ≤ k := fun k e => by rw [e]; exact h.lr
 exact ⟨h.keep.trans' hk (fun i hi => .inr (lo i hi)), hh.steady h.hI hk lo, hp, h.que.keeps hk (fun k hF => (h.lF k hF).2.2), hk.heap h.x3 hb.1, hk.heap h.x8 hb.2.1, hk.heap h.x9 hb.2.2,
   fun k hk' => ⟨(h.lF k hk').1, Nat.lt_of_lt_of_le (h.lF k hk').2.1 hk.size, (h.lF k hk').2.2⟩, h.fb, h.l3, h.l8, h.l9, h.lr⟩
theorem GrM.queued (hh : Heur gh pa cb L H n0 w.heap.size FH I) (h : GrM w FH I fn b3 b8 b9 mr q fp A t F W) (hk : Keeps F W W') (hq : U.QRep W' q A' t' F') (hF : ∀ k, F' k → F k ∨ W.heap.size ≤ k) : GrM w FH I fn b3 b8 b9 mr q fp A' t' (fun k => F' k ∧ k < W'.heap.size) W' := by
 have lo : ∀ k, F k → w.heap.size ≤ k := fun k e => (h.lF k e).1
 have z3 := h.x3.lt; have z8 := h.x8.lt; have z9 := h.x9.lt; have zr := h.par_.lt; have zw := h.keep.size
 refine ⟨h.keep.trans' hk (fun i hi => .inr (lo i hi)), hh.steady h.hI hk lo, h.par_.keeps hk (fun e => (h.lF _ e).2.2 rfl), U.QRep.mono hq (fun k hk' hF' => ⟨hF', hk'⟩), hk.heap h.x3 (fun e => (h.fb _ e).1 rfl), hk.heap h.x8 (fun e => (h.fb _ e).2.1 rfl), hk.heap h.x9 (fun e => (h.fb _ e).2.2 rfl), fun k hk' => ?_, fun k hk' => ?_, h.l3, h.l8, h.l9, h.lr⟩
 ·rcases hF k hk'.1 with h1 | h1
  ·exact ⟨(h.lF k h1).1, hk'.2, (h.lF k h1).2.2⟩
  ·exact ⟨by omega, hk'.2, by omega⟩
 ·rcases hF k hk'.1 with h1 | h1
  ·exact h.fb k h1
  ·omega
theorem GrM.live (h : GrM w FH I fn b3 b8 b9 mr q fp A t F W) : GrM w FH I fn b3 b8 b9 mr q fp A t (fun k => F k ∧ k < W.heap.size ∧ W.heap[k]? ≠ some (.deferred (some []))) W :=
 { h with que := h.que.live, lF := fun k hk => h.lF k hk.1, fb := fun k hk => h.fb k hk.1 }
theorem GrM.clean (h : GrM w FH I fn b3 b8 b9 mr q fp A t F W) : GrM w FH I fn b3 b8 b9 mr q fp A t (fun k => F k ∧ k < W.heap.size ∧ Clean W k) W :=
 { h with que := h.que.clean, lF := fun k hk => h.lF k hk.1, fb := fun k hk => h.fb k hk.1 }
theorem GrM.steady {row : Option Nat} {B : Nat} (hh : Heur gh pa cb L H n0 w.heap.size FH I) (h : GrM w FH I fn b3 b8 b9 mr q fp A t F W) (hg : W.grownBy W' row) (hr : ∀ r, row = some r → B ≤ r ∧ ∃ o : Obj, W.heap[r]? = some o ∧ o.isCells = false) (hB : w.heap.size ≤ B) (m2 : mr < B)
  (hF : ∀ k, F k → k < B ∨ ∃ cs T fr, W.heap[k]? = some (.cells cs T fr)) : GrM w FH I fn b3 b8 b9 mr q fp A t F W' := by
 have cell : ∀ {k : Nat}, (∃ cs T fr, W.heap[k]? = some (.cells cs T fr)) → ¬ row = some k := fun hc e => by
  obtain ⟨cs, T, fr, hc⟩ := hc
  obtain ⟨_, o, ho, hn⟩ := hr _ e
  rw [hc] at ho; cases ho; cases hn
 have lt : ∀ {k : Nat}, k < B → ¬ row = some k := fun hk e => by have := (hr _ e).1; omega
 exact h.by hh (steady_keeps hg) (fun k e => by have := (hr k e).1; omega) (cell ⟨_, _, _, h.x3⟩) (cell ⟨_, _, _, h.x8⟩) (cell ⟨_, _, _, h.x9⟩) (lt m2) (fun k hk => (hF k hk).elim lt cell)
end

/-- Within the loop over the steps of s, when the steps l have come; B: the heap's size ahead of the loop. -/
def GrBI (ops : List Wop) (L : List Nat) (st : Nat) (acc : Nat → Bool) (H : Nat → Int) (w : World) (FH : Nat → Prop) (I : World → Prop) (fn : Value) (b8 b9 mr q : Nat) (s : Nat) (M0 N0 : Nat) (ds : List Deferred) (Bs b11 B : Nat) (l : List Stp) (W : World) : Prop :=
 ∃ (D : Nat → Option Int) (par : Nat → Option SArc) (A : List (Int × Int)) (t : Int) (F : Nat → Prop) (R : List SArc), GrM w FH I fn w.heap.size b8 b9 mr q (parF st par) A t F W ∧ GrI ops L st acc H D par A s R ∧ ToDo H ops s l R ∧ (∃ d, D s = some d) ∧
  0 ≤ t ∧ t ≤ (knownB L D : Int) ∧ N0 + A.length ≤ knownB L D ∧ 2 * (L.length - knownB L D) + A.length < M0 ∧ Marks ds W w.heap.size ∧ W.heap[Bs]? = some (.cells #[.int .u32 (s : Int)] 66 (0, 0)) ∧ W.heap[b11]? = some (.cells #[.int .u32 (s : Int)] 66 (0, 0)) ∧
  (∀ k, F k → (k < B ∨ ∃ cs T fr, W.heap[k]? = some (.cells cs T fr)) ∧ k ≠ Bs ∧ k ≠ b11 ∧ Clean W k)
/-- Asked for a state's parent: whether it was seen. -/
theorem parLook {w : World} {mb : Nat} {f : Nat → Option SArc} (hm : FMap w mb backV f) (x : Nat) : ∃ (v : Value) (b : Bool), (Instr.lookup 95 (.map (some mb)) (.int .u32 (x : Int)) true).run Tryz.prog w = .ok (.tuple #[v, .bool b]) w ∧ (∃ p q, v = .agg #[.int .u32 p, .int .i64 q]) ∧ (b = true → ∃ a, f x = some a) ∧ (b = false → f x = none) := by
 cases hx : f x with
 | none => exact ⟨_, false, (hm.look_none (P := Tryz.prog) Tryz.underlying95 Tryz.underlying66 (show (zeroValue 94).run Tryz.prog w = .ok (.agg #[.int .u32 0, .int .i64 0]) w by kernel_rfl) hx).1, ⟨_, _, rfl⟩, (fun h => by cases h), fun _ => rfl⟩
 | some a => exact ⟨_, true, (hm.look_some (P := Tryz.prog) Tryz.underlying95 Tryz.underlying66 hx).1, ⟨_, _, rfl⟩, fun _ => ⟨a, rfl⟩, fun h => by cases h⟩

end Go.Proofs.YtdokakhgflljgaaGreat

namespace Go.Proofs.YtdokakhgflljgaaGreat
open Go.RowKit Go.Shelf
attribute [local go_sem] Oper.semAt_some

set_option maxRecDepth 100000 in
set_option maxHeartbeats 4000000 in
theorem gfirst_in (w00 w : World) (b st g0 base : Nat) (v : Value) (ops : List Wop) (L : List Nat) (H : Nat → Int) (gh : Nat) (pa cb : Array Value) (FH : Nat → Prop) (I : World → Prop)
  (hw : WordsAt w00 base b st g0 v ops) (k00 : Keeps (fun _ => False) w00 w) (hops : WopsOk ops) (hmany : ops.length ≤ 40) (hg0 : g0 < 4294967296) (hsh : Shut ops L) (hfew : L.length ≤ 2000) (hL32 : ∀ x ∈ L, x < 4294967296) (hst : st ∈ L)
  (hh : Heur gh pa cb L H w00.heap.size w.heap.size FH I) (hI : I w) (sf : Safe ops L (goalB g0) H) :
  CallsIn Fence.wide 9 Tryz.prog 30 #[.iface 60 (.pointer (some ⟨b, 0, none⟩)), .func (.func gh) pa cb] w (GrPost ops L st (goalB g0) w FH) := by
 have hmm := @run_makeMap Tryz.prog
 have mS := method_Start ⟨b, 0, none⟩
 have mT := method_Steps ⟨b, 0, none⟩
 have mG := method_Goal ⟨b, 0, none⟩
 have eg := hh.enters
 have HW := Lib.hid hw; have K00 := Lib.hid k00; have HSH := Lib.hid hsh; have HL32 := Lib.hid hL32; have HST := Lib.hid hst; have HH := Lib.hid hh; have HI := Lib.hid hI; have SF := Lib.hid sf
 have hz00 := k00.size
 clear hw k00 hsh hL32 hst hh hI sf
 refine callsIn_of_wp_marks Tryz.func30 rfl trivial ?_ rfl
 simp only [Tryz.ntmps30, List.size_toArray, List.length_cons, List.length_nil, Nat.reduceAdd, Nat.reduceSub, Array.replicate_succ, Array.replicate_zero, List.push_toArray, List.append_toArray, List.nil_append, List.cons_append]
 have kA := (Keeps.refl (fun _ => False) w).alloc (.cells #[.func (.func gh) pa cb] 67)
 have HI1 := Lib.hid (HH.out.steady HI.out kA (fun _ h => h.elim))
 have HX3 := Lib.hid (Boxed.new w 67 (.func (.func gh) pa cb))
 have KA := Lib.hid kA
 have h0 := (SF.out.lo st HST.out)
 clear kA
 gi_wp2
 refine ⟨trivial, ?_⟩
 refine (callsIn_wide.2 (start_any _ _ _ _ _ _ _ (HW.out.past (K00.out.trans KA.out)))).mono ?_; rintro e w1 ⟨rfl, rfl⟩
 have x3l : w.heap.size < (w.alloc (.cells #[.func (.func gh) pa cb] 67)).heap.size := HX3.out.lt
 generalize (w.alloc (.cells #[.func (.func gh) pa cb] 67)) = w2 at HI1 HX3 KA x3l ⊢
 have m2 := FMap.made w2 backV
 obtain ⟨W5, hr5, hm5, hk5⟩ := m2.put (P := Tryz.prog) Tryz.underlying95 Tryz.underlying66 st ⟨0, 0, st⟩
 replace hr5 : (Instr.mapUpdate 95 (.map (some w2.heap.size)) (.int .u32 (st : Int)) (.agg #[.int .u32 (st : Int), .int .i64 0])).run Tryz.prog (w2.alloc (.map #[] 0)) = .ok () W5 := hr5
 have HP1 := Lib.hid (And.intro hm5 hk5)
 clear m2 hm5 hk5
 gi_wp2
 refine ⟨trivial, ?_⟩
 refine (callsIn_wide.2 (U.new_any _)).mono ?_; rintro e w7 ⟨rfl, hq7, hk7⟩
 obtain ⟨hm5, hk5⟩ := HP1.out
 have z5 := hk5.size
 rw [World.size_alloc] at z5
 have kD := (Keeps.refl (fun _ => False) W5).alloc (.cells #[.map (some w2.heap.size)] 95)
 have kD7 := kD.trans hk7
 have z7 := hk7.size
 rw [World.size_alloc] at z7
 rw [World.size_alloc] at hq7 ⊢
 have kE := (Keeps.refl (fun _ => False) w7).alloc (.cells #[.pointer (some ⟨W5.heap.size + 1 + 1, 0, none⟩)] 96)
 have k25 : Keeps (fun _ => False) w2 W5 := ((Keeps.refl (fun _ => False) w2).alloc (.map #[] 0)).trans' hk5 (fun i e => .inr (by omega))
 have k57 := kD7.trans kE
 have k27 := k25.trans k57
 have hzw := KA.out.size
 have HPR := Lib.hid (show GrM w FH I (.func (.func gh) pa cb) w.heap.size W5.heap.size w7.heap.size w2.heap.size (W5.heap.size + 1 + 1) (parF st (fun _ => none)) [] 0 (fun k => W5.heap.size + 1 ≤ k ∧ k < w7.heap.size) (w7.alloc (.cells #[.pointer (some ⟨W5.heap.size + 1 + 1, 0, none⟩)] 96)) from by
  refine ⟨(KA.out.mono (fun _ _ h => h.elim)).trans (k27.mono (fun _ _ h => h.elim)), HH.out.steady HI1.out k27 (fun _ h => h.elim), ?_, (U.QRep.mono hq7 (fun k h1 h2 => ⟨h2, h1⟩)).keeps kE (fun _ _ h => h), k27.heap HX3.out (fun h => h), (hk7.trans kE).heap (Boxed.new W5 _ _) (fun h => h), Boxed.new w7 _ _, fun k hk => ?_, fun k hk => ?_, by omega, by omega, by omega, by omega⟩
  ·rw [← parF_start]; exact hm5.keeps k57 (fun h => h)
  ·exact ⟨by omega, by simp; omega, by omega⟩
  ·exact ⟨by omega, by omega, by omega⟩)
 have hb8 : w.heap.size < W5.heap.size := by omega
 have hb9 : W5.heap.size < w7.heap.size := by omega
 clear hq7 hk7 hm5 hk5 z5 kD kD7 kE k25 k57 k27 HP1 hr5
 generalize w2.heap.size = mr at HPR hzw z7 x3l ⊢
 gi_upto_region 4 with fail
 generalize (w7.alloc (.cells #[.pointer (some ⟨W5.heap.size + 1 + 1, 0, none⟩)] 96)) = w8 at HPR ⊢
 generalize W5.heap.size + 1 + 1 = Q at HPR ⊢
 generalize W5.heap.size = b8 at HPR hb8 hb9 z7 ⊢
 generalize w7.heap.size = b9 at HPR hb9 z7 ⊢
 clear HI1 HX3 KA x3l hzw z7
 have hmix : Tryz.prog.follows .mixedOrders = true := by kernel_rfl
 have s3 := HPR.out.x3.cell
 have l3 := HPR.out.x3.lt
 gi_wp2
 refine ⟨trivial, ?_⟩
 refine (callsIn_wide.2 (HH.out.answers _ st HPR.out.hI HST.out)).mono ?_; rintro e w9 ⟨rfl, hI9, hk9⟩
 have HP9 := Lib.hid (HPR.out.asked HH.out hk9 hI9)
 clear hI9 hk9 s3 l3 HPR
 gi_upto_if 28 with fail
 gi_cut [] from 28 (fun wc => ∃ (A : List (Int × Int)) (t : Int) (F : Nat → Prop), GrM w FH I (.func (.func gh) pa cb) w.heap.size b8 b9 mr Q (parF st (fun _ => none)) A t F wc ∧ 0 ≤ t ∧ t ≤ 1 ∧ ((H st < 1000000000 ∧ A = [((st : Int), H st)]) ∨ (¬ H st < 1000000000 ∧ A = [])))
 case first =>
  by_cases hlive : H st < 1000000000
  ·have hdl : decide (H st < 1000000000) = true := by simpa using hlive
   have HP9 := Lib.hid (HP9.out.keeps0 HH.out ((Keeps.refl (fun _ => False) w9).drew))
   have HS0 : Hid (w9.drew.cell? ⟨b9, 0, none⟩ = some (.pointer (some ⟨Q, 0, none⟩)) ∧ w9.drew.cell? ⟨w.heap.size, 0, none⟩ = some (.func (.func gh) pa cb)) := ⟨HP9.out.x9.cell, HP9.out.x3.cell⟩
   obtain ⟨s10, s3⟩ := HS0.out
   have l10 := HP9.out.x9.lt
   have l3 := HP9.out.x3.lt
   gi_wp2
   refine wpIn_wide.2 ?_
   go_region_held3 (fun W => W.cell? ⟨b9, 0, none⟩ = some (.pointer (some ⟨Q, 0, none⟩)) ∧ W.cell? ⟨w.heap.size, 0, none⟩ = some (.func (.func gh) pa cb)) (go_keep)
    (first
     | (refine (HH.out.answers _ st HP9.out.hI HST.out).mono ?_; rintro e w10 ⟨rfl, hI9, hk9⟩; have HP10 := Lib.hid (HP9.out.asked HH.out hk9 hI9); have s10b := HP10.out.x9.cell; have s3b := HP10.out.x3.cell; clear hI9 hk9)
     | (go_at_call 54; refine (U.set_both _ _ _ _ _ HP10.out.que (st : Int) (H st) (by omega) (by simp)).mono ?_; rintro e w11 ⟨rfl, F2, hq2, hF2, hk2⟩; have HP11 := Lib.hid (HP10.out.queued HH.out hk2 hq2 hF2); have s10c := HP11.out.x9.cell; have s3c := HP11.out.x3.cell; clear hq2 hF2 hk2))
   all_goals
    gi_wp2
    gi_meet
    case rel => exact ⟨_, _, _, HP11.out, by omega, by omega, .inl ⟨hlive, by unfold putA; rfl⟩⟩
  ·have hdl : decide (H st < 1000000000) = false := by simpa using hlive
   gi_wp2
   gi_meet
   case rel => exact ⟨_, _, _, HP9.out, by omega, by omega, .inr ⟨hlive, rfl⟩⟩
 case rest =>
  obtain ⟨A0, t0, F0, hm0, q1, q2, hA0⟩ := hcut
  obtain ⟨hi0, hk0⟩ := GrI.init (ops := ops) (H := H) HSH.out.1 HST.out (goalB g0) A0 hA0
  have hl0 : A0.length ≤ 1 := by rcases hA0 with ⟨_, rfl⟩ | ⟨_, rfl⟩ <;> simp
  have HB0 := Lib.hid hm0.live; have HA0 := Lib.hid hi0
  clear hm0 hi0 hA0 HP9 h0
  gi_wp2
  refine wpIn_loop_ghost (fun n a' wr => ∃ (ds : List Deferred) (nn : Nat) (D : Nat → Option Int) (par : Nat → Option SArc) (A : List (Int × Int)) (t : Int) (F : Nat → Prop), GrM w FH I (.func (.func gh) pa cb) w.heap.size b8 b9 mr Q (parF st par) A t F wr ∧ GrI ops L st (goalB g0) H D par A 0 [] ∧
    0 ≤ t ∧ t ≤ (knownB L D : Int) ∧ nn + A.length ≤ knownB L D ∧ n = 2 * (L.length - knownB L D) + A.length ∧ (∀ k, F k → wr.heap[k]? ≠ some (.deferred (some []))) ∧ Marks ds wr w.heap.size ∧
    ∃ u : Nat → Value, a' = { tmps := #[.iface 60 (.pointer (some ⟨b, 0, none⟩)), .func (.func gh) pa cb, u 2, .pointer (some ⟨w.heap.size, 0, none⟩), .slice none 0 0, .int .i64 0, .bool false, .int .u32 (st : Int), .pointer (some ⟨b8, 0, none⟩), .pointer (some ⟨b9, 0, none⟩), .int .i64 (nn : Int), u 11, u 12, u 13, u 14, u 15, u 16, u 17, u 18, u 19, u 20, u 21, u 22, u 23, u 24, u 25, u 26, u 27, u 28, u 29, u 30, u 31, u 32, u 33, u 34, u 35, u 36, u 37, u 38, u 39, u 40, u 41, u 42, u 43, u 44, u 45, u 46, u 47, u 48, u 49, u 50, u 51, u 52, u 53, u 54, u 55, u 56, u 57, u 58, u 59, u 60, u 61, u 62, u 63, u 64, u 65, u 66, u 67, u 68, u 69, u 70, u 71, u 72, u 73, u 74, u 75, u 76, u 77, u 78, u 79, u 80, u 81, u 82, u 83, u 84, u 85, u 86, u 87, u 88, u 89], defers := ds }) (2 * (L.length - knownB L (putP (fun _ => none) st 0)) + A0.length) ?start2 ?round2
  case start2 => exact ⟨[], 0, _, fun _ => none, A0, t0, _, HB0.out, HA0.out, q1, by omega, by omega, rfl, fun k hk => hk.2.2, Marks.nil _ _, ex_fnD rfl⟩
  case round2 =>
   rintro n a wr ⟨ds, nn, D, par, A, t, F, hm, ha, ht0, htw, hnn, hn, hnd, hmk, u, rfl⟩
   have HM := Lib.hid hm; have HA := Lib.hid ha; have HND := Lib.hid hnd; have HMK := Lib.hid hmk
   have hkl := knownB_le L D
   clear hm ha hnd hmk HB0 HA0 hk0 hl0 q1 q2
   have x10c := HM.out.x9.cell
   have x10l := HM.out.x9.lt
   gi_wp2
   refine ⟨trivial, ?_⟩
   refine (callsIn_wide.2 (U.qlen_any wr Q A t F HM.out.que)).mono ?_; rintro e w2 ⟨rfl, rfl⟩
   by_cases hA : A = []
   ·subst hA
    have HE := Lib.hid (HA.out.none HSH.out SF.out)
    gi_wp2
    refine leaves_marks HMK.out (fun W' hk => ?_)
    exact ⟨.tuple #[.slice none 0 0, .int .i64 (nn : Int), .bool false], by simp [results, Tryz.results30, go_sem], HM.out.keep.trans' hk (fun i hi => .inr hi.1), nn, by omega, .inl ⟨HE.out, rfl⟩⟩
   ·have hpos : 0 < A.length := List.length_pos_iff.2 hA
    have hposi : (0 : Int) < (A.length : Int) := by omega
    cases hfm : U.firstMin A with
    | none => exact absurd (U.firstMin_none.1 hfm) hA
    | some z =>
     have hzA := U.firstMin_mem hfm
     obtain ⟨s, hz, d, hds⟩ := HA.out.key _ hzA
     subst hz
     have hsL := HA.out.dom s d hds
     have HFM := Lib.hid hfm; have HDS := Lib.hid hds; have HSL := Lib.hid hsL; have HZA := Lib.hid hzA
     clear hA hfm hds hsL hzA
     gi_wp2
     refine ⟨trivial, ?_⟩
     refine (callsIn_wide.2 (U.take_some wr Q A t F HM.out.que (s : Int) (H s) HFM.out)).mono ?_; rintro e w3 ⟨rfl, hq3, hk3⟩
     have hm3 := (HM.out.queued HH.out hk3 hq3 (fun k h => .inl h)).clean
     have hkd3 := HMK.out.keeps (KeepsD.of hk3 (fun k hk => HND.out k hk))
     obtain ⟨F3, hF3⟩ : ∃ F3 : Nat → Prop, F3 = (fun k => (F k ∧ k < w3.heap.size) ∧ k < w3.heap.size ∧ Clean w3 k) := ⟨_, rfl⟩
     have hnd3 : ∀ k, F3 k → Clean w3 k := fun k hk => by rw [hF3] at hk; exact hk.2.2
     rw [← hF3] at hm3
     have kS := (Keeps.refl (fun _ => False) w3).alloc (.cells #[.int .u32 (s : Int)] 66)
     have HM4 := Lib.hid (hm3.keeps0 HH.out kS)
     have HMK4 := Lib.hid (hkd3.keeps (KeepsD.of0 kS))
     have HND4 := Lib.hid (show ∀ k, F3 k → Clean (w3.alloc (.cells #[.int .u32 (s : Int)] 66)) k from fun k hk => (hnd3 k hk).keeps kS (hm3.lF k hk).2.1 (fun h => h))
     have HBX := Lib.hid (heap_alloc_new w3 (.cells #[.int .u32 (s : Int)] 66))
     have hb12 : w.heap.size ≤ w3.heap.size := hm3.keep.size
     have HFX := Lib.hid (show ∀ k, F3 k → k < w3.heap.size from fun k hk => (hm3.lF k hk).2.1)
     have h3b := hm3.x3.lt; have h8b := hm3.x8.lt; have h9b := hm3.x9.lt
     have hrb := hm3.par_.lt
     clear hq3 hk3 hm3 hkd3 hF3 hnd3 kS HM HMK HND
     clear x10c x10l
     gi_wp2
     refine ⟨trivial, ?_⟩
     have k04 : Keeps (fun _ => False) w00 (w3.alloc (.cells #[.int .u32 (s : Int)] 66)) := K00.out.trans' HM4.out.keep (fun i hi => .inr (HH.out.lo i hi).1)
     refine (callsIn_wide.2 (goal_any _ _ _ _ _ _ _ _ (HW.out.past k04))).mono ?_; rintro e w5 ⟨rfl, nq, rfl⟩
     rw [goal_bits (HL32.out s HSL.out) hg0]
     have kq := (Keeps.refl (fun _ => False) (w3.alloc (.cells #[.int .u32 (s : Int)] 66))).drewN nq
     have HM5 := Lib.hid (HM4.out.keeps0 HH.out kq); have HMK5 := Lib.hid (HMK4.out.keeps (KeepsD.of0 kq)); have HBX5 := Lib.hid (kq.heap HBX.out (fun h => h))
     have HND5 := Lib.hid (show ∀ k, F3 k → Clean ((w3.alloc (.cells #[.int .u32 (s : Int)] 66)).drewN nq) k from HND4.out)
     have hz5 : w3.heap.size < ((w3.alloc (.cells #[.int .u32 (s : Int)] 66)).drewN nq).heap.size := by
      have := kq.size
      rw [World.size_alloc] at this; omega
     have K05 := Lib.hid (k04.trans kq)
     clear kq HM4 HMK4 HBX HND4 k04
     generalize (w3.alloc (.cells #[.int .u32 (s : Int)] 66)).drewN nq = w5 at HM5 HMK5 HBX5 HND5 hz5 K05 ⊢
     generalize w3.heap.size = b11 at HBX5 HFX hb12 h3b h8b h9b hrb hz5 ⊢
     have x9c := HM5.out.x8.cell
     have x12c : w5.cell? ⟨b11, 0, none⟩ = some (.int .u32 (s : Int)) := by rw [cell_of_blk HBX5.out]; rfl
     have x9l := HM5.out.x8.lt
     cases hacc : goalB g0 s with
     | true =>
      obtain ⟨out, hch, hol, hrun⟩ := HA.out.found HDS.out
      have hps0 := HA.out.start.2
      have HRS := Lib.hid hrun
      have HCH := Lib.hid hch
      clear hch hrun
      gi_wp2
      refine ⟨trivial, ?_⟩
      refine (callsIn_wide.2 (pathC_any w5 mr st s par (parF st par) out HM5.out.par_ (parF_of hps0) hps0 HCH.out (by omega))).mono ?_; rintro e w8 ⟨v8, rfl, hown8, hk8⟩
      have HM8 := Lib.hid (HM5.out.keeps0 HH.out hk8)
      have HO8 := Lib.hid hown8
      have HMK8 := Lib.hid (HMK5.out.keeps (KeepsD.of0 hk8))
      clear hown8 hk8 x9c x12c
      gi_wp2
      refine leaves_marks HMK8.out (fun W' hk => ?_)
      exact ⟨.tuple #[v8, .int .i64 (nn : Int), .bool true], by simp [results, Tryz.results30, go_sem], HM8.out.keep.trans' hk (fun i hi => .inr hi.1), nn, by omega, .inr ⟨out.reverse, s, v8, rfl, by
       rw [List.length_reverse]
       exact ownsRow_mono (hk.ownsRow HO8.out (fun k hk' hs => row_not_deferred HO8.out k hk' hs.2)) HM5.out.keep.size, by rw [List.length_reverse]; exact hol, HRS.out, hacc⟩⟩
     | false =>
      have HA6 := Lib.hid (HA.out.take hacc)
      have hlt6 := dropA_len HZA.out
      have hwn : IntKind.i64.wrap ((nn : Int) + 1) = ((nn + 1 : Nat) : Int) := by rw [IntWalk.i64_in _ (by omega)]; rfl
      clear HA HFM HZA
      gi_wp2
      refine ⟨trivial, ?_⟩
      refine (callsIn_wide.2 (steps_any w5 b s)).mono ?_; rintro en w9 ⟨rfl, rfl⟩
      gi_wp2
      obtain ⟨W9, hW9⟩ : ∃ W9, ((w5.alloc (.cells #[.pointer (some ⟨b, 0, none⟩)] 60)).alloc (.cells #[.int .u32 (s : Int)] 66)) = W9 := ⟨_, rfl⟩
      have hz9 : W9.heap.size = w5.heap.size + 1 + 1 := by rw [← hW9]; simp
      have k9 : Keeps (fun _ => False) w5 W9 := by rw [← hW9]; exact ((Keeps.refl _ _).alloc _).alloc _
      have hBw : W9.cell? ⟨w5.heap.size, 0, none⟩ = some (.pointer (some ⟨b, 0, none⟩)) := by
       rw [← hW9]; exact ((Boxed.new w5 _ _).alloc _).cell
      have hBs : W9.heap[w5.heap.size + 1]? = some (.cells #[.int .u32 (s : Int)] 66 (0, 0)) := by
       rw [← hW9]
       have := heap_alloc_new (w5.alloc (.cells #[.pointer (some ⟨b, 0, none⟩)] 60)) (.cells #[.int .u32 (s : Int)] 66)
       rwa [World.size_alloc] at this
      have hBsc : W9.cell? ⟨w5.heap.size + 1, 0, none⟩ = some (.int .u32 (s : Int)) := by rw [cell_of_blk hBs]; rfl
      rw [hW9]
      have HM9 := Lib.hid (HM5.out.keeps0 HH.out k9); have HMK9 := Lib.hid (HMK5.out.keeps (KeepsD.of0 k9)); have HBX9 := Lib.hid (k9.heap HBX5.out (fun h => h))
      have K09 := K05.out.trans k9
      have HWW := Lib.hid (show ∃ w0 : World, WordsAt w0 base b st g0 v ops ∧ w0.heap.size ≤ w00.heap.size ∧ Below w00.heap.size w0 W9 from ⟨w00, HW.out, Nat.le_refl _, K09.below⟩)
      have hlow6 : w.heap.size ≤ w5.heap.size := HM5.out.keep.size
      have HWL := Lib.hid (show (wsteps ops s).length ≤ 40 from Nat.le_trans (wsteps_le ops s) hmany)
      have hs32 := HL32.out s HSL.out
      have HBS := Lib.hid hBs
      have HF9 := Lib.hid (show ∀ k, F3 k → (k < W9.heap.size ∨ ∃ cs T fr, W9.heap[k]? = some (.cells cs T fr)) ∧ k ≠ w5.heap.size + 1 ∧ k ≠ b11 ∧ Clean W9 k from fun k hk => by
       have h1 := HFX.out k hk
       exact ⟨.inl (by omega), by omega, by omega, (HND5.out k hk).keeps k9 (by omega) (fun h => h)⟩)
      have hM0 : 2 * (L.length - knownB L D) + (A.filter fun z => z.1 != (s : Int)).length < 2 * (L.length - knownB L D) + A.length := by
       unfold dropA at hlt6; omega
      have hN0 : nn + 1 + (A.filter fun z => z.1 != (s : Int)).length ≤ knownB L D := by
       unfold dropA at hlt6; omega
      have HTD := Lib.hid (ToDo.start H ops L s)
      clear hW9 k9 K09 HM5 HMK5 HBX5 HND5 K05 hBs HFX hlt6 x9c x12c
      generalize hM : 2 * (L.length - knownB L D) + A.length = M0 at hn hM0
      refine wpIn_rangeFunc_ownH (α := StpOf ops s) rfl (by omega) (gf := 88) (lb := #[.pointer (some ⟨w5.heap.size, 0, none⟩), .pointer (some ⟨w5.heap.size + 1, 0, none⟩)]) rfl trivial (enters_of Tryz.func88 (by kernel_rfl) rfl)
       (steps_stops Fence.wide 8 trivial rfl (by omega) w5.heap.size (w5.heap.size + 1) w00.heap.size base b st g0 s v ops hops (by omega) hs32 W9 (by omega) hBw hBsc (by omega) (by omega) HWW.out)
       KpS.trans (kpS_b (by omega) (by omega)) (Below.refl _ _) (fun _ => rfl)
       (fun pre W => GrBI ops L st (goalB g0) H w FH I (.func (.func gh) pa cb) b8 b9 mr Q s M0 (nn + 1) ds (w5.heap.size + 1) b11 W9.heap.size (pre.map fun y => y.1) W)
       (fun _ _ _ => False) ?_ (fun _ _ _ _ _ hs _ _ => hs) ?_
       (fun (y : StpOf ops s) (a' : Act) (W : World) => ∃ Bx : Nat, w.heap.size ≤ Bx ∧ W.heap[Bx]? = some (Obj.cells #[.int .i64 (y.1.op : Int), .int .i64 y.1.cost, .int .u32 (y.1.to : Int)] 107 (0, 0)) ∧ ∃ u : Nat → Value, a' = { tmps := #[.iface 60 (.pointer (some ⟨b, 0, none⟩)), .func (.func gh) pa cb, u 2, .pointer (some ⟨w.heap.size, 0, none⟩), .slice none 0 0, .int .i64 0, .bool false, .int .u32 (st : Int), .pointer (some ⟨b8, 0, none⟩), .pointer (some ⟨b9, 0, none⟩), .int .i64 (((nn + 1 : Nat) : Int) : Int), .pointer (some ⟨b11, 0, none⟩), u 12, u 13, .pointer (some ⟨Bx, 0, none⟩), u 15, u 16, u 17, u 18, u 19, u 20, u 21, u 22, u 23, u 24, u 25, u 26, u 27, u 28, u 29, u 30, u 31, u 32, u 33, u 34, u 35, u 36, u 37, u 38, u 39, u 40, u 41, u 42, u 43, u 44, u 45, u 46, u 47, u 48, u 49, u 50, u 51, u 52, u 53, u 54, u 55, u 56, u 57, u 58, u 59, u 60, u 61, u 62, u 63, u 64, u 65, u 66, u 67, u 68, u 69, u 70, u 71, u 72, u 73, u 74, u 75, u 76, u 77, u 78, u 79, u 80, u 81, u 82, u 83, u 84, u 85, u 86, u 87, u 88, u 89], defers := [] }) ?_ ?_ ?_ ?_ ?_
      ·rintro l W W' row ⟨D1, par1, A1, t1, F1, R1, h1, h2, h3, h4, g1, g2, g3, g4, h5, h6, h7, h8⟩ hg hr
       have hF : ∀ k, F1 k → k < W9.heap.size ∨ ∃ cs T fr, W.heap[k]? = some (.cells cs T fr) := fun k hk => (h8 k hk).1
       refine ⟨D1, par1, A1, t1, F1, R1, h1.steady HH.out hg hr (by omega) (by omega) hF, h2, h3, h4, g1, g2, g3, g4, Marks.steady HMK9.out h5 hg hr, steady_heap hg (fun r e => (hr r e).2) h6, steady_heap hg (fun r e => (hr r e).2) h7, fun k hk => ⟨(hF k hk).imp (fun h => h) (fun ⟨cs, T, fr, hc⟩ => ⟨cs, T, fr, steady_heap hg (fun r e => (hr r e).2) hc⟩), (h8 k hk).2.1, (h8 k hk).2.2.1, (h8 k hk).2.2.2.keeps (steady_keeps hg) (h1.lF k hk).2.1 (fun e => ?_)⟩⟩
       obtain ⟨g4, o, ho, hno⟩ := hr k e
       rcases hF k hk with h | ⟨cs, T, fr, hc⟩
       ·omega
       ·rw [hc] at ho; cases ho; cases hno
      ·exact ⟨D, par, _, t, F3, _, HM9.out, HA6.out, HTD.out, ⟨d, HDS.out⟩, ht0, htw, hN0, hM0, HMK9.out, HBS.out, HBX9.out, HF9.out⟩
      ·intro y a' _ W W' row hs hg hr
       obtain ⟨Bx, h0, h1, h2⟩ := hs
       exact ⟨Bx, h0, steady_heap hg (fun r e => (hr r e).2) h1, h2⟩
      ·intro l pre y W K hi hK
       simp only [Stp.val]
       gi_wp2
       obtain ⟨D1, par1, A1, t1, F1, R1, h1, h2, h3, h4, g1, g2, g3, g4, h5, h6, h7, h8⟩ := hi
       have kx := (Keeps.refl (fun _ => False) W).alloc (.cells #[.int .i64 (y.1.op : Int), .int .i64 y.1.cost, .int .u32 (y.1.to : Int)] 107)
       exact hK _ _ ((KeepsOthers.alloc _ _).from _) ((KpS.refl _ _ W).alloc (Nat.le_trans hz00 h1.keep.size) (lt_of_heap h6) _) ⟨D1, par1, A1, t1, F1, R1, h1.keeps0 HH.out kx, h2, h3, h4, g1, g2, g3, g4, h5.keeps (KeepsD.of0 kx), kx.heap h6 (fun h => h), kx.heap h7 (fun h => h), fun k hk => ⟨(h8 k hk).1.imp (fun h => h) (fun ⟨cs, T, fr, hc⟩ => ⟨cs, T, fr, kx.heap hc (fun h => h)⟩), (h8 k hk).2.1, (h8 k hk).2.2.1, (h8 k hk).2.2.2.keeps kx (h1.lF k hk).2.1 (fun h => h)⟩⟩ ⟨W.heap.size, h1.keep.size, heap_alloc_new W _, ex_fnD rfl⟩
      ·rintro l pre y a' W hl - ⟨D1, par1, A1, t1, F1, R1, h1, h2, h3, h4, g1, g2, g3, g4, h5, h6, h7, h8⟩ ⟨Bx, hBl, hBx, u', rfl⟩ hlt2
       obtain ⟨o, hoi, hoc, hcc, hto⟩ := wsteps_mem.1 y.2
       have hyL : y.1.to ∈ L := by rw [hto]; exact HSH.out.2 s HSL.out o (List.mem_of_getElem? hoi) hoc
       have hHy := SF.out.lo y.1.to hyL
       have hkn := knownB_le L D1
       have hlowW : w.heap.size ≤ W.heap.size := h1.keep.size
       have HNF := Lib.hid (show ¬ F1 Bx from fun h => (h8 Bx h).2.2.2.2 _ _ hBx)
       have HYL := Lib.hid hyL
       have HPD := Lib.hid h4
       clear hoi hoc hcc hto hyL h4
       obtain ⟨pv, qb, hlk, ⟨p0, q0, rfl⟩, hqt, hqf⟩ := parLook h1.par_ y.1.to
       have KX := (Keeps.refl (fun _ => False) W).alloc (.cells #[.int .u32 p0, .int .i64 q0] 94)
       have x8c := h1.x8.cell
       have x8l := h1.x8.lt
       have y2 : W.cell? ⟨Bx, 2, none⟩ = some (.int .u32 (y.1.to : Int)) := (cell_of_blk hBx).trans rfl
       have hBxl := lt_of_heap hBx
       have H1 := Lib.hid (h1.keeps0 HH.out KX); have H2 := Lib.hid h2; have H3 := Lib.hid h3; have H5 := Lib.hid h5; have H6 := Lib.hid h6; have H7 := Lib.hid h7; have H8 := Lib.hid h8
       have H0 := Lib.hid h1
       have HBX := Lib.hid (KX.heap hBx (fun h => h)); have HB12 := Lib.hid (KX.heap h7 (fun h => h))
       have KXH := Lib.hid KX
       have x3c := H1.out.x3.cell
       have x3l := H1.out.x3.lt
       have y2b : (W.alloc (.cells #[.int .u32 p0, .int .i64 q0] 94)).cell? ⟨Bx, 2, none⟩ = some (.int .u32 (y.1.to : Int)) := (cell_of_blk HBX.out).trans rfl
       clear h1 h2 h3 h5 h6 h7 h8 hBx KX
       cases qb with
       | true =>
        have hsn : ∃ d, D1 y.1.to = some d := by
         obtain ⟨a, ha⟩ := hqt rfl
         cases hD : D1 y.1.to with
         | some d => exact ⟨d, rfl⟩
         | none =>
          exfalso
          unfold parF at ha
          split at ha
          ·rename_i e; rw [e, H2.out.start.1] at hD; cases hD
          ·rw [H2.out.none_ _ hD] at ha; cases ha
        obtain ⟨qv, hq⟩ := hsn
        obtain ⟨R2, ha2, ht2⟩ := H2.out.next H3.out y.1
        have HA3 := Lib.hid (ha2.skip (show D1 (arcOf y.1).to = some qv from hq)); have HT2 := Lib.hid ht2
        clear ha2 ht2 hq hqt hqf
        gi_wp2
        refine ⟨(fun f h => by cases h), ?_⟩
        gi_wp2
        obtain ⟨c1, c2⟩ := close_of (B := W9.heap.size) (n0 := w00.heap.size) (Bs := w5.heap.size + 1) KXH.out (fun _ h => h.elim) (by omega) (lt_of_heap H6.out)
        exact ⟨c1, c2, D1, par1, A1, t1, F1, R2, H1.out, HA3.out, by rw [List.map_append]; exact HT2.out, HPD.out, g1, g2, g3, g4, H5.out.keeps (KeepsD.of0 KXH.out), KXH.out.heap H6.out (fun h => h), KXH.out.heap H7.out (fun h => h), f8_keeps H8.out KXH.out (fun _ _ h => h) (fun k hk => (H0.out.lF k hk).2.1)⟩
       | false =>
        have hpn := hqf rfl
        have hDN : D1 y.1.to = none := by
         cases hD : D1 y.1.to with
         | none => rfl
         | some d =>
          exfalso
          have hne : y.1.to ≠ st := fun e => by rw [e] at hpn; unfold parF at hpn; simp at hpn
          obtain ⟨a, ha, _⟩ := H2.out.from_ _ d hD hne
          unfold parF at hpn
          rw [if_neg hne, ha] at hpn; cases hpn
        have HDN := Lib.hid hDN
        clear hqt hqf hpn hDN
        gi_wp2
        refine ⟨trivial, ?_⟩
        refine (CallsIn.inRound l (callsIn_wide.2 (HH.out.answers _ y.1.to H1.out.hI HYL.out))).mono ?_; rintro en wa ⟨rfl, hIa, hka⟩
        generalize (W.alloc (.cells #[.int .u32 p0, .int .i64 q0] 94)) = Wx at H1 HBX HB12 KXH x3c x3l y2b hka ⊢
        have no : ∀ k, w.heap.size ≤ k → ¬ FH k := fun k hk h => by have := (HH.out.lo k h).2; omega
        have HMa := Lib.hid (H1.out.asked HH.out hka hIa)
        have HBXa := Lib.hid (hka.heap HBX.out (no _ hBl)); have HB12a := Lib.hid (hka.heap HB12.out (no _ hb12))
        have HKA := Lib.hid ((KXH.out.mono (S' := FH) (fun _ _ h => h.elim)).trans hka)
        have NO := Lib.hid no
        clear hIa hka no hlk x8c x8l y2 x3c x3l y2b H1 HBX HB12 KXH
        by_cases hdead : 1000000000 ≤ H y.1.to
        ·have hdl : decide (H y.1.to < 1000000000) = false := by simpa using hdead
         gi_wp2
         obtain ⟨c1, c2⟩ := close_of (B := W9.heap.size) (n0 := w00.heap.size) (Bs := w5.heap.size + 1) HKA.out (fun k h => by
          have := HH.out.lo k h
          exact ⟨this.1, .inl (by omega), by omega⟩) (by omega) (lt_of_heap H6.out)
         have hT := H3.out.dead (y := y.1) (fun h : H y.1.to < 1000000000 => by omega)
         exact ⟨c1, c2, D1, par1, A1, t1, F1, R1, HMa.out, H2.out, by rw [List.map_append]; exact hT, HPD.out, g1, g2, g3, g4, H5.out.keeps (KeepsD.of HKA.out (fun k h => HH.out.nd H0.out.hI h)), HKA.out.heap H6.out (NO.out _ (by omega)), HKA.out.heap H7.out (NO.out _ hb12), f8_keeps H8.out HKA.out (fun k hk => NO.out k (H0.out.lF k hk).1) (fun k hk => (H0.out.lF k hk).2.1)⟩
        ·have hlive : H y.1.to < 1000000000 := by omega
         have hdl : decide (H y.1.to < 1000000000) = true := by simpa using hlive
         obtain ⟨wc, hrc, hmc, hkc⟩ := HMa.out.par_.put (P := Tryz.prog) Tryz.underlying95 Tryz.underlying66 y.1.to ⟨y.1.op, 4096 * y.1.cost + 1, s⟩
         replace hrc : (Instr.mapUpdate 95 (.map (some mr)) (.int .u32 (y.1.to : Int)) (.agg #[.int .u32 (s : Int), .int .i64 (y.1.op : Int)])).run Tryz.prog wa = .ok () wc := hrc
         have hne : y.1.to ≠ st := fun e => by
          have h1 := HDN.out
          rw [e, H2.out.start.1] at h1
          cases h1
         rw [parF_put hne] at hmc
         have HMc := Lib.hid (HMa.out.pard HH.out hkc hmc)
         have n3 : Bx ≠ mr := fun e => HMa.out.par_.ne_cells HBXa.out e.symm
         have HBXc := Lib.hid (hkc.heap HBXa.out n3)
         have x8a := HMa.out.x8.cell
         have y2a : wa.cell? ⟨Bx, 2, none⟩ = some (.int .u32 (y.1.to : Int)) := (cell_of_blk HBXa.out).trans rfl
         have y0a : wa.cell? ⟨Bx, 0, none⟩ = some (.int .i64 (y.1.op : Int)) := (cell_of_blk HBXa.out).trans rfl
         have x12a : wa.cell? ⟨b11, 0, none⟩ = some (.int .u32 (s : Int)) := (cell_of_blk HB12a.out).trans rfl
         have hBxa := lt_of_heap HBXa.out; have hBxc := lt_of_heap HBXc.out
         have x8al := HMa.out.x8.lt
         have HKC := Lib.hid (show Keeps (fun k => FH k ∨ k = mr) W wc from (HKA.out.mono (fun _ _ h => .inl h)).trans (hkc.mono (fun _ _ h => .inr h)))
         have HMDD := Lib.hid HMa.out.par_.not_deferred
         clear hmc hkc n3
         gi_wp2
         have KD := (Keeps.refl (fun _ => False) wc).drew
         have HMd := Lib.hid (HMc.out.keeps0 HH.out KD)
         have HBXd := Lib.hid (KD.heap HBXc.out (fun h => h))
         have HKD := Lib.hid (HKC.out.trans (KD.mono (fun _ _ h => h.elim)))
         have HS1 : Hid (wc.drew.cell? ⟨b9, 0, none⟩ = some (.pointer (some ⟨Q, 0, none⟩)) ∧ wc.drew.cell? ⟨Bx, 2, none⟩ = some (.int .u32 (y.1.to : Int)) ∧ wc.drew.cell? ⟨w.heap.size, 0, none⟩ = some (.func (.func gh) pa cb)) :=
          ⟨HMd.out.x9.cell, (cell_of_blk HBXd.out).trans rfl, HMd.out.x3.cell⟩
         clear KD x8a y2a y0a x12a
         refine wpIn_region_held (fun W => W.cell? ⟨b9, 0, none⟩ = some (.pointer (some ⟨Q, 0, none⟩)) ∧ W.cell? ⟨Bx, 2, none⟩ = some (.int .u32 (y.1.to : Int)) ∧ W.cell? ⟨w.heap.size, 0, none⟩ = some (.func (.func gh) pa cb)) (fun _ => false) hmix ?_
         refine wpAnyHIn_take (Wide.wide.inRound l) 0 (.pointer (some ⟨Q, 0, none⟩)) rfl (by kernel_rfl) (by kernel_rfl) (by kernel_rfl) (by kernel_rfl) (by kernel_rfl) (fun _ _ _ h => h) HS1.out ?_ rfl ?_
         ·rintro W ⟨s1, s2, s3⟩; go_simp
         refine wpAnyHIn_take (Wide.wide.inRound l) 1 (.pointer (some ⟨Bx, 2, none⟩)) rfl (by kernel_rfl) (by kernel_rfl) (by kernel_rfl) (by kernel_rfl) (by kernel_rfl) (fun _ _ _ h => h) HS1.out ?_ rfl ?_
         ·rintro W ⟨s1, s2, s3⟩; go_simp
         refine wpAnyHIn_take (Wide.wide.inRound l) 2 (.int .u32 (y.1.to : Int)) rfl (by kernel_rfl) (by kernel_rfl) (by kernel_rfl) (by kernel_rfl) (by kernel_rfl) (fun _ _ _ h => h) HS1.out ?_ rfl ?_
         ·rintro W ⟨s1, s2, s3⟩; go_simp
         refine wpAnyHIn_take (Wide.wide.inRound l) 3 (.func (.func gh) pa cb) rfl (by kernel_rfl) (by kernel_rfl) (by kernel_rfl) (by kernel_rfl) (by kernel_rfl) (fun _ _ _ h => h) HS1.out ?_ rfl ?_
         ·rintro W ⟨s1, s2, s3⟩; go_simp
         refine wpAnyHIn_take (Wide.wide.inRound l) 4 (.pointer (some ⟨Bx, 2, none⟩)) rfl (by kernel_rfl) (by kernel_rfl) (by kernel_rfl) (by kernel_rfl) (by kernel_rfl) (fun _ _ _ h => h) HS1.out ?_ rfl ?_
         ·rintro W ⟨s1, s2, s3⟩; go_simp
         refine wpAnyHIn_take (Wide.wide.inRound l) 5 (.int .u32 (y.1.to : Int)) rfl (by kernel_rfl) (by kernel_rfl) (by kernel_rfl) (by kernel_rfl) (by kernel_rfl) (fun _ _ _ h => h) HS1.out ?_ rfl ?_
         ·rintro W ⟨s1, s2, s3⟩; go_simp
         refine wpAnyHIn_one 6 rfl (by kernel_rfl) rfl (fun K hK => ?_)
         go_simp
         refine ⟨trivial, ?_⟩
         refine (CallsIn.inRound l (callsIn_wide.2 (HH.out.answers _ y.1.to HMd.out.hI HYL.out))).mono ?_; rintro en we ⟨rfl, hIe, hke⟩
         have HMe := Lib.hid (HMd.out.asked HH.out hke hIe)
         have HKE := Lib.hid (HKD.out.trans (hke.mono (fun _ _ h => .inl h)))
         have HBXe := Lib.hid (hke.heap HBXd.out (NO.out _ hBl))
         have HS2 : Hid (we.cell? ⟨b9, 0, none⟩ = some (.pointer (some ⟨Q, 0, none⟩)) ∧ we.cell? ⟨Bx, 2, none⟩ = some (.int .u32 (y.1.to : Int)) ∧ we.cell? ⟨w.heap.size, 0, none⟩ = some (.func (.func gh) pa cb)) :=
          ⟨HMe.out.x9.cell, (cell_of_blk HBXe.out).trans rfl, HMe.out.x3.cell⟩
         clear hIe hke HS1 HMd
         refine hK _ _ (fun _ => HS2.out) ?_
         clear hK K
         refine wpAnyHIn_one 7 rfl (by kernel_rfl) rfl (fun K hK => ?_)
         go_simp
         refine ⟨trivial, ?_⟩
         refine (CallsIn.inRound l (callsIn_wide.2 (U.set_both2 _ _ _ _ _ HMe.out.que (y.1.to : Int) (H y.1.to) ⟨g1, by omega⟩ (by omega)))).mono ?_; rintro en wf ⟨rfl, F2, hq2, hF2, hk2⟩
         have x10f := HMe.out.queued HH.out hk2 hq2 (fun k h => (hF2 k h).imp (fun h => h.1) (fun h => h.1))
         refine hK _ _ (fun _ => ⟨x10f.x9.cell, (cell_of_blk (hk2.heap HBXe.out HNF.out)).trans rfl, x10f.x3.cell⟩) ?_
         clear hK K x10f
         refine wpAnyHIn_done (by kernel_rfl) ?_
         gi_wp2
         have HMf := Lib.hid ((HMe.out.queued HH.out hk2 hq2 (fun k h => (hF2 k h).imp (fun h => h.1) (fun h => h.1))).clean)
         have KT : Keeps (fun k => (FH k ∨ k = mr) ∨ F1 k) W wf := (HKE.out.mono (fun _ _ h => .inl h)).trans (hk2.mono (fun _ _ h => .inr h))
         have hzwe := HKE.out.size
         have hBsl := lt_of_heap H6.out
         have hb12l := lt_of_heap H7.out
         have hlr := H0.out.lr
         obtain ⟨c1, c2⟩ := close_of (B := W9.heap.size) (n0 := w00.heap.size) (Bs := w5.heap.size + 1) KT (fun k h => by
          rcases h with (h | h) | h
          ·have := HH.out.lo k h
           exact ⟨this.1, .inl (by omega), by omega⟩
          ·exact ⟨by omega, .inl (by omega), by omega⟩
          ·exact ⟨by have := (H0.out.lF k h).1; omega, (H8.out k h).1, (H8.out k h).2.1⟩) (by omega) hBsl
         obtain ⟨R2, ha2, ht2⟩ := H2.out.next H3.out y.1
         obtain ⟨dd, hdd⟩ := HPD.out
         obtain ⟨hadd, hkk⟩ := ha2.add HSH.out.1 HSH.out (live_step HSL.out y.2 hlive) hdd HDN.out
         have hkk2 : knownB L (putP D1 y.1.to (dd + 1)) = knownB L D1 + 1 := hkk
         have hkk3 := knownB_le L (putP D1 y.1.to (dd + 1))
         have hsy : s ≠ y.1.to := fun e => by
          have h1 := HDN.out
          rw [← e, hdd] at h1; cases h1
         have hpl := putA_len A1 (y.1.to : Int) (H y.1.to)
         have nS : ∀ k, w.heap.size ≤ k → k ≠ mr → ¬ F1 k → ¬ ((FH k ∨ k = mr) ∨ F1 k) := fun k h1 h3 h4 h => by
          rcases h with (h | h) | h
          ·exact NO.out k h1 h
          ·exact h3 h
          ·exact h4 h
         exact ⟨c1, c2, _, _, _, _, _, R2, HMf.out, hadd, by rw [List.map_append]; exact ht2, ⟨dd, show putP D1 y.1.to (dd + 1) s = some dd from by rw [putP_other _ _ hsy]; exact hdd⟩, by omega,
          (show t1 + 1 ≤ (knownB L (putP D1 y.1.to (dd + 1)) : Int) by omega), (show nn + 1 + (putA A1 (y.1.to : Int) (H y.1.to)).length ≤ knownB L (putP D1 y.1.to (dd + 1)) by omega), (show 2 * (L.length - knownB L (putP D1 y.1.to (dd + 1))) + (putA A1 (y.1.to : Int) (H y.1.to)).length < M0 by omega),
          H5.out.keeps (KeepsD.of KT (fun k h => by
           rcases h with (h | h) | h
           ·exact HH.out.nd H0.out.hI h
           ·rw [h]; exact H0.out.par_.not_deferred
           ·exact (H8.out k h).2.2.2.1)),
          KT.heap H6.out (nS _ (by omega) (by omega) (fun h => (H8.out _ h).2.1 rfl)), KT.heap H7.out (nS _ hb12 (by omega) (fun h => (H8.out _ h).2.2.1 rfl)),
          fun k hk => by
           rcases hF2 k hk.1.1 with ⟨h1, h2⟩ | ⟨h1, h2⟩
           ·refine ⟨(H8.out k h1).1.imp (fun h => h) (fun ⟨cs, T, fr, hc⟩ => ?_), (H8.out k h1).2.1, (H8.out k h1).2.2.1, hk.2.2⟩
            rcases h2 with h2 | ⟨es, c, h2⟩
            ·exact h2
            ·have h3 := HKE.out.heap hc (fun h => by
              have hl := H0.out.lF k h1
              rcases h with h | h
              ·exact NO.out k hl.1 h
              ·exact hl.2.2 h)
             rw [h3] at h2; cases h2
           ·exact ⟨.inr h2, by omega, by omega, hk.2.2⟩⟩
      ·rintro D2 ys W hD hys ⟨D1, par1, A1, t1, F1, R1, h1, h2, h3, h4, g1, g2, g3, g4, h5, h6, h7, h8⟩ hd
       have hys' : (ys.map fun y => y.1) = wsteps ops s := hys
       rw [hys'] at h3
       have hR := h3.done
       subst hR
       have HM7 := Lib.hid (HMK9.out.cons h5 hD (by omega) hd)
       have H1 := Lib.hid h1; have H2 := Lib.hid h2; have H8 := Lib.hid h8
       clear h1 h2 h3 h5 h6 h7 h8 hd hys hys'
       gi_wp2
       exact ⟨_, by omega, mark D2 :: ds, nn + 1, D1, par1, A1, t1, F1, H1.out, H2.out.anyS, g1, g2, g3, rfl, fun k hk => (H8.out k hk).2.2.2.1, HM7.out, ex_fnD rfl⟩
      ·exact fun _ _ _ _ _ _ h _ => h.elim

theorem gfirst_any (w00 w : World) (b st g0 base : Nat) (v : Value) (ops : List Wop) (L : List Nat) (H : Nat → Int) (gh : Nat) (pa cb : Array Value) (FH : Nat → Prop) (I : World → Prop)
  (hw : WordsAt w00 base b st g0 v ops) (k00 : Keeps (fun _ => False) w00 w) (hops : WopsOk ops) (hmany : ops.length ≤ 40) (hg0 : g0 < 4294967296) (hsh : Shut ops L) (hfew : L.length ≤ 2000) (hL32 : ∀ x ∈ L, x < 4294967296) (hst : st ∈ L)
  (hh : Heur gh pa cb L H w00.heap.size w.heap.size FH I) (hI : I w) (sf : Safe ops L (goalB g0) H) :
  Calls Tryz.prog 30 #[.iface 60 (.pointer (some ⟨b, 0, none⟩)), .func (.func gh) pa cb] w (GrPost ops L st (goalB g0) w FH) :=
 callsIn_wide.1 (gfirst_in w00 w b st g0 base v ops L H gh pa cb FH I hw k00 hops hmany hg0 hsh hfew hL32 hst hh hI sf)

end Go.Proofs.YtdokakhgflljgaaGreat

namespace Go.Proofs.YtdokakhgflljgaaGreat
open Go.RowKit Go.Sort Go.Proofs

/-! ### Contains -/
def Behind (s : List Int) (x : Int) (i : Nat) : Prop := i ≤ s.length ∧ ∀ j y, j < i → s[j]? = some y → y < x
theorem behind_end {s : List Int} {x : Int} {i : Nat} (h : Behind s x i) (hi : s.length ≤ i) : x ∉ s := fun hm => by
 obtain ⟨j, hj⟩ := List.mem_iff_getElem?.1 hm
 have := (List.getElem?_eq_some_iff.1 hj).1
 have := h.2 j x (by omega) hj
 omega
theorem behind_not {s : List Int} (hs : s.Pairwise (· < ·)) {x y : Int} {i : Nat} (h : Behind s x i) (hy : s[i]? = some y) (hxy : x < y) : x ∉ s := fun hm => by
 obtain ⟨j, hj⟩ := List.mem_iff_getElem?.1 hm
 by_cases hji : j < i
 ·have := h.2 j x hji hj; omega
 ·obtain ⟨hjl, ej⟩ := List.getElem?_eq_some_iff.1 hj
  obtain ⟨hil, ei⟩ := List.getElem?_eq_some_iff.1 hy
  rcases Nat.lt_or_ge i j with h2 | h2
  ·have := List.pairwise_iff_getElem.1 hs i j hil hjl h2; omega
  ·have : i = j := by omega
   subst this; omega
theorem subB_false {a b : List Int} {x : Int} (hx : x ∈ a) (hn : x ∉ b) : subB a b = false := by
 unfold subB; rw [List.all_eq_false]; exact ⟨x, hx, by simp [hn]⟩

set_option maxHeartbeats 1000000 in
theorem contains_any (w : World) (vs vp : Value) (s part : List Int) (hs : Ints w vs s) (hp : Ints w vp part) (ss : s.Pairwise (· < ·)) (sp : part.Pairwise (· < ·)) :
  Calls Tryz.prog 121 #[vs, vp] w fun e w' => e = .returned (.bool (subB part s)) ∧ w = w' := by
 obtain ⟨ao, ca, h1, ma⟩ := hs.form
 obtain ⟨po, cp, h2, mp⟩ := hp.form
 have CS := Lib.hid (hs.cell h1); have CP := Lib.hid (hp.cell h2); have SS := Lib.hid ss; have SP := Lib.hid sp
 subst h1 h2
 clear hs hp ss sp
 go_enter Tryz.func121, Tryz.ntmps121
 go_wp2_with fail
 go_loop [5, 10] (fun v5 v10 => ∃ k i : Nat, k ≤ part.length ∧ v10 = .int .i64 (k : Int) ∧ v5 = .int .i64 (i : Int) ∧ i ≤ s.length ∧ subB (part.take k) s = true ∧ ∀ x, part[k]? = some x → Behind s x i) (fun _ v10 => part.length - (intOf v10).toNat)
 case atStart => exact ⟨0, 0, Nat.zero_le _, rfl, rfl, Nat.zero_le _, rfl, fun x _ => ⟨Nat.zero_le _, fun j _ hj => by omega⟩⟩
 case round =>
  obtain ⟨k, i, hk, rfl, rfl, hi, ht, hb⟩ := hrel
  have HT := Lib.hid ht; have HB := Lib.hid hb
  clear ht hb
  by_cases hlt : k < part.length
  ·obtain ⟨bp, op, rfl, hc⟩ := CP.out (by omega)
   obtain ⟨x, hx⟩ : ∃ x, part[k]? = some x := ⟨_, List.getElem?_eq_getElem hlt⟩
   have hcx := hc k _ hx
   have HX := Lib.hid hx
   have HB0 := Lib.hid (HB.out x hx)
   clear hc hx HB
   go_wp2_with fail
   go_loop [5] (fun v5 => ∃ i : Nat, v5 = .int .i64 (i : Int) ∧ Behind s x i) (fun v5 => s.length - (intOf v5).toNat)
   case atStart => exact ⟨i, rfl, HB0.out⟩
   case round =>
    obtain ⟨i, rfl, hb⟩ := hrel
    have hil := hb.1
    have HB := Lib.hid hb
    clear hb
    by_cases hin : i < s.length
    ·obtain ⟨bs, os, rfl, hc⟩ := CS.out (by omega)
     obtain ⟨y, hy⟩ : ∃ y, s[i]? = some y := ⟨_, List.getElem?_eq_getElem hin⟩
     have hcy := hc i _ hy
     have HY := Lib.hid hy
     clear hc hy
     by_cases hyx : y < x
     ·have HB1 : Hid (Behind s x (i + 1)) := by
       unfold Hid
       refine ⟨by omega, fun j z hj hz => ?_⟩
       rcases Nat.lt_or_ge j i with h | h
       ·exact HB.out.2 j z h hz
       ·have : j = i := by omega
        subst this
        rw [HY.out] at hz; cases hz; exact hyx
      go_wp2_with fail
      go_round
      case rel => exact ⟨i + 1, by go_num, HB1.out⟩
      case measure => simp [intOf]; omega
     ·by_cases hne : y = x
      ·subst hne
       have HN : Hid (subB (part.take (k + 1)) s = true) := by
        unfold Hid
        rw [take_getS HX.out]
        have := HT.out
        unfold subB at this ⊢
        rw [List.all_append, this]
        simp [List.mem_of_getElem? HY.out]
       have HB2 : Hid (∀ z, part[k + 1]? = some z → Behind s z i) := by
        unfold Hid
        intro z hz
        obtain ⟨l1, e1⟩ := List.getElem?_eq_some_iff.1 HX.out
        obtain ⟨l2, e2⟩ := List.getElem?_eq_some_iff.1 hz
        have := List.pairwise_iff_getElem.1 SP.out k (k + 1) l1 l2 (by omega)
        refine ⟨HB.out.1, fun j u hj hu => ?_⟩
        have := HB.out.2 j u hj hu
        omega
       have hd1 : decide (y < y) = false := by simp
       have hd2 : (y != y) = false := by simp
       clear hyx
       go_wp2_with fail
       go_round
       case rel => exact ⟨k + 1, i, by omega, by go_num, rfl, hil, HN.out, HB2.out⟩
       case measure => simp [intOf]; omega
      ·have hf : Hid (subB part s = false) := by
        unfold Hid
        exact subB_false (List.mem_of_getElem? HX.out) (behind_not SS.out HB.out HY.out (by omega))
       have hd1 : decide (y < x) = false := by simpa using hyx
       have hd2 : (y != x) = true := by simpa using hne
       clear hyx hne
       go_wp2_with fail
       go_ret
       exact ⟨congrArg (fun b => Ending.returned (Value.bool b)) hf.out.symm, rfl⟩
    ·have hf : Hid (subB part s = false) := by
      unfold Hid
      exact subB_false (List.mem_of_getElem? HX.out) (behind_end HB.out (by omega))
     have hie : i = s.length := by omega
     subst hie
     clear hin hil
     go_wp2_with fail
     go_ret
     exact ⟨congrArg (fun b => Ending.returned (Value.bool b)) hf.out.symm, rfl⟩
  ·have hf : Hid (subB part s = true) := by
    unfold Hid
    have := HT.out
    rwa [List.take_of_length_le (by omega)] at this
   go_wp2_with fail
   go_ret
   exact ⟨congrArg (fun b => Ending.returned (Value.bool b)) hf.out.symm, rfl⟩

/-! ### the library's Sort and Compact over a row of the call's own -/
theorem sortI_any (w : World) (base : Nat) (v : Value) (l : List Int) (hown : w.ownsRow base 3 1 v l.length (l.map (Value.int .i64))) (hlen : l.length < 4611686018427387904) :
  Calls Tryz.prog 139 #[v] w fun e w' => e = .returned (.tuple #[]) ∧ w'.ownsRow base 3 1 v l.length ((l.mergeSort fun x y => decide (x ≤ y)).map (Value.int .i64)) ∧ Keeps (fun b => v.ownBlock = some b) w w' := by
 rcases hown.2 with ⟨rfl, h0⟩ | ⟨g, cap, cur, rfl, hb, hg, hn, hm, hs, ht⟩
 ·have hz : l = [] := List.length_eq_zero_iff.1 h0
  subst hz
  refine (Tryz.slices_Sort_int_none none 0 w).mono ?_
  rintro e w' ⟨rfl, rfl⟩
  exact ⟨rfl, by simpa using World.ownsRow_nil _ _ _ _, Keeps.refl _ _⟩
 ·have ht' : cur.toList.take l.length = l.map (Value.int .i64) := by simpa using ht
  refine (Tryz.slices_Sort_int g 0 cap l w (holds_of_blockI hg ht') (lt_of_heap hg) hlen).mono ?_
  rintro e w' ⟨rfl, n, os, rfl⟩
  exact ⟨rfl, ownsRow_sortedI (by simp) hb hg hn hm hs, (steady_keeps (grownBy_sortedI _)).mono (fun i _ h => by cases h; rfl)⟩

theorem keeps_putRow {w : World} {g q : Nat} (d : Array Int) : Keeps (fun b => b = g) w (putRow (Value.int .i64) (Sort.ahead w q) g 0 d) := by
 refine ⟨rfl, rfl, rfl, by simp [putRow, mapBlock, Sort.ahead], fun k _ hne => ?_⟩
 have : g ≠ k := fun e => hne e.symm
 simp [putRow, mapBlock, Sort.ahead, Array.getElem?_modify, this]
theorem heap_putRow {w : World} {g q : Nat} {cur : Array Value} {e : TypeId} {fr : Nat × Nat} (d : Array Int) (hb : w.heap[g]? = some (.cells cur e fr)) :
  (putRow (Value.int .i64) (Sort.ahead w q) g 0 d).heap[g]? = some (.cells (putCells (Value.int .i64) 0 d cur) e fr) := by
 simp [putRow, mapBlock, Sort.ahead, Array.getElem?_modify, hb, onCells]

theorem compactI_any (w : World) (base : Nat) (v : Value) (l : List Int) (hown : w.ownsRow base 3 1 v l.length (l.map (Value.int .i64))) (hlen : l.length < 4611686018427387904) :
  Calls Tryz.prog 140 #[v] w fun e w' => ∃ v', e = .returned v' ∧ w'.ownsRow base 3 1 v' (Lib.compact l).length ((Lib.compact l).map (Value.int .i64)) ∧ v'.ownBlock = v.ownBlock ∧ Keeps (fun b => v.ownBlock = some b) w w' := by
 rcases hown.2 with ⟨rfl, h0⟩ | ⟨g, cap, cur, rfl, hb, hg, hn, hm, hs, ht⟩
 ·have hz : l = [] := List.length_eq_zero_iff.1 h0
  subst hz
  refine (Tryz.slices_Compact_int_empty none 0 w).mono ?_
  rintro e w' ⟨rfl, rfl⟩
  exact ⟨_, rfl, by simpa [Lib.compact, Lib.compactUpTo] using World.ownsRow_nil _ _ _ _, rfl, Keeps.refl _ _⟩
 ·have ht' : cur.toList.take l.length = l.map (Value.int .i64) := by simpa using ht
  have hcl := Lib.compact_length_le l
  refine (Tryz.slices_Compact_int g 0 cap l w (holds_of_blockI hg ht') (by omega) hn).mono ?_
  rintro e w' ⟨rfl, q, rfl⟩
  have hsz : cur.size = cap := by simpa using hs
  have htk := take_putCellsI cur (Lib.compact l ++ List.replicate (l.length - (Lib.compact l).length) 0) (by simp; omega)
  refine ⟨_, rfl, ⟨by simp, .inr ⟨g, cap, _, rfl, hb, heap_putRow _ hg, by omega, hm, by simp [putCells, hs], ?_⟩⟩, rfl, (keeps_putRow _).mono (fun i _ h => by cases h; rfl)⟩
  have := congrArg (List.take (Lib.compact l).length) htk
  rw [List.take_take, List.map_append, List.take_left' (by simp)] at this
  rw [Nat.mul_one]
  rw [Nat.min_eq_left (by simp)] at this
  exact this

/-! ### an append of whatever slice -/
section
variable {P : Program} {w : World}
theorem run_appendS_zero (base : Nat) (t ty e : TypeId) (i : TypeInfo) (size : Nat) (ht : P.underlying t = some (.slice e)) (hi : P.info? e = some i)
  (v : Value) (n : Nat) (xs : List Value) (hown : w.ownsRow base e size v n xs) (ao : Option Addr) (c : Nat) :
  (Builtin.append_ #[t, t] ty #[v, .slice ao 0 c]).run P w = .ok v w := by
 rcases hown.2 with ⟨rfl, rfl⟩ | ⟨g, cap, cur, rfl, _, _, hnc, _⟩
 ·cases ao <;> simp [Builtin.append_, run_underlying ht, sizeOf, typeInfo, hi, Builtin.lenOf, Builtin.firstCells, loadCells, loadCellsFrom]
 ·cases ao <;> simp [Builtin.append_, run_underlying ht, sizeOf, typeInfo, hi, Builtin.lenOf, Builtin.firstCells, hnc, storeCells, loadCells, loadCellsFrom]
theorem wpList_appendS_zero {ops : Array Oper} {rest : List Oper} {o : Oper} {a : Act} {Q : Exit → Act → World → Prop} (hgd : o.guard = none) (s x : Operand) (t : TypeId)
  (ho : o.op = .call { callee := .builtin .append, args := #[s, x], argTypes := #[t, t] })
  (base : Nat) (e : TypeId) (i : TypeInfo) (size : Nat) (ht : P.underlying t = some (.slice e)) (hi : P.info? e = some i)
  (v : Value) (n : Nat) (xs : List Value) (hs : a.eval s = v) (hown : w.ownsRow base e size v n xs) (ao : Option Addr) (c : Nat) (hx : a.eval x = .slice ao 0 c)
  (h : wpList P ops Q rest (a.put o.dst v) w) : wpList P ops Q (o :: rest) a w := by
 refine wpList_plain hgd fun K hK => ?_
 have hrun := run_appendS_zero (P := P) (w := w) base t o.type e i size ht hi v n xs hown ao c
 unfold Oper.wp
 simp [execOp, ho, resolve, invoke, builtin, hs, hx, hrun, Result.andThen]
 exact hK _ _ h
theorem grownBy_refl (w : World) (row : Option Nat) : w.grownBy w row := ⟨rfl, rfl, rfl, Nat.le_refl _, fun _ _ _ => rfl⟩
/-- append(out, x...) to a row of the call's own, x whatever slice. -/
theorem wpList_append_src {ops : Array Oper} {rest : List Oper} {o : Oper} {a : Act} {Q : Exit → Act → World → Prop} (hgd : o.guard = none) (s x : Operand) (t : TypeId)
  (ho : o.op = .call { callee := .builtin .append, args := #[s, x], argTypes := #[t, t] })
  (base : Nat) (e : TypeId) (i : TypeInfo) (z : Value) (bytes : Nat) (ht : P.underlying t = some (.slice e)) (hi : P.info? e = some i) (hz : i.zero = some z)
  (hsize : i.size = 1) (hby : i.bytes = bytes) (hzs : z.cells.size = 1)
  (v : Value) (n : Nat) (xs : List Value) (hs : a.eval s = v) (hown : w.ownsRow base e 1 v n xs)
  (vx : Value) (m : Nat) (news : List Value) (hx : a.eval x = vx) (hsl : Sl w vx m news) (hl : news.length = m) (h1 : ∀ u ∈ news, u.oneCell' = true)
  (h63 : n + m ≤ maxLen) (hbytes : (n + m) * bytes ≤ 140737488355328) (hbase : base ≤ w.heap.size)
  (h : ∀ v' w', w'.ownsRow base e 1 v' (n + m) (xs ++ news) → w.grownBy w' v.ownBlock → (∀ g, v'.ownBlock = some g → v.ownBlock = some g ∨ w.heap.size ≤ g) → w.drawn ≤ w'.drawn → wpList P ops Q rest (a.put o.dst v') w') : wpList P ops Q (o :: rest) a w := by
 obtain ⟨ao, c, rfl, hm, hc⟩ := hsl
 rcases Nat.eq_zero_or_pos m with h0 | h0
 ·subst h0
  have : news = [] := List.length_eq_zero_iff.1 hl
  subst this
  refine wpList_appendS_zero hgd s x t ho base e i 1 ht hi v n xs hs hown ao c hx (h v w (by simpa using hown) (grownBy_refl w _) (fun g hg => .inl hg) (Nat.le_refl _))
 ·obtain ⟨b, off, rfl, hcell⟩ := hc h0
  refine wpList_append_d hgd s x t ho base e i z 1 bytes ht hi hz hsize hby hzs (by omega) v n xs hs hown ⟨b, off, none⟩ m c news hx (by omega) (fun j u hj => by
   have h := hcell j u hj
   by_cases hj0 : j = 0
   ·subst hj0; simpa [Addr.add] using h
   ·simpa [Addr.add, hj0] using h) h1 h0 h63 hbytes hbase w.heap.size rfl fun g cap w' h2 h3 h4 _ h6 => h _ w' h2 h3 (fun k hk => ?_) h6
  rcases h4 with h4 | h4
  ·left; rw [h4]; exact hk
  ·right; cases (show some g = some k from hk); omega
end

/-! ### Update -/
def sansL (s del : List Int) : List Int := s.filter fun x => !decide (x ∈ del)
theorem sansL_step {s del : List Int} {k : Nat} {x : Int} (hx : s[k]? = some x) : sansL (s.take (k + 1)) del = if x ∈ del then sansL (s.take k) del else sansL (s.take k) del ++ [x] := by
 unfold sansL
 rw [take_getS hx, List.filter_append]
 by_cases h : x ∈ del <;> simp [h]
theorem sansL_le (s del : List Int) (k : Nat) : (sansL (s.take k) del).length ≤ k := by
 unfold sansL
 have := List.length_filter_le (fun x => !decide (x ∈ del)) (s.take k)
 have := List.length_take_le k s
 omega

set_option maxRecDepth 100000 in
set_option maxHeartbeats 1000000 in
theorem update_any (w : World) (vs va vd : Value) (s add del : List Int) (hs : Ints w vs s) (ha : Ints w va add) (hd : Ints w vd del) (sd : del.Pairwise (· < ·)) (ls : s.length ≤ 1000) (la : add.length ≤ 1000) (ld : del.length ≤ 1000) :
  Calls Tryz.prog 138 #[vs, va, vd] w fun e w' => ∃ v, e = .returned v ∧ w'.ownsRow w.heap.size 3 1 v (updL s add del).length ((updL s add del).map (Value.int .i64)) ∧ Keeps (fun _ => False) w w' := by
 obtain ⟨i0, hi0, hz0, hz1, hz2⟩ := info_parts Tryz.info3
 obtain ⟨ao, ca, h1, _⟩ := hs.form
 obtain ⟨bo, cb, h2, _⟩ := ha.form
 obtain ⟨co, cc, h3, _⟩ := hd.form
 have CS := Lib.hid (hs.cell h1); have HA := Lib.hid ha; have HD := Lib.hid hd; have SD := Lib.hid sd
 subst h1 h2 h3
 clear hs ha hd sd
 go_enter Tryz.func138, Tryz.ntmps138
 go_wp2_with fail
 go_loopw [7, 14] (fun v7 v14 wr => ∃ k : Nat, k ≤ s.length ∧ v14 = .int .i64 (k : Int) ∧ wr.ownsRow w.heap.size 3 1 v7 (sansL (s.take k) del).length ((sansL (s.take k) del).map (Value.int .i64)) ∧ Keeps (fun _ => False) w wr) (fun _ v14 _ => s.length - (intOf v14).toNat)
 case atStart => exact ⟨0, Nat.zero_le _, rfl, World.ownsRow_nil _ _ _ _, Keeps.refl _ _⟩
 case round =>
  obtain ⟨k, hk, rfl, hown, hkw⟩ := hrel
  have HO := Lib.hid hown; have KW := Lib.hid hkw
  have hle := sansL_le s del k
  obtain ⟨av, cv, hv⟩ := ownsRow_form1 hown
  subst hv
  clear hown hkw
  by_cases hlt : k < s.length
  ·obtain ⟨bs, os, rfl, hc⟩ := CS.out (by omega)
   obtain ⟨x, hx⟩ : ∃ x, s[k]? = some x := ⟨_, List.getElem?_eq_getElem hlt⟩
   have hcx := KW.out.cell (hc k _ hx) (fun h => h)
   have HST := Lib.hid (sansL_step (del := del) hx)
   clear hc hx
   go_wp2_with fail
   refine (bsearch_any _ _ _ x (HD.out.keeps0 KW.out) SD.out (by omega)).mono ?_; rintro e w2 ⟨j, rfl, q, rfl⟩
   have KQ := Lib.hid (KW.out.drewN q)
   have HOQ := Lib.hid (((Keeps.refl (fun _ => False) wr).drewN q).ownsRow HO.out (fun _ _ h => h))
   clear hcx HO KW
   generalize wr.drewN q = wq at KQ HOQ ⊢
   have hsz := KQ.out.size
   by_cases hm : x ∈ del
   ·have HE := Lib.hid (show sansL (s.take (k + 1)) del = sansL (s.take k) del by rw [HST.out, if_pos hm])
    rw [decide_eq_true hm]
    clear hm
    go_wp2_with fail
    go_roundw
    case rel => exact ⟨k + 1, by omega, by go_num, by rw [HE.out]; exact HOQ.out, KQ.out⟩
    case measure => simp only [intOf]; omega
   ·have HE := Lib.hid (show sansL (s.take (k + 1)) del = sansL (s.take k) del ++ [x] by rw [HST.out, if_neg hm])
    rw [decide_eq_false hm]
    clear hm
    go_wp2_with (at_builtin; refine wpList_append_d rfl _ _ _ rfl w.heap.size 3 i0 _ 1 8 Tryz.underlying22 hi0 hz0 hz1 hz2 rfl (by omega) _ (sansL (s.take k) del).length ((sansL (s.take k) del).map (Value.int .i64)) (by rfl) (World.ownsRow.alloc HOQ.out (.cells #[.int .i64 x] 3)) ⟨wq.heap.size, 0, none⟩ 1 1 [.int .i64 x] (by rfl) (by rfl) (World.news_of_block (cs := #[.int .i64 x]) (t := 3) (fr := (0, 0)) (heap_alloc_new _ _)) (by simp [Value.oneCell']) (by omega) (by unfold maxLen; omega) (by omega) (by simp; omega) (wq.heap.size + 1) (by simp) ?_)
    intro gg cap2 w4 hown hgrow hat hlt4 hd4
    have HN := Lib.hid (show w4.ownsRow w.heap.size 3 1 (.slice (some ⟨gg, 0, none⟩) ((sansL (s.take k) del).length + 1) cap2) (sansL (s.take (k + 1)) del).length ((sansL (s.take (k + 1)) del).map (Value.int .i64)) by
     rw [HE.out, List.map_append, List.length_append]; exact hown)
    have HKN := Lib.hid (own_grown HOQ.out KQ.out ((Keeps.refl _ wq).alloc (.cells #[.int .i64 x] 3)) hgrow)
    clear hown hgrow hat hd4
    go_wp2_with fail
    go_roundw
    case rel => exact ⟨k + 1, by omega, by go_num, HN.out, HKN.out⟩
    case measure => simp only [intOf]; omega
  ·have hke : k = s.length := by omega
   subst hke
   have HO2 := Lib.hid (show wr.ownsRow w.heap.size 3 1 (.slice av (sansL (s.take s.length) del).length cv) (sansL s del).length ((sansL s del).map (Value.int .i64)) by
    have h := HO.out
    have e : sansL (s.take s.length) del = sansL s del := by rw [List.take_length]
    generalize (Value.slice av (sansL (s.take s.length) del).length cv) = v at h ⊢
    rw [e] at h; exact h)
   have hle2 : (sansL s del).length ≤ s.length := by have := sansL_le s del s.length; rwa [List.take_length] at this
   have hsz := KW.out.size
   have HAw := Lib.hid (HA.out.keeps0 KW.out)
   clear HO hle
   generalize (sansL (s.take s.length) del).length = nn at HO2 ⊢
   go_wp2_with (at_builtin; refine wpList_append_src rfl _ _ _ rfl w.heap.size 3 i0 _ 8 Tryz.underlying22 hi0 hz0 hz1 hz2 rfl _ (sansL s del).length ((sansL s del).map (Value.int .i64)) (by rfl) HO2.out _ add.length (add.map (Value.int .i64)) (by rfl) HAw.out (by simp) (by simp [Value.oneCell']) (by unfold maxLen; omega) (by omega) (by omega) ?_)
   intro v4 w4 hown hgrow hblk hd4
   have HN := Lib.hid (show w4.ownsRow w.heap.size 3 1 v4 (preL s add del).length ((preL s add del).map (Value.int .i64)) by
    unfold preL; rw [List.map_append, List.length_append]; exact hown)
   have HK4 := Lib.hid (own_grown HO2.out KW.out (Keeps.refl _ wr) hgrow)
   have hpl := preL_len s add del
   clear hown hgrow hblk hd4 HO2 KW
   go_wp2_with fail
   refine (sortI_any _ _ _ (preL s add del) HN.out (by omega)).mono ?_; rintro e w5 ⟨rfl, hown, hk⟩
   have HN5 := Lib.hid (show w5.ownsRow w.heap.size 3 1 v4 ((preL s add del).mergeSort fun x y => decide (x ≤ y)).length (((preL s add del).mergeSort fun x y => decide (x ≤ y)).map (Value.int .i64)) by rw [List.length_mergeSort]; exact hown)
   have HK5 := Lib.hid (HK4.out.trans' hk (fun b hb => .inr (World.ownsRow.lt HN.out b hb).1))
   clear hown hk HN HK4
   go_wp2_with fail
   refine (compactI_any _ _ _ _ HN5.out (by rw [List.length_mergeSort]; omega)).mono ?_; rintro e w6 ⟨v6, rfl, hown, _, hk⟩
   have HN6 := Lib.hid hown
   have HK6 := Lib.hid (HK5.out.trans' hk (fun b hb => .inr (World.ownsRow.lt HN5.out b hb).1))
   clear hown hk HN5 HK5
   go_wp2_with fail
   go_ret
   exact ⟨_, rfl, HN6.out, HK6.out⟩

/-! ### Can, Next -/
end Go.Proofs.YtdokakhgflljgaaGreat

namespace Go.Proofs.YtdokakhgflljgaaGreat

/-! ### greater states -/
theorem goalB_iff {g x : Nat} : goalB g x = true ↔ under g x := by
 unfold goalB
 rw [beq_iff_eq]
 constructor
 ·intro h i hi
  have := congrArg (fun z => z.testBit i) h
  simp only [Nat.testBit_and, hi, Bool.and_true] at this
  exact this
 ·intro h
  refine Nat.eq_of_testBit_eq fun i => ?_
  rw [Nat.testBit_and]
  cases hg : g.testBit i with
  | false => simp
  | true => rw [h i hg]; rfl
theorem can_iff {o : Wop} {x : Nat} : o.can x = true ↔ under o.pre x := goalB_iff (g := o.pre) (x := x)
theorem reach_run {ops : List Wop} {s : Nat} : ∀ (q : List Nat) {x y : Nat}, Reach ops s x → runOps ops x q = some y → Reach ops s y
 | [], x, y, hx, hy => by cases hy; exact hx
 | a :: q, x, y, hx, hy => by
  rw [runOps] at hy
  cases ho : ops[a]? with
  | none => rw [ho] at hy; cases hy
  | some o =>
   rw [ho] at hy; simp only at hy
   by_cases hc : o.can x = true
   ·rw [if_pos hc] at hy
    exact reach_run q (.step hx (List.mem_map.2 ⟨o, List.mem_filter.2 ⟨List.mem_of_getElem? ho, hc⟩, rfl⟩)) hy
   ·rw [if_neg hc] at hy; cases hy

/-! ### the search that finds nothing -/
section
variable {acc : Nat → Bool} {cov : Nat → List Nat → Bool}
end

theorem ops_cost {t : Tsk} (ok : t.Ok) : ∀ o ∈ wordsOf t.ops, 0 ≤ o.cost ∧ o.cost ≤ 100 := fun o ho => by
 unfold wordsOf at ho
 obtain ⟨o', ho', rfl⟩ := List.mem_map.1 ho
 exact ⟨(ok.ops o' ho').cost0, (ok.ops o' ho').cost1⟩

end Go.Proofs.YtdokakhgflljgaaGreat

namespace Go.Proofs.YtdokakhgflljgaaGreat
open Go.RowKit

/-- The least price of a plan of the task. -/
def BestT (t : Tsk) (b : Int) : Prop := LeastOf 4096 1 (wordsOf t.ops) (wd t.init) (goalB (wd t.goal)) b
end Go.Proofs.YtdokakhgflljgaaGreat

namespace Go.Proofs.YtdokakhgflljgaaGreat
open Go.RowKit

/-- The steps of a best plan with the least price b. -/
def stepsB (b : Int) : Int := if b < 0 then 0 else b % 4096
end Go.Proofs.YtdokakhgflljgaaGreat

namespace Go.Proofs.YtdokakhgflljgaaGreat
open Go.RowKit

theorem expF_bad {t : Tsk} (h : (taskFault t).1 ≠ 0) : expF t = taskFault t := by unfold expF; rw [if_neg h]
theorem expF_many {t : Tsk} (ok : t.Ok) (h : explored t = none) : expF t = (10, -7) := by unfold expF; rw [if_pos (taskFault_zero.2 ok), h]
theorem expF_ok {t : Tsk} (ok : t.Ok) {l : List Nat} (h : explored t = some l) : expF t = (0, 0) := by unfold expF; rw [if_pos (taskFault_zero.2 ok), h]

end Go.Proofs.YtdokakhgflljgaaGreat

namespace Go.Proofs.YtdokakhgflljgaaGreat
open Go.RowKit Go.Shelf

theorem CheckedPost.form {t : Tsk} {w w' : World} {e : Ending} (h : CheckedPost t w e w') : ∃ pv lv c i, e = .returned (.tuple #[pv, lv, .agg #[.int .i64 c, .int .i64 i]]) := by
 rcases h.2 with ⟨_, h⟩ | ⟨_, _, h⟩ | ⟨_, _, _, b, v, vl, ws, h, _⟩
 ·exact ⟨_, _, _, _, h⟩
 ·exact ⟨_, _, _, _, h⟩
 ·exact ⟨_, _, _, _, h⟩
theorem CheckedPost.past {t : Tsk} {w w1 w2 w' : World} {e : Ending} {S : Nat → Prop} (h : CheckedPost t w1 e w2) (hz : w.heap.size ≤ w1.heap.size) (hk : Keeps S w2 w') (hS : ∀ k, S k → k < w1.heap.size) (k0 : Keeps (fun _ => False) w w') : CheckedPost t w e w' := by
 refine ⟨k0, ?_⟩
 rcases h.2 with h | h | ⟨ok, l, hx, b, v, vl, ws, he, hw, hp, hs, hown⟩
 ·exact .inl h
 ·exact .inr (.inl h)
 ·exact .inr (.inr ⟨ok, l, hx, b, v, vl, ws, he, (hw.keepsS hk (fun h => by have := hS _ h; have := hw.low; omega) (fun k hk' h => by have := hS _ h; have := (hw.own.lt k hk').1; omega)).mono hz, hp, hs, ownsRow_mono (hk.ownsRow hown (fun k hk' h => by have := hS _ h; have := (hown.lt k hk').1; omega)) hz⟩)

set_option maxRecDepth 100000 in
set_option maxHeartbeats 2000000 in
theorem acheck_any (w : World) (vi vg vo : Value) (t : Tsk) (h : TaskAt w vi vg vo t) :
  Calls Tryz.prog 29 #[.agg #[.int .i64 t.n, vi, vg, vo], .bool true] w (CheckedPost t w) := by
 obtain ⟨ai, ci, h1, _⟩ := h.init.form
 obtain ⟨ag, cg, h2, _⟩ := h.goal.form
 obtain ⟨ao, co, h3, hmo⟩ := h.ops.form
 subst h1 h2 h3
 have K1 := (Keeps.refl (fun _ => False) w).alloc (.cells #[.int .i64 t.n, .slice ai t.init.length ci, .slice ag t.goal.length cg, .slice ao t.ops.length co] 25)
 have HT := h.keeps0 (K1.alloc (.cells #[.int .i64 0, .int .i64 0] 31))
 have HB := (Four.new w (.int .i64 t.n) (.slice ai t.init.length ci) (.slice ag t.goal.length cg) (.slice ao t.ops.length co) 25).keeps0 ((Keeps.refl _ _).alloc (.cells #[.int .i64 0, .int .i64 0] 31))
 have HF : Flt w ((w.alloc (.cells #[.int .i64 t.n, .slice ai t.init.length ci, .slice ag t.goal.length cg, .slice ao t.ops.length co] 25)).alloc (.cells #[.int .i64 0, .int .i64 0] 31)) (w.heap.size + 1) 31 :=
  ⟨by have := heap_alloc_new (w.alloc (.cells #[.int .i64 t.n, .slice ai t.init.length ci, .slice ag t.goal.length cg, .slice ao t.ops.length co] 25)) (.cells #[.int .i64 0, .int .i64 0] 31); rwa [World.size_alloc] at this, by omega, K1.alloc _⟩
 replace HT := Lib.hid HT; replace HB := Lib.hid HB; replace HF := Lib.hid HF
 clear h K1
 go_enter Tryz.func29, Tryz.ntmps29
 go_upto_region 1 with fail
 generalize ((w.alloc (.cells #[.int .i64 t.n, .slice ai t.init.length ci, .slice ag t.goal.length cg, .slice ao t.ops.length co] 25)).alloc (.cells #[.int .i64 0, .int .i64 0] 31)) = w1 at HT HB HF ⊢
 have hbx := HB.out.lt
 obtain ⟨d0, d1, d2, d3⟩ := HB.out
 go_wp2_with fail
 refine (checked_any _ _ _ _ t HT.out).mono ?_; rintro e w2 hr
 obtain ⟨pv, lv, c, i, rfl⟩ := hr.form
 have HR := Lib.hid hr
 have KA := (Keeps.refl (fun _ => False) w2).alloc (.cells #[.int .i64 c, .int .i64 i] 31)
 have HF3 := Lib.hid (HF.out.keeps0 (hr.1.trans KA))
 have F0 := Lib.hid (heap_alloc_new w2 (.cells #[.int .i64 c, .int .i64 i] 31))
 have HKA := Lib.hid KA
 have hw1 := HF.out.cells.2.2.2.2
 have hww : w.heap.size ≤ w1.heap.size := HF.out.keep.size
 clear d0 d1 d2 d3 hbx hr KA HT HB HF
 go_upto_region 2 with fail
 generalize w2.alloc (.cells #[.int .i64 c, .int .i64 i] 31) = w3 at HF3 F0 HKA ⊢
 generalize w2.heap.size = b3 at F0 ⊢
 obtain ⟨f0, f1, _, _, fl⟩ := pair_cells F0.out
 obtain ⟨e0, e1, z0, z1, hF⟩ := HF3.out.cells
 go_wp2_with fail
 go_region
 all_goals
  go_wp2
  refine bodyPost_ret (results_tmp2_cell _ _ (w.heap.size + 1) 31 #[.int .i64 c, .int .i64 i] (0, 0) _ rfl rfl (((Keeps.refl (fun _ => False) _).drew).heap (HF3.out.set (.int .i64 c) (.int .i64 i)).1 (fun h => h)) Tryz.underlying31 rfl (by kernel_rfl)) rfl ?_
  exact HR.out.past hww ((HKA.out.mono (S' := fun k => k = w.heap.size + 1) (fun _ _ h => h.elim)).trans ((keeps_pair (w := w3) (w.heap.size + 1) (.int .i64 c) (.int .i64 i)).drew)) (fun k hk => by rw [hk]; exact hw1) ((HF3.out.set (.int .i64 c) (.int .i64 i)).2.drew)

set_option maxRecDepth 100000 in
set_option maxHeartbeats 2000000 in
theorem heuristic_any (w : World) (vi vg vo : Value) (t : Tsk) (kind : Int) (H : Nat → Int) (h : TaskAt w vi vg vo t) :
  Calls Tryz.prog 31 #[.agg #[.int .i64 t.n, vi, vg, vo], .int .i64 kind] w fun e w' => ∃ kb tb qb mb : Nat, e = .returned (.func (.func 58) #[] #[.pointer (some ⟨kb, 0, none⟩), .pointer (some ⟨tb, 0, none⟩), .pointer (some ⟨qb, 0, none⟩)]) ∧
   HeurM t kind H w kb tb qb mb vi vg vo w' ∧ w.heap.size ≤ mb ∧ kb < w'.heap.size ∧ tb < w'.heap.size ∧ qb < w'.heap.size ∧ mb < w'.heap.size ∧ Keeps (fun _ => False) w w' := by
 have hmm := @run_makeMap Tryz.prog
 have hmf : ∀ (fn : Fn) (first cap : Array Value) (w : World), (Instr.makeFunc fn first cap).run Tryz.prog w = .ok (.func fn first cap) w := fun _ _ _ _ => rfl
 obtain ⟨ai, ci, h1, _⟩ := h.init.form
 obtain ⟨ag, cg, h2, _⟩ := h.goal.form
 obtain ⟨ao, co, h3, hmo⟩ := h.ops.form
 subst h1 h2 h3
 clear h
 go_enter Tryz.func31, Tryz.ntmps31
 go_wp2_with fail
 go_ret
 have b1 := heap_alloc_new w (.cells #[.int .i64 t.n, .slice ai t.init.length ci, .slice ag t.goal.length cg, .slice ao t.ops.length co] 25)
 have b2 := heap_alloc_new (w.alloc (.cells #[.int .i64 t.n, .slice ai t.init.length ci, .slice ag t.goal.length cg, .slice ao t.ops.length co] 25)) (.cells #[.int .i64 kind] 3)
 have k2 := (Keeps.refl (fun _ => False) (w.alloc (.cells #[.int .i64 t.n, .slice ai t.init.length ci, .slice ag t.goal.length cg, .slice ao t.ops.length co] 25))).alloc (.cells #[.int .i64 kind] 3)
 have m3 := FMap.made ((w.alloc (.cells #[.int .i64 t.n, .slice ai t.init.length ci, .slice ag t.goal.length cg, .slice ao t.ops.length co] 25)).alloc (.cells #[.int .i64 kind] 3)) intV
 have k3 := (Keeps.refl (fun _ => False) ((w.alloc (.cells #[.int .i64 t.n, .slice ai t.init.length ci, .slice ag t.goal.length cg, .slice ao t.ops.length co] 25)).alloc (.cells #[.int .i64 kind] 3))).alloc (.map #[] 0)
 have b4 := heap_alloc_new (((w.alloc (.cells #[.int .i64 t.n, .slice ai t.init.length ci, .slice ag t.goal.length cg, .slice ao t.ops.length co] 25)).alloc (.cells #[.int .i64 kind] 3)).alloc (.map #[] 0)) (.cells #[.map (some (w.heap.size + 1 + 1))] 88)
 have k4 := (Keeps.refl (fun _ => False) (((w.alloc (.cells #[.int .i64 t.n, .slice ai t.init.length ci, .slice ag t.goal.length cg, .slice ao t.ops.length co] 25)).alloc (.cells #[.int .i64 kind] 3)).alloc (.map #[] 0))).alloc (.cells #[.map (some (w.heap.size + 1 + 1))] 88)
 have k1 := (Keeps.refl (fun _ => False) w).alloc (.cells #[.int .i64 t.n, .slice ai t.init.length ci, .slice ag t.goal.length cg, .slice ao t.ops.length co] 25)
 rw [World.size_alloc] at b2
 rw [World.size_alloc, World.size_alloc] at m3
 rw [World.size_alloc, World.size_alloc, World.size_alloc] at b4
 have k34 := k3.trans k4
 exact ⟨w.heap.size + 1 + 1 + 1, w.heap.size, w.heap.size + 1, w.heap.size + 1 + 1, rfl, ⟨b4, k34.heap (k2.heap b1 (fun h => h)) (fun h => h), k34.heap b2 (fun h => h), ⟨_, m3.keeps k4 (fun h => h), fun x v hx => by cases hx⟩, k1.trans (k2.trans k34)⟩, by omega, by simp only [World.size_alloc]; omega, by simp only [World.size_alloc]; omega, by simp only [World.size_alloc]; omega, by simp only [World.size_alloc]; omega, k1.trans (k2.trans k34)⟩

end Go.Proofs.YtdokakhgflljgaaGreat

namespace Go.Proofs.YtdokakhgflljgaaGreat
open Go.RowKit Go.Shelf

theorem ret_three {a b c a' b' c' : Value} (h : Ending.returned (.tuple #[a, b, c]) = .returned (.tuple #[a', b', c'])) : a = a' ∧ b = b' ∧ c = c' := by simpa using h
theorem agg_two {a b a' b' : Int} (h : Value.agg #[.int .i64 a, .int .i64 b] = .agg #[.int .i64 a', .int .i64 b']) : a = a' ∧ b = b' := by simpa using h

/-- What a kind of heuristic says, where it is admissible. -/
def SaysH (t : Tsk) (kind : Int) (H : Nat → Int) : Prop := ∀ l, t.Ok → explored t = some l → ValC t kind l H ∧ Adm (wordsOf t.ops) l (goalB (wd t.goal)) H
theorem ValC.perm {t : Tsk} {kind : Int} {l ws : List Nat} {H : Nat → Int} (h : ValC t kind l H) (hp : ws.Perm l) : ValC t kind ws H := fun W vi vg vo vs x ht hx hi => h W vi vg vo vs x ht (hp.mem_iff.1 hx) hi
theorem Adm.perm {ops : List Wop} {l ws : List Nat} {acc : Nat → Bool} {H : Nat → Int} (h : Adm ops l acc H) (hp : ws.Perm l) : Adm ops ws acc H := ⟨fun x hx => h.lo x (hp.mem_iff.1 hx), fun x hx => h.low x (hp.mem_iff.1 hx)⟩

theorem aresult_long (w : World) (vi vg vo vp : Value) (t : Tsk) (p : List Int) (found : Bool) (n : Int) (h : TaskAt w vi vg vo t) (ok : t.Ok) (hp : Ints w vp p) (hin : PlanIn t p) (hl : 60 < p.length) :
  Calls Tryz.prog 34 #[.agg #[.int .i64 t.n, vi, vg, vo], vp, .bool found, .int .i64 n] w fun e w' => e = .returned (.tuple #[.agg #[.bool false, .slice none 0 0, .int .i64 0, .int .i64 0], .agg #[.int .i64 10, .int .i64 (-9)]]) ∧ Keeps (fun _ => False) w w' :=
 (result_any w vi vg vo vp t p found n h ok hp hin).mono fun e w' hr => by
  rcases hr.2 with ⟨_, he⟩ | ⟨h2, _⟩
  ·exact ⟨he, hr.1⟩
  ·omega
theorem aresult_fit (w : World) (vi vg vo vp : Value) (t : Tsk) (p : List Int) (found : Bool) (n : Int) (h : TaskAt w vi vg vo t) (ok : t.Ok) (hp : Ints w vp p) (hin : PlanIn t p) (hl : p.length ≤ 60) :
  Calls Tryz.prog 34 #[.agg #[.int .i64 t.n, vi, vg, vo], vp, .bool found, .int .i64 n] w fun e w' => e = .returned (.tuple #[.agg #[.bool found, vp, .int .i64 (costL t p), .int .i64 n], .agg #[.int .i64 0, .int .i64 0]]) ∧ Keeps (fun _ => False) w w' :=
 (result_any w vi vg vo vp t p found n h ok hp hin).mono fun e w' hr => by
  rcases hr.2 with ⟨h2, _⟩ | ⟨_, he⟩
  ·omega
  ·exact ⟨he, hr.1⟩

end Go.Proofs.YtdokakhgflljgaaGreat

namespace Go.Proofs.YtdokakhgflljgaaGreat

/-- Rounds until nothing changes. -/
def fixG {α : Type} [DecidableEq α] (F : α → α) : Nat → α → α
 | 0, v => v
 | n + 1, v => if F v = v then v else fixG F n (F v)

/-- A round keeps I, and lessens the measure where it changes something. -/
def Okf {α : Type} (I : α → Prop) (μ : α → Nat) (R : α → α → Prop) (f : α → α) : Prop := ∀ v, I v → I (f v) ∧ R v (f v) ∧ (f v = v ∨ μ (f v) < μ v)

section
variable {α : Type} [DecidableEq α] {F : α → α} {I : α → Prop} {μ : α → Nat} {R : α → α → Prop}
theorem fixG_done {v : α} (h : F v = v) : ∀ n, fixG F n v = v
 | 0 => rfl
 | n + 1 => by rw [fixG, if_pos h]
theorem fixG_spec (hf : Okf I μ R F) (hr : ∀ v, R v v) (ht : ∀ a b c, R a b → R b c → R a c) : ∀ (n : Nat) (v : α), I v → μ v ≤ n → I (fixG F n v) ∧ R v (fixG F n v) ∧ F (fixG F n v) = fixG F n v
 | 0, v, hv, hw => by
  obtain ⟨h1, h2, h3⟩ := hf v hv
  exact ⟨hv, hr v, h3.resolve_right (by omega)⟩
 | n + 1, v, hv, hw => by
  obtain ⟨h1, h2, h3⟩ := hf v hv
  unfold fixG
  by_cases he : F v = v
  ·rw [if_pos he]; exact ⟨hv, hr v, he⟩
  ·rw [if_neg he]
   obtain ⟨g1, g2, g3⟩ := fixG_spec hf hr ht n (F v) h1 (by have := h3.resolve_left he; omega)
   exact ⟨g1, ht _ _ _ h2 g2, g3⟩
theorem fixG_step (hf : Okf I μ R F) : ∀ (n : Nat) (v : α), I v → μ v ≤ n → fixG F n (F v) = fixG F n v
 | 0, v, hv, hw => by
  rcases (hf v hv).2.2 with h | h
  ·rw [h]
  ·omega
 | n + 1, v, hv, hw => by
  by_cases he : F v = v
  ·rw [he]
  ·obtain ⟨h1, _, h3⟩ := hf v hv
   have hl := h3.resolve_left he
   have e1 : fixG F (n + 1) v = fixG F n (F v) := by rw [fixG, if_neg he]
   rw [e1, fixG]
   by_cases h4 : F (F v) = F v
   ·rw [if_pos h4, fixG_done h4]
   ·rw [if_neg h4]; exact fixG_step hf n (F v) h1 (by omega)

end

section
variable {α : Type} {I : α → Prop} {μ : α → Nat} {R : α → α → Prop} {β : Type} {f : β → α → α}
theorem okf_fold (hr : ∀ v, R v v) (ht : ∀ a b c, R a b → R b c → R a c) : ∀ (l : List β), (∀ a ∈ l, Okf I μ R (f a)) → Okf I μ R (fun v => l.foldl (fun v a => f a v) v)
 | [], _ => fun v hv => ⟨hv, hr v, .inl rfl⟩
 | a :: l, h => fun v hv => by
  obtain ⟨h1, h2, h3⟩ := h a (by simp) v hv
  obtain ⟨g1, g2, g3⟩ := okf_fold hr ht l (fun b hb => h b (by simp [hb])) (f a v) h1
  simp only [List.foldl_cons]
  refine ⟨g1, ht _ _ _ h2 g2, ?_⟩
  simp only at g3
  rcases h3 with h3 | h3
  ·rw [h3] at g3 ⊢; exact g3
  ·rcases g3 with g3 | g3
   ·rw [g3]; exact .inr h3
   ·exact .inr (by omega)
/-- Where a row of steps changes nothing, no step does. -/
theorem fold_done (hr : ∀ v, R v v) (ht : ∀ a b c, R a b → R b c → R a c) : ∀ (l : List β), (∀ a ∈ l, Okf I μ R (f a)) → ∀ v, I v → l.foldl (fun v a => f a v) v = v → ∀ a ∈ l, f a v = v
 | [], _, _, _, _ => fun _ h => (List.not_mem_nil h).elim
 | a :: l, h, v, hv, he => by
  obtain ⟨h1, h2, h3⟩ := h a (by simp) v hv
  have hg := okf_fold hr ht l (fun b hb => h b (by simp [hb]))
  obtain ⟨g1, g2, g3⟩ := hg (f a v) h1
  simp only [List.foldl_cons] at he
  simp only at g3
  have ha : f a v = v := by
   rcases h3 with h3 | h3
   ·exact h3
   ·exfalso
    rw [he] at g3
    rcases g3 with g3 | g3
    ·rw [← g3] at h3; omega
    ·omega
  rw [ha] at he
  intro b hb
  rcases List.mem_cons.1 hb with rfl | hb
  ·exact ha
  ·exact fold_done hr ht l (fun b hb => h b (by simp [hb])) v hv he b hb
/-- Two rows of steps, one behind the other. -/
theorem okf_comp (ht : ∀ a b c, R a b → R b c → R a c) {g h : α → α} (hg : Okf I μ R g) (hh : Okf I μ R h) : Okf I μ R (fun v => h (g v)) := fun v hv => by
 obtain ⟨a1, a2, a3⟩ := hg v hv
 obtain ⟨b1, b2, b3⟩ := hh (g v) a1
 refine ⟨b1, ht _ _ _ a2 b2, ?_⟩
 show h (g v) = v ∨ μ (h (g v)) < μ v
 rcases a3 with a3 | a3
 ·rw [a3] at b3 ⊢; exact b3
 ·rcases b3 with b3 | b3
  ·rw [b3]; exact .inr a3
  ·exact .inr (by omega)
theorem comp_done {g h : α → α} (hg : Okf I μ R g) (hh : Okf I μ R h) {v : α} (hv : I v) (he : h (g v) = v) : g v = v ∧ h v = v := by
 obtain ⟨a1, a2, a3⟩ := hg v hv
 obtain ⟨b1, b2, b3⟩ := hh (g v) a1
 have e : g v = v := by
  rcases a3 with a3 | a3
  ·exact a3
  ·exfalso
   rw [he] at b3
   rcases b3 with b3 | b3
   ·rw [← b3] at a3; omega
   ·omega
 rw [e] at he
 exact ⟨e, he⟩
end

/-- Has something changed since v? -/
def Flag {α : Type} (μ : α → Nat) (v v' : α) (ch : Bool) : Prop := (ch = false ∧ v' = v) ∨ (ch = true ∧ μ v' < μ v)
theorem Flag.more {α : Type} {μ : α → Nat} {v v1 v2 : α} {c d : Bool} (h : Flag μ v v1 c) (h' : Flag μ v1 v2 d) : Flag μ v v2 (d || c) := by
 rcases h with ⟨rfl, rfl⟩ | ⟨rfl, h⟩
 ·rw [Bool.or_false]; exact h'
 ·rcases h' with ⟨rfl, rfl⟩ | ⟨rfl, h'⟩
  ·exact .inr ⟨rfl, h⟩
  ·exact .inr ⟨rfl, by omega⟩

end Go.Proofs.YtdokakhgflljgaaGreat

namespace Go.Proofs.YtdokakhgflljgaaGreat

def plusI (a b : Int) : Int := if a = 1000000000 ∨ b = 1000000000 then 1000000000 else min (a + b) 999999999
def getV (v : List Int) (p : Int) : Int := v.getD p.toNat 0
def greatL (v : List Int) (ps : List Int) : Int := ps.foldl (fun m p => max m (getV v p)) 0
def sumL (v : List Int) (ps : List Int) : Int := ps.foldl (fun m p => plusI m (getV v p)) 0
def addsV (x : Int) (v : List Int) (ps : List Int) : List Int := ps.foldl (fun v p => if x < getV v p then v.set p.toNat x else v) v
def opsV (comb : List Int → List Int → Int) (v : List Int) (os : List (Opr × Int)) : List Int := os.foldl (fun v o => addsV (plusI (comb v o.1.pre) o.2) v o.1.add) v
/-- Rounds until nothing changes. -/
def fixV (comb : List Int → List Int → Int) (os : List (Opr × Int)) : Nat → List Int → List Int
 | 0, v => v
 | n + 1, v => if opsV comb v os = v then v else fixV comb os n (opsV comb v os)
def zeroV (v ps : List Int) : List Int := ps.foldl (fun v p => v.set p.toNat 0) v
/-- The values at the start: nothing for the facts of the state. -/
def startV (n : Int) (s : List Int) : List Int := zeroV (List.replicate n.toNat 1000000000) s
/-- The values at the end. -/
def valuesV (comb : List Int → List Int → Int) (t : Tsk) (costs s : List Int) : List Int := fixV comb (t.ops.zip costs) (weightC (startV t.n s)) (startV t.n s)

theorem zeroV_low : ∀ (ps v : List Int), (∀ y ∈ v, 0 ≤ y ∧ y ≤ 1000000000) → (zeroV v ps).length = v.length ∧ ∀ y ∈ zeroV v ps, 0 ≤ y ∧ y ≤ 1000000000
 | [], v, hv => ⟨rfl, hv⟩
 | p :: r, v, hv => by
  obtain ⟨h1, h2⟩ := zeroV_low r (v.set p.toNat 0) (fun y hy => by
   rcases List.mem_or_eq_of_mem_set hy with h | h
   ·exact hv y h
   ·rw [h]; decide)
  rw [List.length_set] at h1
  exact ⟨h1, h2⟩
theorem startV_low {n : Int} (s : List Int) : (startV n s).length = n.toNat ∧ ∀ y ∈ startV n s, 0 ≤ y ∧ y ≤ 1000000000 := by
 obtain ⟨h1, h2⟩ := zeroV_low s (List.replicate n.toNat 1000000000) (fun y hy => by rw [(List.mem_replicate.1 hy).2]; decide)
 exact ⟨by unfold startV; rw [h1, List.length_replicate], h2⟩
theorem zeroV_snoc (v ps : List Int) (p : Int) : zeroV v (ps ++ [p]) = (zeroV v ps).set p.toNat 0 := by unfold zeroV; rw [List.foldl_append]; rfl

theorem plusI_low {a b : Int} (ha : 0 ≤ a) (hb : 0 ≤ b) : 0 ≤ plusI a b ∧ plusI a b ≤ 1000000000 := by
 unfold plusI; split <;> omega
theorem greatL_from (v : List Int) : ∀ (ps : List Int) (m : Int), m ≤ ps.foldl (fun m p => max m (getV v p)) m ∧ (∀ p ∈ ps, getV v p ≤ ps.foldl (fun m p => max m (getV v p)) m) ∧ ∀ c, m ≤ c → (∀ p ∈ ps, getV v p ≤ c) → ps.foldl (fun m p => max m (getV v p)) m ≤ c
 | [], m => ⟨Int.le_refl _, fun _ h => (List.not_mem_nil h).elim, fun c h _ => h⟩
 | p :: r, m => by
  obtain ⟨h1, h2, h3⟩ := greatL_from v r (max m (getV v p))
  simp only [List.foldl_cons]
  refine ⟨by omega, fun q hq => ?_, fun c hm hc => h3 c (by have := hc p (by simp); omega) (fun q hq => hc q (by simp [hq]))⟩
  rcases List.mem_cons.1 hq with rfl | hq
  ·omega
  ·exact h2 q hq
theorem greatL_low (v : List Int) (ps : List Int) : 0 ≤ greatL v ps := (greatL_from v ps 0).1
theorem greatL_mem {v : List Int} {ps : List Int} {p : Int} (h : p ∈ ps) : getV v p ≤ greatL v ps := (greatL_from v ps 0).2.1 p h
theorem greatL_le {v : List Int} {ps : List Int} {c : Int} (h0 : 0 ≤ c) (h : ∀ p ∈ ps, getV v p ≤ c) : greatL v ps ≤ c := (greatL_from v ps 0).2.2 c h0 h

theorem set_low {v : List Int} {i : Nat} {x c : Int} (hx : 0 ≤ x ∧ x ≤ c) (hv : ∀ y ∈ v, 0 ≤ y ∧ y ≤ c) : ∀ y ∈ v.set i x, 0 ≤ y ∧ y ≤ c := fun y hy => by
 rcases List.mem_or_eq_of_mem_set hy with h | h
 ·exact hv y h
 ·rw [h]; exact hx
theorem getV_in {v : List Int} {p x : Int} (h : x < getV v p) (hx : 0 ≤ x) : ∃ y, v[p.toNat]? = some y ∧ x < y := by
 unfold getV at h
 rw [List.getD_eq_getElem?_getD] at h
 cases hv : v[p.toNat]? with
 | none => rw [hv] at h; simp at h; omega
 | some y => rw [hv] at h; exact ⟨y, rfl, by simpa using h⟩
theorem getV_low {v : List Int} (hv : ∀ y ∈ v, 0 ≤ y ∧ y ≤ 1000000000) (p : Int) : 0 ≤ getV v p ∧ getV v p ≤ 1000000000 := by
 unfold getV
 rw [List.getD_eq_getElem?_getD]
 cases h : v[p.toNat]? with
 | none => simp
 | some y => exact hv y (List.mem_of_getElem? h)

theorem addsV_spec {x : Int} (hx : 0 ≤ x ∧ x ≤ 1000000000) : ∀ (ps : List Int) (v : List Int), (∀ y ∈ v, 0 ≤ y ∧ y ≤ 1000000000) →
  (addsV x v ps).length = v.length ∧ (∀ y ∈ addsV x v ps, 0 ≤ y ∧ y ≤ 1000000000) ∧ (addsV x v ps = v ∨ weightC (addsV x v ps) < weightC v) ∧ (addsV x v ps = v → ∀ p ∈ ps, getV v p ≤ x)
 | [], v, hv => ⟨rfl, hv, .inl rfl, fun _ _ h => (List.not_mem_nil h).elim⟩
 | p :: r, v, hv => by
  by_cases hlt : x < getV v p
  ·obtain ⟨y, hy, hxy⟩ := getV_in hlt hx.1
   have hw := weightC_set hy hx.1 hxy
   obtain ⟨h1, h2, h3, h4⟩ := addsV_spec hx r (v.set p.toNat x) (set_low hx hv)
   have e : addsV x v (p :: r) = addsV x (v.set p.toNat x) r := by unfold addsV; rw [List.foldl_cons, if_pos hlt]
   rw [e]
   have hl : weightC (addsV x (v.set p.toNat x) r) < weightC v := by
    rcases h3 with h3 | h3
    ·rw [h3]; exact hw
    ·omega
   exact ⟨by rw [h1, List.length_set], h2, .inr hl, fun he => by rw [he] at hl; omega⟩
  ·obtain ⟨h1, h2, h3, h4⟩ := addsV_spec hx r v hv
   have e : addsV x v (p :: r) = addsV x v r := by unfold addsV; rw [List.foldl_cons, if_neg hlt]
   rw [e]
   refine ⟨h1, h2, h3, fun he q hq => ?_⟩
   rcases List.mem_cons.1 hq with rfl | hq
   ·omega
   ·exact h4 he q hq

/-- A way to combine values: never below nothing. -/
def CombOk (comb : List Int → List Int → Int) : Prop := ∀ v ps, (∀ y ∈ v, 0 ≤ y ∧ y ≤ 1000000000) → 0 ≤ comb v ps ∧ comb v ps ≤ 1000000000
theorem comb_great : CombOk greatL := fun v ps hv => ⟨greatL_low v ps, greatL_le (by decide) (fun p _ => (getV_low hv p).2)⟩
theorem sumL_from {v : List Int} (hv : ∀ y ∈ v, 0 ≤ y ∧ y ≤ 1000000000) : ∀ (ps : List Int) (m : Int), 0 ≤ m ∧ m ≤ 1000000000 → 0 ≤ ps.foldl (fun m p => plusI m (getV v p)) m ∧ ps.foldl (fun m p => plusI m (getV v p)) m ≤ 1000000000
 | [], _, h => h
 | p :: r, m, h => by rw [List.foldl_cons]; exact sumL_from hv r _ (plusI_low h.1 (getV_low hv p).1)
theorem comb_sum : CombOk sumL := fun _ ps hv => sumL_from hv ps 0 (by decide)

theorem opsV_spec {comb : List Int → List Int → Int} (hc : CombOk comb) : ∀ (os : List (Opr × Int)) (v : List Int), (∀ o ∈ os, 0 ≤ o.2) → (∀ y ∈ v, 0 ≤ y ∧ y ≤ 1000000000) →
  (opsV comb v os).length = v.length ∧ (∀ y ∈ opsV comb v os, 0 ≤ y ∧ y ≤ 1000000000) ∧ (opsV comb v os = v ∨ weightC (opsV comb v os) < weightC v) ∧ (opsV comb v os = v → ∀ o ∈ os, ∀ p ∈ o.1.add, getV v p ≤ plusI (comb v o.1.pre) o.2)
 | [], v, _, hv => ⟨rfl, hv, .inl rfl, fun _ _ h => (List.not_mem_nil h).elim⟩
 | o :: r, v, ho, hv => by
  have hx := plusI_low (hc v o.1.pre hv).1 (ho o (by simp))
  obtain ⟨a1, a2, a3, a4⟩ := addsV_spec hx o.1.add v hv
  obtain ⟨b1, b2, b3, b4⟩ := opsV_spec hc r (addsV (plusI (comb v o.1.pre) o.2) v o.1.add) (fun o h => ho o (by simp [h])) a2
  have e : opsV comb v (o :: r) = opsV comb (addsV (plusI (comb v o.1.pre) o.2) v o.1.add) r := by unfold opsV; rw [List.foldl_cons]
  rw [e]
  refine ⟨by rw [b1, a1], b2, ?_, fun he => ?_⟩
  ·rcases a3 with a3 | a3
   ·rw [a3] at b3 ⊢; exact b3
   ·rcases b3 with b3 | b3
    ·rw [b3]; exact .inr a3
    ·exact .inr (by omega)
  ·have ha : addsV (plusI (comb v o.1.pre) o.2) v o.1.add = v := by
    rcases a3 with a3 | a3
    ·exact a3
    ·rcases b3 with b3 | b3
     ·rw [← b3]; exact he
     ·rw [he] at b3; omega
   rw [ha] at he b4
   intro q hq p hp
   rcases List.mem_cons.1 hq with rfl | hq
   ·exact a4 ha p hp
   ·exact b4 he q hq p hp

theorem fixV_spec {comb : List Int → List Int → Int} (hc : CombOk comb) {os : List (Opr × Int)} (ho : ∀ o ∈ os, 0 ≤ o.2) : ∀ (n : Nat) (v : List Int), (∀ y ∈ v, 0 ≤ y ∧ y ≤ 1000000000) → weightC v ≤ n →
  (fixV comb os n v).length = v.length ∧ (∀ y ∈ fixV comb os n v, 0 ≤ y ∧ y ≤ 1000000000) ∧ opsV comb (fixV comb os n v) os = fixV comb os n v
 | 0, v, hv, hw => by
  obtain ⟨h1, h2, h3, _⟩ := opsV_spec hc os v ho hv
  unfold fixV
  rcases h3 with h3 | h3
  ·exact ⟨rfl, hv, h3⟩
  ·omega
 | n + 1, v, hv, hw => by
  obtain ⟨h1, h2, h3, _⟩ := opsV_spec hc os v ho hv
  unfold fixV
  by_cases he : opsV comb v os = v
  ·rw [if_pos he]; exact ⟨rfl, hv, he⟩
  ·rw [if_neg he]
   have hl := h3.resolve_left he
   obtain ⟨g1, g2, g3⟩ := fixV_spec hc ho n (opsV comb v os) h2 (by omega)
   exact ⟨by rw [g1, h1], g2, g3⟩
/-- One round on the way. -/
theorem fixV_step {comb : List Int → List Int → Int} (hc : CombOk comb) {os : List (Opr × Int)} (ho : ∀ o ∈ os, 0 ≤ o.2) : ∀ (n : Nat) (v : List Int), (∀ y ∈ v, 0 ≤ y ∧ y ≤ 1000000000) → weightC v ≤ n → fixV comb os n (opsV comb v os) = fixV comb os n v
 | 0, v, hv, hw => by
  rcases (opsV_spec hc os v ho hv).2.2.1 with h | h
  ·rw [h]
  ·omega
 | n + 1, v, hv, hw => by
  by_cases he : opsV comb v os = v
  ·rw [he]
  ·have hl := (opsV_spec hc os v ho hv).2.2.1.resolve_left he
   have h2 := (opsV_spec hc os v ho hv).2.1
   have e1 : fixV comb os (n + 1) v = fixV comb os n (opsV comb v os) := by rw [fixV, if_neg he]
   rw [e1, fixV]
   by_cases h3 : opsV comb (opsV comb v os) os = opsV comb v os
   ·rw [if_pos h3]
    cases n with
    | zero => rfl
    | succ n => rw [fixV, if_pos h3]
   ·rw [if_neg h3]
    exact fixV_step hc ho n (opsV comb v os) h2 (by omega)

theorem addsV_snoc (x : Int) (v ps : List Int) (p : Int) : addsV x v (ps ++ [p]) = if x < getV (addsV x v ps) p then (addsV x v ps).set p.toNat x else addsV x v ps := by unfold addsV; rw [List.foldl_append]; rfl
theorem opsV_snoc (comb : List Int → List Int → Int) (v : List Int) (os : List (Opr × Int)) (o : Opr × Int) : opsV comb v (os ++ [o]) = addsV (plusI (comb (opsV comb v os) o.1.pre) o.2) (opsV comb v os) o.1.add := by unfold opsV; rw [List.foldl_append]; rfl
theorem fixV_done {comb : List Int → List Int → Int} {os : List (Opr × Int)} {v : List Int} (h : opsV comb v os = v) : ∀ n, fixV comb os n v = v
 | 0 => rfl
 | n + 1 => by rw [fixV, if_pos h]

end Go.Proofs.YtdokakhgflljgaaGreat
