/- The statement 'for .. range g' over a function that changes memory of its own between the rounds. deepening.rounds: the searches with rising bounds, one after the other. strips.Contains, Update, Can, Next. strips.Solves, Cost, Play. breadth: BreadthAgreesWithSteps walked. CostOf: the cost of a plan. novelty.Plan. A search by novelty of a width that no state exceeds finds a plan if there is one, in plain words. The reference's BestPlans and BestFault. The reference's BestFault. bothends: what meet's two sides say of the task's plans (plain), and what a search for best plans hands back. astar.Heuristic: a function value that remembers what it has said; astar.Value at the kind that says nothing. astar.Checked, for a kind that is permitted; astar.Heuristic; astar.Admissible. astar.Plan, for a kind whose heuristic is admissible. Rounds until nothing changes, in plain Lean. No condition beyond what each theorem says. -/
import Derived.Test.YtkjmgafnaddhkaaGreatJ1
import Derived.RangeFuncNested
import Derived.Test.YtkjmgafnaddhkaaGreatJ7
import Derived.Sort.LoopGhostIn
import Derived.Test.YtkjmgafnaddhkaaGreatJ5
import Derived.Sort.OwnSortedInts
import Derived.Test.YtkjmgafnaddhkaaGreatJ4
import Derived.Test.YtkjmgafnaddhkaaGreatJ3
import Derived.BigQuiet
import Derived.Test.YtkjmgafnaddhkaaGreatJ6

namespace Go.Proofs.YtkjmgafnaddhkaaGreat
open Go.RowKit

/-- What such a function promises: J stands all of R, what it changes between two rounds; T is what it tells the round; Kp is what the round must keep. -/
def SeqR {α : Type} (F : Fence) (n : Nat) (P : Program) (g : Nat) (lb : Array Value) (encs : α → Array Value) (Kp : α → World → World → Prop) (R : World → World → Prop) (T : List α → α → World → Prop) (S Sp : List α → Prop) (St : World → Prop) : Prop :=
  ∀ (l : Nat) (J Jx : List α → World → Prop) (W : World), St W → (∀ s X Y, J s X → R X Y → J s Y) → (∀ s X Y, Jx s X → R X Y → Jx s Y) →
    (∀ pre x W1, J pre W1 → T pre x W1 → YieldAt F (n - 1) P l (encs x) W1 fun e W' =>
      (e = .returned (.bool true) ∧ J (pre ++ [x]) W' ∧ Kp x W1 W') ∨ (e = .returned (.bool false) ∧ Jx (pre ++ [x]) W')) →
    J [] W → CallsIn F n P g (#[.func (.yield l) #[] #[]] ++ lb) W fun e W' => (∃ v, e = .returned v) ∧ ((∃ xs, S xs ∧ J xs W') ∨ (∃ pre, Sp pre ∧ Jx pre W'))

/-- How a round may be left. -/
def postR (lo : Nat) (K : World → World → Prop) {α : Type} (I : List α → World → Prop) (Ix : Code → List α → World → Prop) (xs : List α) (W : World) : Exit → Act → World → Prop
  | .normal, _, W' => KeepsFrom lo W W' ∧ K W W' ∧ I xs W'
  | .ret, _, W' => KeepsFrom lo W W' ∧ Ix .ret xs W'
  | .exit id, _, W' => KeepsFrom lo W W' ∧ Ix (.exit id) xs W'
  | .goto t, _, W' => KeepsFrom lo W W' ∧ Ix (.goto t) xs W'
  | _, _, _ => False

/-- What stands the turn of a loop's record. -/
def StandsL {β : Type} (lo : Nat) (I : β → World → Prop) : Prop := ∀ s W l r o, lo ≤ l → W.heap[l]? = some (.loop r) → I s W → I s (W.putObj l o)
theorem keeps_putObj (W : World) (l : Nat) (o : Obj) : Keeps (fun k => k = l) W (W.putObj l o) :=
  (Keeps.refl (fun k => k = l) W).grown (grownBy_putObj' W l o) (fun k hk => .inl (by cases hk; rfl))

theorem keepsFrom_cells {S : Nat → Prop} {B : Nat} {W W' : World} (hk : Keeps S W W') (hS : ∀ k, S k → ∃ cs T fr, W.heap[k]? = some (.cells cs T fr)) : KeepsFrom B W W' :=
  ⟨hk.size, fun k o _ ho hc => (hk.block k (Array.getElem?_eq_some_iff.1 ho).1 (fun h => by
    obtain ⟨cs, T, fr, h2⟩ := hS k h
    rw [ho] at h2; cases h2; cases hc)).trans ho⟩
theorem row_isCells {W : World} {base : Nat} {e : TypeId} {size : Nat} {v : Value} {n : Nat} {xs : List Value} (h : W.ownsRow base e size v n xs) {q : Nat} (hq : v.ownBlock = some q) : ∃ cs fr, W.heap[q]? = some (.cells cs e fr) := by
  rcases h.2 with ⟨hv, _⟩ | ⟨g, cap, cur, hv, _, hg, _⟩
  · rw [hv] at hq; cases hq
  · rw [hv] at hq; cases hq; exact ⟨_, _, hg⟩

section
variable {F : Fence} {n : Nat} {P : Program}
theorem wpIn_rangeFunc_R {α : Type} {g : Operand} {ps : Array Tmp} {assign body : Code} {Q : Exit → Act → World → Prop} {a : Act} {w : World}
    (hro : F.round = none) (h1 : 1 ≤ n) {gf : Nat} {lb : Array Value} (hg : a.eval g = .func (.func gf) #[] lb) (hFg : F.fn gf) (eg : ∀ args w, (callFunc gf args).run P w = .ok (.enter gf args) w)
    {encs : α → Array Value} {Kp : α → World → World → Prop} {R : World → World → Prop} {T : List α → α → World → Prop} {S Sp : List α → Prop} {St : World → Prop} (hseq : SeqR F (n - 1) P gf lb encs Kp R T S Sp St)
    (hSt : ∀ o, St ((w.alloc (.deferred (some []))).alloc (.loop o)))
    (hKt : ∀ x A B C, Kp x A B → Kp x B C → Kp x A C) (hKb : ∀ (x : α) (W : World) (l : Nat) (r : Loop) (o : Obj), w.heap.size ≤ l → W.heap[l]? = some (.loop r) → Kp x W (W.putObj l o))
    (hR : ∀ X Y k, R X Y → w.heap.size ≤ k → k < X.heap.size → Y.heap[k]? = X.heap[k]?) (hps : ∀ x, (encs x).size = ps.size)
    (I : List α → World → Prop) (Ix : Code → List α → World → Prop) (hI : StandsL w.heap.size I) (hIx : ∀ c, StandsL w.heap.size (Ix c)) (hIR : ∀ s X Y, I s X → R X Y → I s Y) (hIxR : ∀ c s X Y, Ix c s X → R X Y → Ix c s Y) (hT : ∀ x, StandsL w.heap.size (fun pre W => T pre x W))
    (h0 : ∀ o o', I [] ((w.alloc o).alloc o')) (Ax : α → Act → Prop)
    (hassign : ∀ (l : Nat) (x : α) (W : World) (K : Act → World → Prop), (∀ a', Ax x a' → K a' W) →
      assign.wpIn (F.inRound l) (n - 1 - 1) P (Exit.then K (fun _ _ _ => False)) { tmps := (ps.zip (encs x)).foldl (fun t (p, v) => t.setIfInBounds p v) a.tmps, defers := [] } W)
    (hbody : ∀ (l : Nat) (pre : List α) (x : α) (a' : Act) (W : World), Ax x a' → w.heap.size ≤ l → (∃ r, W.heap[l]? = some (.loop r)) → I pre W → T pre x W → body.wpIn (F.inRound l) (n - 1 - 1) P (postR w.heap.size (Kp x) I Ix (pre ++ [x]) W) a' W)
    (hdone : ∀ (D : Nat) (xs : List α) (W : World), w.heap.size ≤ D → S xs → I xs W → W.heap[D]? = some (.deferred (some [])) → Q .normal { a with defers := { target := .collected D, args := #[] } :: a.defers } W)
    (hstop : ∀ (D : Nat) (c : Code) (pre : List α) (W : World), w.heap.size ≤ D → Sp pre → Ix c pre W → W.heap[D]? = some (.deferred (some [])) → c.wpIn F n P Q { a with defers := { target := .collected D, args := #[] } :: a.defers } W) :
    (Code.rangeFunc g ps assign body).wpIn F n P Q a w := by
  refine wpIn_rangeFunc fun fn hfn => ?_
  rw [hro]
  -- the record of the loop, and the two blocks that the statement lays
  let rec' : LoopState → Option Code → Loop := fun st pe => { state := st, pending := pe, fn, tmps := a.tmps, params := ps, assign, body, defers := w.heap.size }
  obtain ⟨rc, hrc⟩ : ∃ rc, rc = rec' := ⟨_, rfl⟩
  have hb : w.heap.size < (w.alloc (.deferred (some []))).heap.size := by rw [World.size_alloc]; omega
  obtain ⟨V, hV⟩ : ∃ V, (w.alloc (.deferred (some []))).alloc (.loop (rc .ready none)) = V := ⟨_, rfl⟩
  have vl : V.heap[w.heap.size + 1]? = some (.loop (rc .ready none)) := by
    have := World.alloc_heap_new (w.alloc (.deferred (some []))) (.loop (rc .ready none))
    rw [World.size_alloc, hV] at this; exact this
  have vd : V.heap[w.heap.size]? = some (.deferred (some [])) := by
    rw [← hV]; exact (Below.heap_alloc _ _ _ hb).trans (World.alloc_heap_new w _)
  have vI : I [] V := by rw [← hV]; exact h0 _ _
  have vS : St V := by rw [← hV]; exact hSt _
  refine ⟨w.heap.size + 1, [{ target := .collected w.heap.size, args := #[] }], V, { target := .fn (.func gf) lb, args := #[.func (.yield (w.heap.size + 1)) #[] #[]] }, V, gf, #[.func (.yield (w.heap.size + 1)) #[] #[]] ++ lb, V, ?_, ?_, ?_, ?_, fun _ => h1, ?_⟩
  · rw [← hV, hrc]; exact run_enterLoop_outer _ _ _ _ _
  · simp only [resolve, hg]; simp [go_sem]
  · intro f' hf'; simp [Target.leads] at hf'; subst hf'; exact hFg
  · simp [invoke, go_sem, eg]
  have rw1 : ∀ {X Y : World} {o : Obj} {k : Nat}, R X Y → w.heap.size ≤ k → X.heap[k]? = some o → Y.heap[k]? = some o := fun hr hk ho => (hR _ _ _ hr hk (Array.getElem?_eq_some_iff.1 ho).1).trans ho
  refine (hseq (w.heap.size + 1)
    (fun pre W => I pre W ∧ W.heap[w.heap.size + 1]? = some (.loop (rc .ready none)) ∧ W.heap[w.heap.size]? = some (.deferred (some [])))
    (fun pre W => ∃ c, Ix c pre W ∧ W.heap[w.heap.size + 1]? = some (.loop (rc .done (some c))) ∧ W.heap[w.heap.size]? = some (.deferred (some [])))
    V vS (fun s X Y ⟨j1, j2, j3⟩ hr => ⟨hIR s X Y j1 hr, rw1 hr (by omega) j2, rw1 hr (Nat.le_refl _) j3⟩) (fun s X Y ⟨c, j1, j2, j3⟩ hr => ⟨c, hIxR c s X Y j1 hr, rw1 hr (by omega) j2, rw1 hr (Nat.le_refl _) j3⟩) ?_ ⟨vI, vl, vd⟩).mono ?_
  · rintro pre x W ⟨hi, hl, hd⟩ ht
    have hlt : w.heap.size + 1 < W.heap.size := (Array.getElem?_eq_some_iff.1 hl).1
    have hy := run_yield (P := P) (args := encs x) hl (by rw [hrc]; exact hps x)
    rw [hrc] at hy
    refine ⟨fn, _, assign, body, hy, roundIn_of_wpIn hfn (hassign _ x W _ fun a' hax => ⟨_, run_beginRound hl (by rw [hrc]), ?_⟩)⟩
    clear hy
    obtain ⟨busy, hbusy⟩ : ∃ busy : Loop, { rc .ready none with state := .busy } = busy := ⟨_, rfl⟩
    rw [hbusy]
    obtain ⟨X, hX⟩ : ∃ X, W.putObj (w.heap.size + 1) (.loop busy) = X := ⟨_, rfl⟩
    have xl : X.heap[w.heap.size + 1]? = some (.loop busy) := by rw [← hX]; exact World.putObj_heap_same hlt
    have xd : X.heap[w.heap.size]? = some (.deferred (some [])) := by rw [← hX]; exact (World.putObj_heap_other (by omega)).trans hd
    have xk : Kp x W X := by rw [← hX]; exact hKb x _ _ _ _ (by omega) hl
    have xi : I pre X := by rw [← hX]; exact hI _ _ _ _ _ (by omega) hl hi
    have xt : T pre x X := by rw [← hX]; exact hT x pre _ _ _ _ (by omega) hl ht
    rw [hX]
    refine wpIn_mono (hbody _ pre x a' X hax (by omega) ⟨_, xl⟩ xi xt) ?_
    -- the round's end: the record is ready again, or done
    have fin : ∀ (jump : Option Code) (Y : World), KeepsFrom w.heap.size X Y → ∃ Z, (Instr.endRound (w.heap.size + 1) jump).run P Y = .ok (.bool jump.isNone) Z ∧
        Z = Y.putObj (w.heap.size + 1) (.loop (rc (if jump.isNone then .ready else .done) jump)) ∧ Y.heap[w.heap.size + 1]? = some (.loop busy) ∧ Z.heap[w.heap.size + 1]? = some (.loop (rc (if jump.isNone then .ready else .done) jump)) ∧ Z.heap[w.heap.size]? = some (.deferred (some [])) := fun jump Y hk => by
      have yl := hk.same _ _ (by omega) xl rfl
      have yd := hk.same _ _ (Nat.le_refl _) xd rfl
      have e := run_endRound (P := P) jump yl
      rw [← hbusy, hrc] at e
      refine ⟨_, by rw [hrc]; exact e, rfl, yl, World.putObj_heap_same (Array.getElem?_eq_some_iff.1 yl).1, (World.putObj_heap_other (by omega)).trans yd⟩
    rintro e a3 Y hp
    have leave : ∀ {A : Value → World → Prop} (c : Code), KeepsFrom w.heap.size X Y ∧ Ix c (pre ++ [x]) Y → ∃ v Z, (Instr.endRound (w.heap.size + 1) (some c)).run P Y = .ok v Z ∧ (((Ending.returned v : Ending) = .returned (.bool true) ∧ A v Z) ∨ ((Ending.returned v : Ending) = .returned (.bool false) ∧ ∃ c, Ix c (pre ++ [x]) Z ∧ Z.heap[w.heap.size + 1]? = some (.loop (rc .done (some c))) ∧ Z.heap[w.heap.size]? = some (.deferred (some [])))) := fun c ⟨hk, hix⟩ => by
      obtain ⟨Z, hr, hZ, yl, zl, zd⟩ := fin (some c) Y hk
      exact ⟨_, Z, hr, .inr ⟨rfl, c, by rw [hZ]; exact hIx c _ _ _ _ _ (by omega) yl hix, zl, zd⟩⟩
    cases e with
    | normal =>
      obtain ⟨hk, hkp, hi3⟩ := hp
      obtain ⟨Z, hr, hZ, yl, zl, zd⟩ := fin none Y hk
      exact ⟨_, Z, hr, .inl ⟨rfl, ⟨by rw [hZ]; exact hI _ _ _ _ _ (by omega) yl hi3, zl, zd⟩, hKt _ _ _ _ xk (hKt _ _ _ _ hkp (by rw [hZ]; exact hKb x _ _ _ _ (by omega) yl))⟩⟩
    | ret => exact leave .ret hp
    | exit id => exact leave (.exit id) hp
    | goto t => exact leave (.goto t) hp
    | panic ch => exact hp.elim
    | outgrown => exact hp.elim
  · rintro e Y ⟨⟨v, rfl⟩, (⟨xs, hS, hi, hl, hd⟩ | ⟨pre, hSp, c, hi, hl, hd⟩)⟩
    · have e := run_endLoop (P := P) hl (by rw [hrc]; simp [rec'])
      exact ⟨none, _, by rw [hrc] at e; exact e, hdone _ xs _ (Nat.le_refl _) hS (hI _ _ _ _ _ (by omega) hl hi) ((World.putObj_heap_other (by omega)).trans hd)⟩
    · have e := run_endLoop (P := P) hl (by rw [hrc]; simp [rec'])
      exact ⟨some c, _, by rw [hrc] at e; exact e, hstop _ c pre _ (Nat.le_refl _) hSp (hIx c _ _ _ _ _ (by omega) hl hi) ((World.putObj_heap_other (by omega)).trans hd)⟩
end

end Go.Proofs.YtkjmgafnaddhkaaGreat

namespace Go.Proofs.YtkjmgafnaddhkaaGreat
open Go.RowKit Go.Shelf
attribute [local go_sem] Oper.semAt_some

/-- A round: the bound, and the search's record. -/
structure Rdn where
  bd : Int
  rb : Nat
def rdnEnc (x : Rdn) : Array Value := #[.int .i64 x.bd, .pointer (some ⟨x.rb, 0, none⟩)]

/-- What lies between two searches. -/
structure RnM (w00 : World) (I : World → Prop) (bh bw b : Nat) (fn : Value) (lo : Nat) (W : World) : Prop where
  hI : I W
  keep : Keeps (fun _ => False) w00 W
  xh : W.heap[bh]? = some (.cells #[fn] 77 (0, 0))
  xw : W.heap[bw]? = some (.cells #[.pointer (some ⟨b, 0, none⟩)] 71 (0, 0))
  size : lo ≤ W.heap.size
theorem RnM.by {w00 W W' : World} {I : World → Prop} {bh bw b lo : Nat} {fn : Value} {S : Nat → Prop} (h : RnM w00 I bh bw b fn lo W) (hk : Keeps S W W') (hI : I W') (s1 : ¬ S bh) (s2 : ¬ S bw) (hS : ∀ k, S k → w00.heap.size ≤ k) : RnM w00 I bh bw b fn lo W' :=
  ⟨hI, h.keep.trans' hk (fun i hi => .inr (hS i hi)), hk.heap h.xh s1, hk.heap h.xw s2, Nat.le_trans h.size hk.size⟩

/-- What a round is told. -/
def RnT (ops : List Wop) (L : List Nat) (st : Nat) (acc : Nat → Bool) (H : Nat → Int) (lo : Nat) (pre : List Rdn) (x : Rdn) (W : World) : Prop :=
  ∃ (n : Int) (mp mr g : Nat) (P : Nat → Option Int) (par : Nat → Option SArc) (fnd : Bool) (nx : Int), RunTo ops st L acc H (pre.map Rdn.bd) n x.bd ∧ x.bd < 1000000000 ∧ lo ≤ x.rb ∧ lo ≤ mp ∧ lo ≤ mr ∧
    W.heap[x.rb]? = some (.cells #[.map (some mp), .map (some mr), .int .i64 nx, .int .u32 (g : Int), .bool fnd] 84 (0, 0)) ∧ FMap W mp intV P ∧ FMap W mr backV (parF st par) ∧ DeepI ops L st H x.bd P par [] 0 [] ∧ GoalOk acc P fnd g ∧ NextOk ops H x.bd (costP P) nx
/-- What a round must keep. -/
def RnK (w00 : World) (I : World → Prop) (bh bw b : Nat) (fn : Value) (lo : Nat) (x : Rdn) (W W' : World) : Prop :=
  (RnM w00 I bh bw b fn lo W → RnM w00 I bh bw b fn lo W') ∧ ∀ cs T fr, W.heap[x.rb]? = some (.cells cs T fr) → W'.heap[x.rb]? = some (.cells cs T fr)
theorem RnK.trans {w00 : World} {I : World → Prop} {bh bw b lo : Nat} {fn : Value} (x : Rdn) (A B C : World) (h : RnK w00 I bh bw b fn lo x A B) (k : RnK w00 I bh bw b fn lo x B C) : RnK w00 I bh bw b fn lo x A C :=
  ⟨fun h' => k.1 (h.1 h'), fun _ _ _ h' => k.2 _ _ _ (h.2 _ _ _ h')⟩
/-- The rounds have come to their end. -/
def RnS (ops : List Wop) (L : List Nat) (st : Nat) (acc : Nat → Bool) (H : Nat → Int) (xs : List Rdn) : Prop := ∃ n fnd b, RunEnd ops st L acc H (xs.map Rdn.bd) n fnd b

theorem RunTo.low0 {ops : List Wop} {st : Nat} {L : List Nat} {acc : Nat → Bool} {H : Nat → Int} (h0 : 0 ≤ H st) {bs : List Int} {n b : Int} (h : RunTo ops st L acc H bs n b) : 0 ≤ b := by
  obtain ⟨_, h2, h3, h4⟩ := h.rise
  by_cases he : bs = []
  · rw [h4 he]; exact h0
  · have h5 := h2 _ (List.mem_of_mem_head? (h3 he)); omega

set_option maxRecDepth 100000 in
set_option maxHeartbeats 4000000 in
theorem rounds1_in (n : Nat) (hn : 1 ≤ n) (w00 : World) (b st g0 base : Nat) (v : Value) (ops : List Wop) (L : List Nat) (H : Nat → Int) (gh : Nat) (pa cb : Array Value) (FH : Nat → Prop) (I : World → Prop) (bh bw lo : Nat)
    (hw : WordsAt w00 base b st g0 v ops) (hops : WopsOk ops) (hmany : ops.length ≤ 40) (hg0 : g0 < 4294967296) (hsh : Shut ops L) (hfew : L.length ≤ 2000) (hL32 : ∀ x ∈ L, x < 4294967296) (hcost : ∀ o ∈ ops, 0 ≤ o.cost ∧ o.cost ≤ 100) (hst : st ∈ L)
    (hh : Heur gh pa cb L H w00.heap.size lo FH I) (hH : ∀ x ∈ L, 0 ≤ H x ∧ H x ≤ 1000000000) (hFh : ¬ FH bh) (hFw : ¬ FH bw) :
    SeqR Fence.wide n Tryz.prog 75 #[.pointer (some ⟨bh, 0, none⟩), .pointer (some ⟨bw, 0, none⟩)] rdnEnc (RnK w00 I bh bw b (.func (.func gh) pa cb) lo) (Keeps FH) (RnT ops L st (goalB g0) H lo) (RnS ops L st (goalB g0) H) (fun _ => True) (RnM w00 I bh bw b (.func (.func gh) pa cb) lo) := by
  intro l J Jx W hM hJ hJx hY hJ0
  have eg := hh.enters
  have HW := Lib.hid hw; have HH := Lib.hid hh; have HST := Lib.hid hst; have HHB := Lib.hid hH; have HCO := Lib.hid hcost
  have HSR : Hid (∀ (W : World) (bd : Int), RnM w00 I bh bw b (.func (.func gh) pa cb) lo W → 0 ≤ bd → bd < 1000000000 → Calls Tryz.prog 76 #[.pointer (some ⟨b, 0, none⟩), .func (.func gh) pa cb, .int .i64 bd] W (SrchPost ops L st (goalB g0) H bd W FH I)) :=
    Lib.hid (fun W bd h h0 h1 => callsIn_wide.1 (srch_in w00 W b st g0 base v ops L H gh pa cb FH I bd hw h.keep hops hmany hg0 hsh hfew hL32 hcost hst (hh.mono h.size) h.hI hH ⟨h0, h1⟩))
  have HM := Lib.hid hM; have HJ := Lib.hid hJ; have HJX := Lib.hid hJx; have HY := Lib.hid hY; have HJ0 := Lib.hid hJ0
  have l1 := lt_of_heap hM.xh
  have l2 := lt_of_heap hM.xw
  clear hcost hw hh hst hH hM hJ hJx hY hJ0 hsh hL32 hops
  refine callsIn_of_wp Tryz.func75 rfl trivial ?_ rfl
  simp only [Tryz.ntmps75, List.size_toArray, List.length_cons, List.length_nil, Nat.reduceAdd, Nat.reduceSub, Array.replicate_succ, Array.replicate_zero, List.push_toArray, List.append_toArray, List.nil_append, List.cons_append]
  have KD : Keeps (fun _ => False) W W.drew := (Keeps.refl _ W).drew
  have HMD := Lib.hid (HM.out.by KD (HH.out.steady HM.out.hI KD (fun _ h => h.elim)) (fun h => h) (fun h => h) (fun _ h => h.elim))
  have c1 : W.drew.cell? ⟨bh, 0, none⟩ = some (.func (.func gh) pa cb) := (cell_of_blk HMD.out.xh).trans rfl
  have c2 : W.drew.cell? ⟨bw, 0, none⟩ = some (.pointer (some ⟨b, 0, none⟩)) := (cell_of_blk HMD.out.xw).trans rfl
  have HKD := Lib.hid KD
  clear KD
  gi_wp2
  refine wpIn_wide.2 ?_
  go_region_with (first
    | (go_at_call 51; refine (start_any _ _ _ _ _ _ _ (HW.out.past HMD.out.keep)).mono ?_; rintro e wq ⟨rfl, rfl⟩)
    | (refine (HH.out.answers _ _ HMD.out.hI HST.out).mono ?_; rintro e w2 ⟨rfl, hI2, hk2⟩))
  all_goals
    have HJ2 := Lib.hid (HJ.out _ _ _ HJ0.out (((HKD.out.mono (fun _ _ h => h.elim)).trans hk2) : Keeps FH W w2))
    have HM2 := Lib.hid (HMD.out.by hk2 hI2 hFh hFw (fun k hk => (HH.out.lo k hk).1))
    clear hI2 hk2 HM HMD HJ0 HKD c1 c2 l1 l2
    gi_wp2
    refine wpIn_loop_ghost (fun m a' wr => ∃ (pre : List Rdn) (bd k : Int), J pre wr ∧ RnM w00 I bh bw b (.func (.func gh) pa cb) lo wr ∧ RunTo ops st L (goalB g0) H (pre.map Rdn.bd) k bd ∧ m = (1000000000 - bd).toNat ∧ ∃ u : Nat → Value, a' = { tmps := #[.func (.yield l) #[] #[], .pointer (some ⟨bh, 0, none⟩), .pointer (some ⟨bw, 0, none⟩), u 3, .int .i64 bd, u 5, u 6, u 7, u 8, u 9, u 10, u 11, u 12, u 13, u 14, u 15, u 16, u 17, u 18, u 19, u 20, u 21, u 22, u 23, u 24, u 25, u 26, u 27, u 28, u 29, u 30], defers := [] }) ((1000000000 - H st).toNat) ?start1 ?round1
    case start1 => exact ⟨[], H st, 0, HJ2.out, HM2.out, .start, rfl, ex_fnD rfl⟩
    case round1 =>
      rintro m a wr ⟨pre, bd, k, hJp, hMp, hrun, hm, u, rfl⟩
      have hb0 := hrun.low0 (HHB.out st HST.out).1
      have HJP := Lib.hid hJp; have HMP := Lib.hid hMp; have HRUN := Lib.hid hrun
      have c1 : wr.cell? ⟨bh, 0, none⟩ = some (.func (.func gh) pa cb) := (cell_of_blk hMp.xh).trans rfl
      have c2 : wr.cell? ⟨bw, 0, none⟩ = some (.pointer (some ⟨b, 0, none⟩)) := (cell_of_blk hMp.xw).trans rfl
      have l1 := lt_of_heap hMp.xh
      have l2 := lt_of_heap hMp.xw
      clear hJp hMp hrun HJ2 HM2
      by_cases hlt : bd < 1000000000
      · gi_wp2
        refine ⟨trivial, ?_⟩
        refine (callsIn_wide.2 (HSR.out wr bd HMP.out hb0 hlt)).mono ?_
        rintro e w3 ⟨hk3, hI3, rb, mp, mr, g, P, par, fnd, nx, rfl, r1, r2, r3, hrb, hfp, hfr, hdp, hgo, hnx⟩
        have HJ3 := Lib.hid (HJ.out _ _ _ HJP.out hk3)
        have HM3 := Lib.hid (HMP.out.by hk3 hI3 hFh hFw (fun k hk => (HH.out.lo k hk).1))
        have hgt := hnx.gt hlt
        have hsz := HMP.out.size
        have HT3 := Lib.hid (show RnT ops L st (goalB g0) H lo pre ⟨bd, rb⟩ w3 from ⟨k, mp, mr, g, P, par, fnd, nx, HRUN.out, hlt, by show lo ≤ rb; omega, by omega, by omega, hrb, hfp, hfr, hdp, hgo, hnx⟩)
        have HRB := Lib.hid hrb; have HDP := Lib.hid hdp; have HGO := Lib.hid hgo; have HNX := Lib.hid hnx
        have HC := Lib.hid hlt
        obtain ⟨fn, tmps, assign, body, hy, hR⟩ := HY.out pre ⟨bd, rb⟩ w3 HJ3.out HT3.out
        simp only [rdnEnc] at hy
        have HR := Lib.hid hR
        clear hk3 hI3 r1 r2 r3 hrb hfp hfr hdp hgo hnx hR c1 c2 l1 l2 HJP HMP
        gi_wp2
        refine HR.out.mono ?_
        rintro e w4 (⟨rfl, hJ4, hk4⟩ | ⟨rfl, hJx4⟩)
        · have HJ4 := Lib.hid hJ4; have HM4 := Lib.hid (hk4.1 HM3.out); have HRB4 := Lib.hid (hk4.2 _ _ _ HRB.out)
          have q4 : w4.cell? ⟨rb, 4, none⟩ = some (.bool fnd) := (cell_of_blk HRB4.out).trans rfl
          have q2 : w4.cell? ⟨rb, 2, none⟩ = some (.int .i64 nx) := (cell_of_blk HRB4.out).trans rfl
          have ql := lt_of_heap HRB4.out
          have HRND := Lib.hid ((HDP.out.done HCO.out hfew).rnd)
          have HEN := Lib.hid (HGO.out.ends HDP.out.dom)
          clear hJ4 hk4 HM3 HJ3 HT3 hy HR
          cases fnd with
          | true =>
            have HS := Lib.hid (show RnS ops L st (goalB g0) H (pre ++ [⟨bd, rb⟩]) from ⟨_, true, bd, .inr ⟨rfl, HC.out, pre.map Rdn.bd, k, _, HRUN.out, HRND.out, HEN.out, by rw [List.map_append]; rfl, rfl⟩⟩)
            gi_wp2
            refine bodyPost_ret (results_none rfl _ _ _) rfl ?_
            exact ⟨⟨_, rfl⟩, .inl ⟨_, HS.out, HJ4.out⟩⟩
          | false =>
            gi_wp2
            exact ⟨_, by omega, pre ++ [⟨bd, rb⟩], nx, _, HJ4.out, HM4.out, by rw [List.map_append]; exact .step HRUN.out HC.out HRND.out HEN.out HNX.out, rfl, ex_fnD rfl⟩
        · have HJ4 := Lib.hid hJx4
          clear hJx4 HM3 HJ3 HT3 hy HR
          gi_wp2
          refine bodyPost_ret (results_none rfl _ _ _) rfl ?_
          exact ⟨⟨_, rfl⟩, .inr ⟨_, trivial, HJ4.out⟩⟩
      · have HS := Lib.hid (show RnS ops L st (goalB g0) H pre from ⟨k, false, bd, .inl ⟨rfl, HRUN.out, by omega⟩⟩)
        gi_wp2
        go_end0
        exact ⟨⟨_, rfl⟩, .inl ⟨pre, HS.out, HJP.out⟩⟩

end Go.Proofs.YtkjmgafnaddhkaaGreat

namespace Go.Proofs.YtkjmgafnaddhkaaGreat
open Go.RowKit Go.Sort Go.Proofs

/-! ### Contains -/
def Behind (s : List Int) (x : Int) (i : Nat) : Prop := i ≤ s.length ∧ ∀ j y, j < i → s[j]? = some y → y < x
theorem behind_end {s : List Int} {x : Int} {i : Nat} (h : Behind s x i) (hi : s.length ≤ i) : x ∉ s := fun hm => by
  obtain ⟨j, hj⟩ := List.mem_iff_getElem?.1 hm
  have := (List.getElem?_eq_some_iff.1 hj).1
  have := h.2 j x (by omega) hj
  omega
theorem behind_not {s : List Int} (hs : s.Pairwise (· < ·)) {x y : Int} {i : Nat} (h : Behind s x i) (hy : s[i]? = some y) (hxy : x < y) : x ∉ s := fun hm => by
  obtain ⟨j, hj⟩ := List.mem_iff_getElem?.1 hm
  by_cases hji : j < i
  · have := h.2 j x hji hj; omega
  · obtain ⟨hjl, ej⟩ := List.getElem?_eq_some_iff.1 hj
    obtain ⟨hil, ei⟩ := List.getElem?_eq_some_iff.1 hy
    rcases Nat.lt_or_ge i j with h2 | h2
    · have := List.pairwise_iff_getElem.1 hs i j hil hjl h2; omega
    · have : i = j := by omega
      subst this; omega
theorem subB_false {a b : List Int} {x : Int} (hx : x ∈ a) (hn : x ∉ b) : subB a b = false := by
  unfold subB; rw [List.all_eq_false]; exact ⟨x, hx, by simp [hn]⟩

set_option maxHeartbeats 1000000 in
theorem contains_any (w : World) (vs vp : Value) (s part : List Int) (hs : Ints w vs s) (hp : Ints w vp part) (ss : s.Pairwise (· < ·)) (sp : part.Pairwise (· < ·)) :
    Calls Tryz.prog 129 #[vs, vp] w fun e w' => e = .returned (.bool (subB part s)) ∧ w = w' := by
  obtain ⟨ao, ca, h1, ma⟩ := hs.form
  obtain ⟨po, cp, h2, mp⟩ := hp.form
  have CS := Lib.hid (hs.cell h1); have CP := Lib.hid (hp.cell h2); have SS := Lib.hid ss; have SP := Lib.hid sp
  subst h1 h2
  clear hs hp ss sp
  go_enter Tryz.func129, Tryz.ntmps129
  go_wp2_with fail
  go_loop [5, 10] (fun v5 v10 => ∃ k i : Nat, k ≤ part.length ∧ v10 = .int .i64 (k : Int) ∧ v5 = .int .i64 (i : Int) ∧ i ≤ s.length ∧ subB (part.take k) s = true ∧ ∀ x, part[k]? = some x → Behind s x i) (fun _ v10 => part.length - (intOf v10).toNat)
  case atStart => exact ⟨0, 0, Nat.zero_le _, rfl, rfl, Nat.zero_le _, rfl, fun x _ => ⟨Nat.zero_le _, fun j _ hj => by omega⟩⟩
  case round =>
    obtain ⟨k, i, hk, rfl, rfl, hi, ht, hb⟩ := hrel
    have HT := Lib.hid ht; have HB := Lib.hid hb
    clear ht hb
    by_cases hlt : k < part.length
    · obtain ⟨bp, op, rfl, hc⟩ := CP.out (by omega)
      obtain ⟨x, hx⟩ : ∃ x, part[k]? = some x := ⟨_, List.getElem?_eq_getElem hlt⟩
      have hcx := hc k _ hx
      have HX := Lib.hid hx
      have HB0 := Lib.hid (HB.out x hx)
      clear hc hx HB
      go_wp2_with fail
      go_loop [5] (fun v5 => ∃ i : Nat, v5 = .int .i64 (i : Int) ∧ Behind s x i) (fun v5 => s.length - (intOf v5).toNat)
      case atStart => exact ⟨i, rfl, HB0.out⟩
      case round =>
        obtain ⟨i, rfl, hb⟩ := hrel
        have hil := hb.1
        have HB := Lib.hid hb
        clear hb
        by_cases hin : i < s.length
        · obtain ⟨bs, os, rfl, hc⟩ := CS.out (by omega)
          obtain ⟨y, hy⟩ : ∃ y, s[i]? = some y := ⟨_, List.getElem?_eq_getElem hin⟩
          have hcy := hc i _ hy
          have HY := Lib.hid hy
          clear hc hy
          by_cases hyx : y < x
          · have HB1 : Hid (Behind s x (i + 1)) := by
              unfold Hid
              refine ⟨by omega, fun j z hj hz => ?_⟩
              rcases Nat.lt_or_ge j i with h | h
              · exact HB.out.2 j z h hz
              · have : j = i := by omega
                subst this
                rw [HY.out] at hz; cases hz; exact hyx
            go_wp2_with fail
            go_round
            case rel => exact ⟨i + 1, by go_num, HB1.out⟩
            case measure => simp [intOf]; omega
          · by_cases hne : y = x
            · subst hne
              have HN : Hid (subB (part.take (k + 1)) s = true) := by
                unfold Hid
                rw [take_getS HX.out]
                have := HT.out
                unfold subB at this ⊢
                rw [List.all_append, this]
                simp [List.mem_of_getElem? HY.out]
              have HB2 : Hid (∀ z, part[k + 1]? = some z → Behind s z i) := by
                unfold Hid
                intro z hz
                obtain ⟨l1, e1⟩ := List.getElem?_eq_some_iff.1 HX.out
                obtain ⟨l2, e2⟩ := List.getElem?_eq_some_iff.1 hz
                have := List.pairwise_iff_getElem.1 SP.out k (k + 1) l1 l2 (by omega)
                refine ⟨HB.out.1, fun j u hj hu => ?_⟩
                have := HB.out.2 j u hj hu
                omega
              have hd1 : decide (y < y) = false := by simp
              have hd2 : (y != y) = false := by simp
              clear hyx
              go_wp2_with fail
              go_round
              case rel => exact ⟨k + 1, i, by omega, by go_num, rfl, hil, HN.out, HB2.out⟩
              case measure => simp [intOf]; omega
            · have hf : Hid (subB part s = false) := by
                unfold Hid
                exact subB_false (List.mem_of_getElem? HX.out) (behind_not SS.out HB.out HY.out (by omega))
              have hd1 : decide (y < x) = false := by simpa using hyx
              have hd2 : (y != x) = true := by simpa using hne
              clear hyx hne
              go_wp2_with fail
              go_ret
              exact ⟨congrArg (fun b => Ending.returned (Value.bool b)) hf.out.symm, rfl⟩
        · have hf : Hid (subB part s = false) := by
            unfold Hid
            exact subB_false (List.mem_of_getElem? HX.out) (behind_end HB.out (by omega))
          have hie : i = s.length := by omega
          subst hie
          clear hin hil
          go_wp2_with fail
          go_ret
          exact ⟨congrArg (fun b => Ending.returned (Value.bool b)) hf.out.symm, rfl⟩
    · have hf : Hid (subB part s = true) := by
        unfold Hid
        have := HT.out
        rwa [List.take_of_length_le (by omega)] at this
      go_wp2_with fail
      go_ret
      exact ⟨congrArg (fun b => Ending.returned (Value.bool b)) hf.out.symm, rfl⟩

/-! ### the library's Sort and Compact over a row of the call's own -/
theorem sortI_any (w : World) (base : Nat) (v : Value) (l : List Int) (hown : w.ownsRow base 3 1 v l.length (l.map (Value.int .i64))) (hlen : l.length < 4611686018427387904) :
    Calls Tryz.prog 161 #[v] w fun e w' => e = .returned (.tuple #[]) ∧ w'.ownsRow base 3 1 v l.length ((l.mergeSort fun x y => decide (x ≤ y)).map (Value.int .i64)) ∧ Keeps (fun b => v.ownBlock = some b) w w' := by
  rcases hown.2 with ⟨rfl, h0⟩ | ⟨g, cap, cur, rfl, hb, hg, hn, hm, hs, ht⟩
  · have hz : l = [] := List.length_eq_zero_iff.1 h0
    subst hz
    refine (Tryz.slices_Sort_int_none none 0 w).mono ?_
    rintro e w' ⟨rfl, rfl⟩
    exact ⟨rfl, by simpa using World.ownsRow_nil _ _ _ _, Keeps.refl _ _⟩
  · have ht' : cur.toList.take l.length = l.map (Value.int .i64) := by simpa using ht
    refine (Tryz.slices_Sort_int g 0 cap l w (holds_of_blockI hg ht') (lt_of_heap hg) hlen).mono ?_
    rintro e w' ⟨rfl, n, os, rfl⟩
    exact ⟨rfl, ownsRow_sortedI (by simp) hb hg hn hm hs, (steady_keeps (grownBy_sortedI _)).mono (fun i _ h => by cases h; rfl)⟩

theorem keeps_putRow {w : World} {g q : Nat} (d : Array Int) : Keeps (fun b => b = g) w (putRow (Value.int .i64) (Sort.ahead w q) g 0 d) := by
  refine ⟨rfl, rfl, rfl, by simp [putRow, mapBlock, Sort.ahead], fun k _ hne => ?_⟩
  have : g ≠ k := fun e => hne e.symm
  simp [putRow, mapBlock, Sort.ahead, Array.getElem?_modify, this]
theorem heap_putRow {w : World} {g q : Nat} {cur : Array Value} {e : TypeId} {fr : Nat × Nat} (d : Array Int) (hb : w.heap[g]? = some (.cells cur e fr)) :
    (putRow (Value.int .i64) (Sort.ahead w q) g 0 d).heap[g]? = some (.cells (putCells (Value.int .i64) 0 d cur) e fr) := by
  simp [putRow, mapBlock, Sort.ahead, Array.getElem?_modify, hb, onCells]

theorem compactI_any (w : World) (base : Nat) (v : Value) (l : List Int) (hown : w.ownsRow base 3 1 v l.length (l.map (Value.int .i64))) (hlen : l.length < 4611686018427387904) :
    Calls Tryz.prog 162 #[v] w fun e w' => ∃ v', e = .returned v' ∧ w'.ownsRow base 3 1 v' (Lib.compact l).length ((Lib.compact l).map (Value.int .i64)) ∧ v'.ownBlock = v.ownBlock ∧ Keeps (fun b => v.ownBlock = some b) w w' := by
  rcases hown.2 with ⟨rfl, h0⟩ | ⟨g, cap, cur, rfl, hb, hg, hn, hm, hs, ht⟩
  · have hz : l = [] := List.length_eq_zero_iff.1 h0
    subst hz
    refine (Tryz.slices_Compact_int_empty none 0 w).mono ?_
    rintro e w' ⟨rfl, rfl⟩
    exact ⟨_, rfl, by simpa [Lib.compact, Lib.compactUpTo] using World.ownsRow_nil _ _ _ _, rfl, Keeps.refl _ _⟩
  · have ht' : cur.toList.take l.length = l.map (Value.int .i64) := by simpa using ht
    have hcl := Lib.compact_length_le l
    refine (Tryz.slices_Compact_int g 0 cap l w (holds_of_blockI hg ht') (by omega) hn).mono ?_
    rintro e w' ⟨rfl, q, rfl⟩
    have hsz : cur.size = cap := by simpa using hs
    have htk := take_putCellsI cur (Lib.compact l ++ List.replicate (l.length - (Lib.compact l).length) 0) (by simp; omega)
    refine ⟨_, rfl, ⟨by simp, .inr ⟨g, cap, _, rfl, hb, heap_putRow _ hg, by omega, hm, by simp [putCells, hs], ?_⟩⟩, rfl, (keeps_putRow _).mono (fun i _ h => by cases h; rfl)⟩
    have := congrArg (List.take (Lib.compact l).length) htk
    rw [List.take_take, List.map_append, List.take_left' (by simp)] at this
    rw [Nat.mul_one]
    rw [Nat.min_eq_left (by simp)] at this
    exact this

/-! ### an append of whatever slice -/
section
variable {P : Program} {w : World}
theorem run_appendS_zero (base : Nat) (t ty e : TypeId) (i : TypeInfo) (size : Nat) (ht : P.underlying t = some (.slice e)) (hi : P.info? e = some i)
    (v : Value) (n : Nat) (xs : List Value) (hown : w.ownsRow base e size v n xs) (ao : Option Addr) (c : Nat) :
    (Builtin.append_ #[t, t] ty #[v, .slice ao 0 c]).run P w = .ok v w := by
  rcases hown.2 with ⟨rfl, rfl⟩ | ⟨g, cap, cur, rfl, _, _, hnc, _⟩
  · cases ao <;> simp [Builtin.append_, run_underlying ht, sizeOf, typeInfo, hi, Builtin.lenOf, Builtin.firstCells, loadCells, loadCellsFrom]
  · cases ao <;> simp [Builtin.append_, run_underlying ht, sizeOf, typeInfo, hi, Builtin.lenOf, Builtin.firstCells, hnc, storeCells, loadCells, loadCellsFrom]
theorem wpList_appendS_zero {ops : Array Oper} {rest : List Oper} {o : Oper} {a : Act} {Q : Exit → Act → World → Prop} (hgd : o.guard = none) (s x : Operand) (t : TypeId)
    (ho : o.op = .call { callee := .builtin .append, args := #[s, x], argTypes := #[t, t] })
    (base : Nat) (e : TypeId) (i : TypeInfo) (size : Nat) (ht : P.underlying t = some (.slice e)) (hi : P.info? e = some i)
    (v : Value) (n : Nat) (xs : List Value) (hs : a.eval s = v) (hown : w.ownsRow base e size v n xs) (ao : Option Addr) (c : Nat) (hx : a.eval x = .slice ao 0 c)
    (h : wpList P ops Q rest (a.put o.dst v) w) : wpList P ops Q (o :: rest) a w := by
  refine wpList_plain hgd fun K hK => ?_
  have hrun := run_appendS_zero (P := P) (w := w) base t o.type e i size ht hi v n xs hown ao c
  unfold Oper.wp
  simp [execOp, ho, resolve, invoke, builtin, hs, hx, hrun, Result.andThen]
  exact hK _ _ h
theorem grownBy_refl (w : World) (row : Option Nat) : w.grownBy w row := ⟨rfl, rfl, rfl, Nat.le_refl _, fun _ _ _ => rfl⟩
/-- append(out, x...) to a row of the call's own, x whatever slice. -/
theorem wpList_append_src {ops : Array Oper} {rest : List Oper} {o : Oper} {a : Act} {Q : Exit → Act → World → Prop} (hgd : o.guard = none) (s x : Operand) (t : TypeId)
    (ho : o.op = .call { callee := .builtin .append, args := #[s, x], argTypes := #[t, t] })
    (base : Nat) (e : TypeId) (i : TypeInfo) (z : Value) (bytes : Nat) (ht : P.underlying t = some (.slice e)) (hi : P.info? e = some i) (hz : i.zero = some z)
    (hsize : i.size = 1) (hby : i.bytes = bytes) (hzs : z.cells.size = 1)
    (v : Value) (n : Nat) (xs : List Value) (hs : a.eval s = v) (hown : w.ownsRow base e 1 v n xs)
    (vx : Value) (m : Nat) (news : List Value) (hx : a.eval x = vx) (hsl : Sl w vx m news) (hl : news.length = m) (h1 : ∀ u ∈ news, u.oneCell' = true)
    (h63 : n + m ≤ maxLen) (hbytes : (n + m) * bytes ≤ 140737488355328) (hbase : base ≤ w.heap.size)
    (h : ∀ v' w', w'.ownsRow base e 1 v' (n + m) (xs ++ news) → w.grownBy w' v.ownBlock → (∀ g, v'.ownBlock = some g → v.ownBlock = some g ∨ w.heap.size ≤ g) → w.drawn ≤ w'.drawn → wpList P ops Q rest (a.put o.dst v') w') : wpList P ops Q (o :: rest) a w := by
  obtain ⟨ao, c, rfl, hm, hc⟩ := hsl
  rcases Nat.eq_zero_or_pos m with h0 | h0
  · subst h0
    have : news = [] := List.length_eq_zero_iff.1 hl
    subst this
    refine wpList_appendS_zero hgd s x t ho base e i 1 ht hi v n xs hs hown ao c hx (h v w (by simpa using hown) (grownBy_refl w _) (fun g hg => .inl hg) (Nat.le_refl _))
  · obtain ⟨b, off, rfl, hcell⟩ := hc h0
    refine wpList_append_d hgd s x t ho base e i z 1 bytes ht hi hz hsize hby hzs (by omega) v n xs hs hown ⟨b, off, none⟩ m c news hx (by omega) (fun j u hj => by
      have h := hcell j u hj
      by_cases hj0 : j = 0
      · subst hj0; simpa [Addr.add] using h
      · simpa [Addr.add, hj0] using h) h1 h0 h63 hbytes hbase w.heap.size rfl fun g cap w' h2 h3 h4 _ h6 => h _ w' h2 h3 (fun k hk => ?_) h6
    rcases h4 with h4 | h4
    · left; rw [h4]; exact hk
    · right; cases (show some g = some k from hk); omega
end

/-! ### Update -/
def sansL (s del : List Int) : List Int := s.filter fun x => !decide (x ∈ del)
theorem sansL_step {s del : List Int} {k : Nat} {x : Int} (hx : s[k]? = some x) : sansL (s.take (k + 1)) del = if x ∈ del then sansL (s.take k) del else sansL (s.take k) del ++ [x] := by
  unfold sansL
  rw [take_getS hx, List.filter_append]
  by_cases h : x ∈ del <;> simp [h]
theorem sansL_le (s del : List Int) (k : Nat) : (sansL (s.take k) del).length ≤ k := by
  unfold sansL
  have := List.length_filter_le (fun x => !decide (x ∈ del)) (s.take k)
  have := List.length_take_le k s
  omega

set_option maxRecDepth 100000 in
set_option maxHeartbeats 1000000 in
theorem update_any (w : World) (vs va vd : Value) (s add del : List Int) (hs : Ints w vs s) (ha : Ints w va add) (hd : Ints w vd del) (sd : del.Pairwise (· < ·)) (ls : s.length ≤ 1000) (la : add.length ≤ 1000) (ld : del.length ≤ 1000) :
    Calls Tryz.prog 157 #[vs, va, vd] w fun e w' => ∃ v, e = .returned v ∧ w'.ownsRow w.heap.size 3 1 v (updL s add del).length ((updL s add del).map (Value.int .i64)) ∧ Keeps (fun _ => False) w w' := by
  obtain ⟨i0, hi0, hz0, hz1, hz2⟩ := info_parts Tryz.info3
  obtain ⟨ao, ca, h1, _⟩ := hs.form
  obtain ⟨bo, cb, h2, _⟩ := ha.form
  obtain ⟨co, cc, h3, _⟩ := hd.form
  have CS := Lib.hid (hs.cell h1); have HA := Lib.hid ha; have HD := Lib.hid hd; have SD := Lib.hid sd
  subst h1 h2 h3
  clear hs ha hd sd
  go_enter Tryz.func157, Tryz.ntmps157
  go_wp2_with fail
  go_loopw [7, 14] (fun v7 v14 wr => ∃ k : Nat, k ≤ s.length ∧ v14 = .int .i64 (k : Int) ∧ wr.ownsRow w.heap.size 3 1 v7 (sansL (s.take k) del).length ((sansL (s.take k) del).map (Value.int .i64)) ∧ Keeps (fun _ => False) w wr) (fun _ v14 _ => s.length - (intOf v14).toNat)
  case atStart => exact ⟨0, Nat.zero_le _, rfl, World.ownsRow_nil _ _ _ _, Keeps.refl _ _⟩
  case round =>
    obtain ⟨k, hk, rfl, hown, hkw⟩ := hrel
    have HO := Lib.hid hown; have KW := Lib.hid hkw
    have hle := sansL_le s del k
    obtain ⟨av, cv, hv⟩ := ownsRow_form1 hown
    subst hv
    clear hown hkw
    by_cases hlt : k < s.length
    · obtain ⟨bs, os, rfl, hc⟩ := CS.out (by omega)
      obtain ⟨x, hx⟩ : ∃ x, s[k]? = some x := ⟨_, List.getElem?_eq_getElem hlt⟩
      have hcx := KW.out.cell (hc k _ hx) (fun h => h)
      have HST := Lib.hid (sansL_step (del := del) hx)
      clear hc hx
      go_wp2_with fail
      refine (bsearch_any _ _ _ x (HD.out.keeps0 KW.out) SD.out (by omega)).mono ?_; rintro e w2 ⟨j, rfl, q, rfl⟩
      have KQ := Lib.hid (KW.out.drewN q)
      have HOQ := Lib.hid (((Keeps.refl (fun _ => False) wr).drewN q).ownsRow HO.out (fun _ _ h => h))
      clear hcx HO KW
      generalize wr.drewN q = wq at KQ HOQ ⊢
      have hsz := KQ.out.size
      by_cases hm : x ∈ del
      · have HE := Lib.hid (show sansL (s.take (k + 1)) del = sansL (s.take k) del by rw [HST.out, if_pos hm])
        rw [decide_eq_true hm]
        clear hm
        go_wp2_with fail
        go_roundw
        case rel => exact ⟨k + 1, by omega, by go_num, by rw [HE.out]; exact HOQ.out, KQ.out⟩
        case measure => simp only [intOf]; omega
      · have HE := Lib.hid (show sansL (s.take (k + 1)) del = sansL (s.take k) del ++ [x] by rw [HST.out, if_neg hm])
        rw [decide_eq_false hm]
        clear hm
        go_wp2_with (at_builtin; refine wpList_append_d rfl _ _ _ rfl w.heap.size 3 i0 _ 1 8 Tryz.underlying22 hi0 hz0 hz1 hz2 rfl (by omega) _ (sansL (s.take k) del).length ((sansL (s.take k) del).map (Value.int .i64)) (by rfl) (World.ownsRow.alloc HOQ.out (.cells #[.int .i64 x] 3)) ⟨wq.heap.size, 0, none⟩ 1 1 [.int .i64 x] (by rfl) (by rfl) (World.news_of_block (cs := #[.int .i64 x]) (t := 3) (fr := (0, 0)) (heap_alloc_new _ _)) (by simp [Value.oneCell']) (by omega) (by unfold maxLen; omega) (by omega) (by simp; omega) (wq.heap.size + 1) (by simp) ?_)
        intro gg cap2 w4 hown hgrow hat hlt4 hd4
        have HN := Lib.hid (show w4.ownsRow w.heap.size 3 1 (.slice (some ⟨gg, 0, none⟩) ((sansL (s.take k) del).length + 1) cap2) (sansL (s.take (k + 1)) del).length ((sansL (s.take (k + 1)) del).map (Value.int .i64)) by
          rw [HE.out, List.map_append, List.length_append]; exact hown)
        have HKN := Lib.hid (own_grown HOQ.out KQ.out ((Keeps.refl _ wq).alloc (.cells #[.int .i64 x] 3)) hgrow)
        clear hown hgrow hat hd4
        go_wp2_with fail
        go_roundw
        case rel => exact ⟨k + 1, by omega, by go_num, HN.out, HKN.out⟩
        case measure => simp only [intOf]; omega
    · have hke : k = s.length := by omega
      subst hke
      have HO2 := Lib.hid (show wr.ownsRow w.heap.size 3 1 (.slice av (sansL (s.take s.length) del).length cv) (sansL s del).length ((sansL s del).map (Value.int .i64)) by
        have h := HO.out
        have e : sansL (s.take s.length) del = sansL s del := by rw [List.take_length]
        generalize (Value.slice av (sansL (s.take s.length) del).length cv) = v at h ⊢
        rw [e] at h; exact h)
      have hle2 : (sansL s del).length ≤ s.length := by have := sansL_le s del s.length; rwa [List.take_length] at this
      have hsz := KW.out.size
      have HAw := Lib.hid (HA.out.keeps0 KW.out)
      clear HO hle
      generalize (sansL (s.take s.length) del).length = nn at HO2 ⊢
      go_wp2_with (at_builtin; refine wpList_append_src rfl _ _ _ rfl w.heap.size 3 i0 _ 8 Tryz.underlying22 hi0 hz0 hz1 hz2 rfl _ (sansL s del).length ((sansL s del).map (Value.int .i64)) (by rfl) HO2.out _ add.length (add.map (Value.int .i64)) (by rfl) HAw.out (by simp) (by simp [Value.oneCell']) (by unfold maxLen; omega) (by omega) (by omega) ?_)
      intro v4 w4 hown hgrow hblk hd4
      have HN := Lib.hid (show w4.ownsRow w.heap.size 3 1 v4 (preL s add del).length ((preL s add del).map (Value.int .i64)) by
        unfold preL; rw [List.map_append, List.length_append]; exact hown)
      have HK4 := Lib.hid (own_grown HO2.out KW.out (Keeps.refl _ wr) hgrow)
      have hpl := preL_len s add del
      clear hown hgrow hblk hd4 HO2 KW
      go_wp2_with fail
      refine (sortI_any _ _ _ (preL s add del) HN.out (by omega)).mono ?_; rintro e w5 ⟨rfl, hown, hk⟩
      have HN5 := Lib.hid (show w5.ownsRow w.heap.size 3 1 v4 ((preL s add del).mergeSort fun x y => decide (x ≤ y)).length (((preL s add del).mergeSort fun x y => decide (x ≤ y)).map (Value.int .i64)) by rw [List.length_mergeSort]; exact hown)
      have HK5 := Lib.hid (HK4.out.trans' hk (fun b hb => .inr (World.ownsRow.lt HN.out b hb).1))
      clear hown hk HN HK4
      go_wp2_with fail
      refine (compactI_any _ _ _ _ HN5.out (by rw [List.length_mergeSort]; omega)).mono ?_; rintro e w6 ⟨v6, rfl, hown, _, hk⟩
      have HN6 := Lib.hid hown
      have HK6 := Lib.hid (HK5.out.trans' hk (fun b hb => .inr (World.ownsRow.lt HN5.out b hb).1))
      clear hown hk HN5 HK5
      go_wp2_with fail
      go_ret
      exact ⟨_, rfl, HN6.out, HK6.out⟩

/-! ### Can, Next -/
end Go.Proofs.YtkjmgafnaddhkaaGreat

namespace Go.Proofs.YtkjmgafnaddhkaaGreat
open Go.RowKit

theorem ops_cost0 {t : Tsk} (ok : t.Ok) : ∀ o ∈ wordsOf t.ops, 0 ≤ o.cost ∧ o.cost ≤ 100 := fun o ho => by
  unfold wordsOf at ho
  obtain ⟨o', ho', rfl⟩ := List.mem_map.1 ho
  exact ⟨(ok.ops o' ho').cost0, (ok.ops o' ho').cost1⟩

end Go.Proofs.YtkjmgafnaddhkaaGreat

namespace Go.Proofs.YtkjmgafnaddhkaaGreat
open Go.RowKit

theorem reach_path {ops : List Wop} {s x : Nat} (h : Reach ops s x) : ∃ q, runOps ops s q = some x := by
  induction h with
  | refl => exact ⟨[], rfl⟩
  | step _ hy ih =>
    obtain ⟨q, hq⟩ := ih
    obtain ⟨o, ho, rfl⟩ := List.mem_map.1 hy
    obtain ⟨ho, hc⟩ := List.mem_filter.1 ho
    obtain ⟨k, hk⟩ := List.mem_iff_getElem?.1 ho
    exact ⟨q ++ [k], runOps_snoc' hq hk hc⟩
section
variable {w : World} {vi vg vo vs : Value} {t : Tsk}
end

end Go.Proofs.YtkjmgafnaddhkaaGreat

namespace Go.Proofs.YtkjmgafnaddhkaaGreat
open Go.RowKit

def costAt (t : Tsk) (x : Int) : Int := ((t.ops[x.toNat]?).map Opr.cost).getD 0
def costL (t : Tsk) : List Int → Int
  | [] => 0
  | x :: r => costAt t x + costL t r
def PlanIn (t : Tsk) (p : List Int) : Prop := ∀ x ∈ p, 0 ≤ x ∧ x < (t.ops.length : Int)

theorem costL_append (t : Tsk) : ∀ (a b : List Int), costL t (a ++ b) = costL t a + costL t b
  | [], b => by simp [costL]
  | x :: a, b => by
    show costAt t x + costL t (a ++ b) = (costAt t x + costL t a) + costL t b
    rw [costL_append t a b]; omega
theorem costAt_bound {t : Tsk} (ok : t.Ok) (x : Int) : 0 ≤ costAt t x ∧ costAt t x ≤ 100 := by
  unfold costAt
  cases h : t.ops[x.toNat]? with
  | none => simp
  | some o =>
    have := ok.ops o (List.mem_of_getElem? h)
    simp; exact ⟨this.cost0, this.cost1⟩
theorem costL_bound {t : Tsk} (ok : t.Ok) : ∀ p : List Int, 0 ≤ costL t p ∧ costL t p ≤ 100 * (p.length : Int)
  | [] => by simp [costL]
  | x :: r => by
    have h1 := costAt_bound ok x
    have h2 := costL_bound ok r
    unfold costL
    rw [List.length_cons]
    omega

set_option maxRecDepth 100000 in
set_option maxHeartbeats 2000000 in
theorem costOf_any (w : World) (vi vg vo vp : Value) (t : Tsk) (p : List Int) (h : TaskAt w vi vg vo t) (ok : t.Ok) (hp : Ints w vp p) (hin : PlanIn t p) (hlen : p.length ≤ 1000000) :
    Calls Tryz.prog 56 #[.agg #[.int .i64 t.n, vi, vg, vo], vp] w fun e w' => e = .returned (.int .i64 (costL t p)) ∧ Keeps (fun _ => False) w w' := by
  obtain ⟨ai, ci, h1, _⟩ := h.init.form
  obtain ⟨ag, cg, h2, _⟩ := h.goal.form
  obtain ⟨ao, co, h3, hmo⟩ := h.ops.form
  obtain ⟨ap, cp, h4, _⟩ := hp.form
  subst h1 h2 h3 h4
  have K1 := (Keeps.refl (fun _ => False) w).alloc (.cells #[.int .i64 t.n, .slice ai t.init.length ci, .slice ag t.goal.length cg, .slice ao t.ops.length co] 25)
  have HB := Lib.hid (Four.new w (.int .i64 t.n) (.slice ai t.init.length ci) (.slice ag t.goal.length cg) (.slice ao t.ops.length co) 25)
  have HOC := Lib.hid (h.ops.cell rfl)
  have CP := Lib.hid (hp.cell rfl)
  have HK := Lib.hid K1; have OK := Lib.hid ok; have HIN := Lib.hid hin
  clear h K1 ok hin hp
  go_enter Tryz.func56, Tryz.ntmps56
  go_upto_region 1 with fail
  generalize (w.alloc (.cells #[.int .i64 t.n, .slice ai t.init.length ci, .slice ag t.goal.length cg, .slice ao t.ops.length co] 25)) = w1 at HB HK ⊢
  go_wp2_with fail
  go_loopw [5, 6] (fun v5 v6 wr => ∃ i : Nat, i ≤ p.length ∧ v6 = .int .i64 (i : Int) ∧ v5 = .int .i64 (costL t (p.take i)) ∧ Keeps (fun _ => False) w1 wr) (fun _ v6 _ => p.length - (intOf v6).toNat)
  case atStart => exact ⟨0, Nat.zero_le _, rfl, rfl, Keeps.refl _ _⟩
  case round =>
    obtain ⟨i, hi, rfl, rfl, hkr⟩ := hrel
    have HKR := Lib.hid hkr
    have HB2 := Lib.hid (HB.out.keeps0 hkr)
    obtain ⟨d0, d1, d2, d3⟩ := HB2.out
    have hbx := HB2.out.lt
    have hsz := hkr.size
    clear hkr
    by_cases hlt : i < p.length
    · obtain ⟨bp, op, rfl, hx'⟩ := CP.out (by omega)
      obtain ⟨x, hx⟩ : ∃ x, p[i]? = some x := ⟨_, List.getElem?_eq_getElem hlt⟩
      have hu := HKR.out.cell (HK.out.cell (hx' i x hx) (fun h => h)) (fun h => h)
      have hxi := HIN.out x (List.mem_of_getElem? hx)
      obtain ⟨xn, rfl⟩ : ∃ xn : Nat, x = (xn : Int) := ⟨x.toNat, by omega⟩
      obtain ⟨bo, oo, rfl, ho'⟩ := HOC.out (by omega)
      obtain ⟨o, ho⟩ : ∃ o, t.ops[xn]? = some o := ⟨_, List.getElem?_eq_getElem (by omega)⟩
      obtain ⟨va, vb, vc, _, _, _, c3, _⟩ := ho' xn o ho
      have c3' := HKR.out.cell (HK.out.cell c3 (fun h => h)) (fun h => h)
      have HTK : Hid (costL t (p.take (i + 1)) = costL t (p.take i) + o.cost) := by
        unfold Hid
        rw [take_getS hx, costL_append]
        simp [costL, costAt, ho]
      have hbd := costL_bound OK.out (p.take i)
      have hbl : ((p.take i).length : Int) ≤ 1000000 := by rw [List.length_take]; omega
      have hoc := OK.out.ops o (List.mem_of_getElem? ho)
      have ho0 := hoc.cost0
      have ho1 := hoc.cost1
      have q1 : IntKind.i64.wrap (costL t (p.take i) + o.cost) = costL t (p.take i) + o.cost := IntWalk.i64_in _ (by omega)
      have q2 : ((xn : Int)).toNat = xn := by omega
      have q3 : (0 : Int) ≤ (xn : Int) := by omega
      have q4 : (xn : Int) < (t.ops.length : Int) := hxi.2
      clear hx' hx ho' ho c3 hxi hoc hbl hbd
      go_wp2_with fail
      go_quiet (fail)
      have KD := Lib.hid (HKR.out.drewN nq)
      clear d0 d1 d2 d3 hu c3'
      generalize wr.drewN nq = w5 at KD ⊢
      go_wp2_with fail
      go_roundw
      case rel => exact ⟨i + 1, by omega, by go_num, by rw [HTK.out], KD.out⟩
      case measure => simp only [intOf]; omega
    · have hie : i = p.length := by omega
      subst hie
      go_wp2_with fail
      go_ret
      exact ⟨congrArg (fun u => Ending.returned (Value.int .i64 u)) (show costL t (p.take p.length) = costL t p by rw [List.take_length]), HK.out.trans HKR.out⟩

end Go.Proofs.YtkjmgafnaddhkaaGreat

/- space.Result. -/
namespace Go.Proofs.YtkjmgafnaddhkaaGreat
open Go.RowKit

/-- A SearchResult. -/
def resV (found : Bool) (vp : Value) (c n : Int) : Value := .agg #[.bool found, vp, .int .i64 c, .int .i64 n]

theorem quad_set {w : World} {B : Nat} {x0 x1 x2 x3 : Value} {T : TypeId} (h : w.heap[B]? = some (.cells #[x0, x1, x2, x3] T (0, 0))) (a b c d : Value) :
    ((((w.setCell ⟨B, 0, none⟩ a).setCell ⟨B, 1, none⟩ b).setCell ⟨B, 2, none⟩ c).setCell ⟨B, 3, none⟩ d).heap[B]? = some (.cells #[a, b, c, d] T (0, 0)) := by
  rw [blk_set_same (blk_set_same (blk_set_same (blk_set_same h a) b) c) d]; rfl
theorem keeps_quad {w : World} (B : Nat) (a b c d : Value) : Keeps (fun k => k = B) w ((((w.setCell ⟨B, 0, none⟩ a).setCell ⟨B, 1, none⟩ b).setCell ⟨B, 2, none⟩ c).setCell ⟨B, 3, none⟩ d) :=
  ((((Keeps.refl (fun k => k = B) w).setCell (p := ⟨B, 0, none⟩) (.inl rfl) _).setCell (p := ⟨B, 1, none⟩) (.inl rfl) _).setCell (p := ⟨B, 2, none⟩) (.inl rfl) _).setCell (p := ⟨B, 3, none⟩) (.inl rfl) _

def ResultPost (t : Tsk) (vp : Value) (p : List Int) (found : Bool) (n : Int) (w : World) (e : Ending) (w' : World) : Prop := Keeps (fun _ => False) w w' ∧
  ((60 < p.length ∧ e = .returned (.tuple #[resV false (.slice none 0 0) 0 0, fltV 10 (-9)])) ∨
   (p.length ≤ 60 ∧ e = .returned (.tuple #[resV found vp (costL t p) n, fltV 0 0])))

set_option maxRecDepth 100000 in
set_option maxHeartbeats 2000000 in
theorem result_any (w : World) (vi vg vo vp : Value) (t : Tsk) (p : List Int) (found : Bool) (n : Int) (h : TaskAt w vi vg vo t) (ok : t.Ok) (hp : Ints w vp p) (hin : PlanIn t p) :
    Calls Tryz.prog 49 #[.agg #[.int .i64 t.n, vi, vg, vo], vp, .bool found, .int .i64 n] w (ResultPost t vp p found n w) := by
  obtain ⟨ai, ci, h1, _⟩ := h.init.form
  obtain ⟨ag, cg, h2, _⟩ := h.goal.form
  obtain ⟨ao, co, h3, hmo⟩ := h.ops.form
  obtain ⟨ap, cp, h4, _⟩ := hp.form
  have K1 := (Keeps.refl (fun _ => False) w).alloc (.cells #[.int .i64 t.n, vi, vg, vo] 25)
  have KA := (Keeps.refl (fun _ => False) (w.alloc (.cells #[.int .i64 t.n, vi, vg, vo] 25))).alloc (.cells #[.bool false, .slice none 0 0, .int .i64 0, .int .i64 0] 29)
  have KB := (Keeps.refl (fun _ => False) ((w.alloc (.cells #[.int .i64 t.n, vi, vg, vo] 25)).alloc (.cells #[.bool false, .slice none 0 0, .int .i64 0, .int .i64 0] 29))).alloc (.cells #[.int .i64 0, .int .i64 0] 31)
  have HB := Lib.hid ((Four.new w (.int .i64 t.n) vi vg vo 25).keeps0 (KA.trans KB))
  have HR := Lib.hid (KB.heap (heap_alloc_new (w.alloc (.cells #[.int .i64 t.n, vi, vg, vo] 25)) (.cells #[.bool false, .slice none 0 0, .int .i64 0, .int .i64 0] 29)) (fun h => h))
  have HF : Flt w _ _ 31 := ⟨heap_alloc_new ((w.alloc (.cells #[.int .i64 t.n, vi, vg, vo] 25)).alloc (.cells #[.bool false, .slice none 0 0, .int .i64 0, .int .i64 0] 29)) (.cells #[.int .i64 0, .int .i64 0] 31), by simp; omega, K1.trans (KA.trans KB)⟩
  replace HF := Lib.hid HF
  have HT := Lib.hid (h.keeps0 (K1.trans (KA.trans KB))); have HP := Lib.hid (show Ints _ vp p from hp.keeps0 (K1.trans (KA.trans KB)))
  have OK := Lib.hid ok; have HIN := Lib.hid hin
  rw [World.size_alloc] at HR HF
  rw [World.size_alloc] at HF
  subst h1 h2 h3 h4
  clear h hp hin ok K1 KA KB
  go_enter Tryz.func49, Tryz.ntmps49
  go_upto_region 1 with fail
  generalize ((w.alloc (.cells #[.int .i64 t.n, .slice ai t.init.length ci, .slice ag t.goal.length cg, .slice ao t.ops.length co] 25)).alloc (.cells #[.bool false, .slice none 0 0, .int .i64 0, .int .i64 0] 29)).alloc (.cells #[.int .i64 0, .int .i64 0] 31) = w1 at HB HR HF HT HP ⊢
  have r0 : w1.cell? ⟨w.heap.size + 1, 0, none⟩ = some (.bool false) := by rw [cell_of_blk HR.out]; rfl
  have r1 : w1.cell? ⟨w.heap.size + 1, 1, none⟩ = some (.slice none 0 0) := by rw [cell_of_blk HR.out]; rfl
  have r2 : w1.cell? ⟨w.heap.size + 1, 2, none⟩ = some (.int .i64 0) := by rw [cell_of_blk HR.out]; rfl
  have r3 : w1.cell? ⟨w.heap.size + 1, 3, none⟩ = some (.int .i64 0) := by rw [cell_of_blk HR.out]; rfl
  have y0 := frozen_of_blk (o := 0) HR.out
  have y1 := frozen_of_blk (o := 1) HR.out
  have y2 := frozen_of_blk (o := 2) HR.out
  have y3 := frozen_of_blk (o := 3) HR.out
  have hlR := lt_of_heap HR.out
  obtain ⟨e0, e1, z0, z1, hF⟩ := HF.out.cells
  by_cases hlen : 60 < p.length
  · have q1 : decide ((60 : Int) < (p.length : Int)) = true := by simp; omega
    have HLEN := Lib.hid hlen
    have kq := keeps_quad (w := w1) (w.heap.size + 1) (.bool false) (.slice none 0 0) (.int .i64 0) (.int .i64 0)
    have HQ := Lib.hid (quad_set HR.out (.bool false) (.slice none 0 0) (.int .i64 0) (.int .i64 0))
    have HF2 := Lib.hid (HF.out.keepsS kq (by omega) (fun i hi => by omega))
    clear hlen kq
    go_wp2_with fail
    refine bodyPost_ret (results_cell_cell _ _ (w.heap.size + 1 + 1) 31 #[.int .i64 10, .int .i64 (-9)] (0, 0) _ rfl rfl (HF2.out.set (.int .i64 10) (.int .i64 (-9))).1 Tryz.underlying31 rfl (by kernel_rfl) rfl ((keeps_pair (w.heap.size + 1 + 1) _ _).heap HQ.out (by omega)) Tryz.underlying29 rfl (by kernel_rfl)) rfl ?_
    exact ⟨(HF2.out.set _ _).2, .inl ⟨HLEN.out, rfl⟩⟩
  · have q1 : decide ((60 : Int) < (p.length : Int)) = false := by simp; omega
    have hlen2 : p.length ≤ 60 := by omega
    have HLEN := Lib.hid hlen2
    have hs1 := HF.out.keep.size
    have HOC := Lib.hid (HT.out.ops.cell rfl)
    have CP := Lib.hid (HP.out.cell rfl)
    have K3 := Lib.hid ((Keeps.refl (fun _ => False) w1).alloc (.cells #[.bool found, .slice ap p.length cp, .int .i64 0, .int .i64 n] 29))
    have HX3 := Lib.hid (heap_alloc_new w1 (.cells #[.bool found, .slice ap p.length cp, .int .i64 0, .int .i64 n] 29))
    have hbw := HB.out.lt
    clear hlen HT HP r0 r1 r2 r3 y0 y1 y2 y3 e0 e1 z0 z1
    go_upto_region 5 with fail
    generalize w1.alloc (.cells #[.bool found, .slice ap p.length cp, .int .i64 0, .int .i64 n] 29) = w3 at K3 HX3 ⊢
    obtain ⟨bx, hbx⟩ : ∃ bx, w1.heap.size = bx := ⟨_, rfl⟩
    have HBX := Lib.hid hbx
    rw [hbx] at hF hlR hs1 hbw
    rw [show w1.heap.size = bx from hbx] at HX3
    rw [hbx]
    clear hbx
    go_loopw [24] (fun v24 wr => ∃ i : Nat, i ≤ p.length ∧ v24 = .int .i64 (i : Int) ∧ wr.heap[bx]? = some (.cells #[.bool found, .slice ap p.length cp, .int .i64 (costL t (p.take i)), .int .i64 n] 29 (0, 0)) ∧ Keeps (fun _ => False) w1 wr) (fun v24 _ => p.length - (intOf v24).toNat)
    case atStart => exact ⟨0, Nat.zero_le _, rfl, HX3.out, K3.out⟩
    case round =>
      obtain ⟨i, hi, rfl, hx, hkr⟩ := hrel
      have HX := Lib.hid hx
      have HKR := Lib.hid hkr
      have HB2 := Lib.hid (HB.out.keeps0 hkr)
      have HF2 := Lib.hid (HF.out.keeps0 hkr)
      have HR2 := Lib.hid (hkr.heap HR.out (fun h => h))
      have s0 : wr.cell? ⟨bx, 0, none⟩ = some (.bool found) := by rw [cell_of_blk hx]; rfl
      have s1 : wr.cell? ⟨bx, 1, none⟩ = some (.slice ap p.length cp) := by rw [cell_of_blk hx]; rfl
      have s2 : wr.cell? ⟨bx, 2, none⟩ = some (.int .i64 (costL t (p.take i))) := by rw [cell_of_blk hx]; rfl
      have s3 : wr.cell? ⟨bx, 3, none⟩ = some (.int .i64 n) := by rw [cell_of_blk hx]; rfl
      have v2 := frozen_of_blk (o := 2) hx
      have hlx := lt_of_heap hx
      clear hkr hx
      by_cases hlt : i < p.length
      · obtain ⟨d0, d1, d2, d3⟩ := HB2.out
        have hbl2 := HB2.out.lt
        obtain ⟨bp, op, rfl, hx'⟩ := CP.out (by omega)
        obtain ⟨x, hx⟩ : ∃ x, p[i]? = some x := ⟨_, List.getElem?_eq_getElem hlt⟩
        have hu := HKR.out.cell (hx' i x hx) (fun h => h)
        have hxi := HIN.out x (List.mem_of_getElem? hx)
        obtain ⟨xn, rfl⟩ : ∃ xn : Nat, x = (xn : Int) := ⟨x.toNat, by omega⟩
        obtain ⟨bo, oo, rfl, ho'⟩ := HOC.out (by omega)
        obtain ⟨o, ho⟩ : ∃ o, t.ops[xn]? = some o := ⟨_, List.getElem?_eq_getElem (by omega)⟩
        obtain ⟨va, vb, vc, _, _, _, c3, _⟩ := ho' xn o ho
        have c3' := HKR.out.cell c3 (fun h => h)
        have HTK : Hid (costL t (p.take (i + 1)) = costL t (p.take i) + o.cost) := by
          unfold Hid
          rw [take_getS hx, costL_append]
          simp [costL, costAt, ho]
        have hbd := costL_bound OK.out (p.take i)
        have hbl : ((p.take i).length : Int) ≤ 1000000 := by rw [List.length_take]; omega
        have hoc := OK.out.ops o (List.mem_of_getElem? ho)
        have ho0 := hoc.cost0
        have ho1 := hoc.cost1
        have q1 : IntKind.i64.wrap (costL t (p.take i) + o.cost) = costL t (p.take i) + o.cost := IntWalk.i64_in _ (by omega)
        have q2 : ((xn : Int)).toNat = xn := by omega
        have q3 : (0 : Int) ≤ (xn : Int) := by omega
        have q4 : (xn : Int) < (t.ops.length : Int) := hxi.2
        clear hx' hx ho' ho c3 hxi hoc hbl hbd
        go_upto_region 7 with fail
        go_still_tail 10, (by kernel_rfl)
        change wpList _ _ _ _ _ wr.drew
        have KD := (Keeps.refl (fun _ => False) wr).drew
        have HXD := Lib.hid (KD.heap HX.out (fun h => h))
        have HKD := Lib.hid (HKR.out.trans KD)
        clear KD d0 d1 d2 d3 hbl2 hu c3' s0 s1 s2 s3 v2 hlx
        generalize wr.drew = w5 at HXD HKD ⊢
        have s2 : w5.cell? ⟨bx, 2, none⟩ = some (.int .i64 (costL t (p.take i))) := by rw [cell_of_blk HXD.out]; rfl
        have v2 := frozen_of_blk (o := 2) HXD.out
        have hlx := lt_of_heap HXD.out
        have HN := Lib.hid (blk_set_same HXD.out (o := 2) (.int .i64 (costL t (p.take i) + o.cost)))
        have HKN := Lib.hid (HKD.out.trans' ((Keeps.refl (fun k => k = bx) w5).setCell (p := ⟨bx, 2, none⟩) (.inl rfl) (.int .i64 (costL t (p.take i) + o.cost))) (fun k hk => .inr (by have := HBX.out; omega)))
        go_wp2_with fail
        go_roundw
        case rel => exact ⟨i + 1, by omega, by go_num, by rw [HTK.out]; exact HN.out, HKN.out⟩
        case measure => simp only [intOf]; omega
      · have hie : i = p.length := by omega
        subst hie
        have r0 : wr.cell? ⟨w.heap.size + 1, 0, none⟩ = some (.bool false) := by rw [cell_of_blk HR2.out]; rfl
        have r1 : wr.cell? ⟨w.heap.size + 1, 1, none⟩ = some (.slice none 0 0) := by rw [cell_of_blk HR2.out]; rfl
        have r2 : wr.cell? ⟨w.heap.size + 1, 2, none⟩ = some (.int .i64 0) := by rw [cell_of_blk HR2.out]; rfl
        have r3 : wr.cell? ⟨w.heap.size + 1, 3, none⟩ = some (.int .i64 0) := by rw [cell_of_blk HR2.out]; rfl
        have y0 := frozen_of_blk (o := 0) HR2.out
        have y1 := frozen_of_blk (o := 1) HR2.out
        have y2 := frozen_of_blk (o := 2) HR2.out
        have y3 := frozen_of_blk (o := 3) HR2.out
        have hlR2 := lt_of_heap HR2.out
        obtain ⟨e0, e1, z0, z1, hF2⟩ := HF2.out.cells
        have HCE : Hid (costL t (p.take p.length) = costL t p) := by unfold Hid; rw [List.take_length]
        have kq := keeps_quad (w := wr) (w.heap.size + 1) (.bool found) (.slice ap p.length cp) (.int .i64 (costL t p)) (.int .i64 n)
        have HQ := Lib.hid (quad_set HR2.out (.bool found) (.slice ap p.length cp) (.int .i64 (costL t p)) (.int .i64 n))
        have HF4 := Lib.hid (HF2.out.keepsS kq (by omega) (fun i hi => by omega))
        rw [HCE.out] at s2
        clear kq HX
        go_wp2_with fail
        refine bodyPost_ret (results_cell_cell _ _ (w.heap.size + 1 + 1) 31 #[.int .i64 0, .int .i64 0] (0, 0) _ rfl rfl (HF4.out.set (.int .i64 0) (.int .i64 0)).1 Tryz.underlying31 rfl (by kernel_rfl) rfl ((keeps_pair (w.heap.size + 1 + 1) _ _).heap HQ.out (by omega)) Tryz.underlying29 rfl (by kernel_rfl)) rfl ?_
        exact ⟨(HF4.out.set _ _).2, .inr ⟨HLEN.out, rfl⟩⟩

end Go.Proofs.YtkjmgafnaddhkaaGreat

namespace Go.Proofs.YtkjmgafnaddhkaaGreat
open Go.RowKit

/-! ### the plans of a search -/
theorem runOps_lt {ops : List Wop} : ∀ {p : List Nat} {x y : Nat}, runOps ops x p = some y → ∀ o ∈ p, o < ops.length
  | [], _, _, _, _, h => by cases h
  | o :: r, x, y, h, k, hk => by
    rw [runOps] at h
    cases ho : ops[o]? with
    | none => rw [ho] at h; cases h
    | some op =>
      rw [ho] at h; simp only at h
      split at h
      · rcases List.mem_cons.1 hk with rfl | hk
        · exact (List.getElem?_eq_some_iff.1 ho).1
        · exact runOps_lt h k hk
      · cases h

theorem planIn_run {t : Tsk} {p : List Nat} {x y : Nat} (h : runOps (wordsOf t.ops) x p = some y) : PlanIn t (intsP p) := by
  intro z hz
  unfold intsP at hz
  obtain ⟨o, ho, rfl⟩ := List.mem_map.1 hz
  have := runOps_lt h o ho
  unfold wordsOf at this
  rw [List.length_map] at this
  omega

/-! ### two blocks of results -/
structure RFl (w w1 : World) (R F : Nat) : Prop where
  res : w1.heap[R]? = some (.cells #[.bool false, .slice none 0 0, .int .i64 0, .int .i64 0] 29 (0, 0))
  flt : Flt w w1 F 31
  base : w.heap.size ≤ R
  ne : R ≠ F
theorem RFl.keeps0 {w w1 w2 : World} {R F : Nat} (h : RFl w w1 R F) (hk : Keeps (fun _ => False) w1 w2) : RFl w w2 R F := ⟨hk.heap h.res (fun h => h), h.flt.keeps0 hk, h.base, h.ne⟩
theorem RFl.cells {w w1 : World} {R F : Nat} (h : RFl w w1 R F) : w1.cell? ⟨R, 0, none⟩ = some (.bool false) ∧ w1.cell? ⟨R, 1, none⟩ = some (.slice none 0 0) ∧ w1.cell? ⟨R, 2, none⟩ = some (.int .i64 0) ∧ w1.cell? ⟨R, 3, none⟩ = some (.int .i64 0) ∧
    w1.frozen? ⟨R, 0, none⟩ = false ∧ w1.frozen? ⟨R, 1, none⟩ = false ∧ w1.frozen? ⟨R, 2, none⟩ = false ∧ w1.frozen? ⟨R, 3, none⟩ = false ∧ R < w1.heap.size :=
  ⟨by rw [cell_of_blk h.res]; rfl, by rw [cell_of_blk h.res]; rfl, by rw [cell_of_blk h.res]; rfl, by rw [cell_of_blk h.res]; rfl, frozen_of_blk h.res, frozen_of_blk h.res, frozen_of_blk h.res, frozen_of_blk h.res, lt_of_heap h.res⟩
theorem RFl.set {w w1 : World} {R F : Nat} (h : RFl w w1 R F) (a b c d x y : Value) :
    ((((((w1.setCell ⟨R, 0, none⟩ a).setCell ⟨R, 1, none⟩ b).setCell ⟨R, 2, none⟩ c).setCell ⟨R, 3, none⟩ d).setCell ⟨F, 0, none⟩ x).setCell ⟨F, 1, none⟩ y).heap[R]? = some (.cells #[a, b, c, d] 29 (0, 0)) ∧
    ((((((w1.setCell ⟨R, 0, none⟩ a).setCell ⟨R, 1, none⟩ b).setCell ⟨R, 2, none⟩ c).setCell ⟨R, 3, none⟩ d).setCell ⟨F, 0, none⟩ x).setCell ⟨F, 1, none⟩ y).heap[F]? = some (.cells #[x, y] 31 (0, 0)) ∧
    Keeps (fun _ => False) w ((((((w1.setCell ⟨R, 0, none⟩ a).setCell ⟨R, 1, none⟩ b).setCell ⟨R, 2, none⟩ c).setCell ⟨R, 3, none⟩ d).setCell ⟨F, 0, none⟩ x).setCell ⟨F, 1, none⟩ y) ∧
    Keeps (fun k => k = R ∨ k = F) w1 ((((((w1.setCell ⟨R, 0, none⟩ a).setCell ⟨R, 1, none⟩ b).setCell ⟨R, 2, none⟩ c).setCell ⟨R, 3, none⟩ d).setCell ⟨F, 0, none⟩ x).setCell ⟨F, 1, none⟩ y) := by
  have kq := keeps_quad (w := w1) R a b c d
  have hq := quad_set h.res a b c d
  have hf := h.flt.keepsS kq (fun e => h.ne e.symm) (fun i hi => by subst hi; exact h.base)
  have hs := hf.set x y
  exact ⟨(keeps_pair F x y).heap hq h.ne, hs.1, hs.2, (kq.mono (fun _ _ h => .inl h)).trans ((keeps_pair F x y).mono (fun _ _ h => .inr h))⟩

/-- The zero result stays as it is. -/
theorem RFl.ids {w w1 : World} {R F : Nat} (h : RFl w w1 R F) : w1.setCell ⟨R, 0, none⟩ (.bool false) = w1 ∧ w1.setCell ⟨R, 1, none⟩ (.slice none 0 0) = w1 ∧ w1.setCell ⟨R, 2, none⟩ (.int .i64 0) = w1 ∧ w1.setCell ⟨R, 3, none⟩ (.int .i64 0) = w1 :=
  ⟨setCell_id h.cells.1, setCell_id h.cells.2.1, setCell_id h.cells.2.2.1, setCell_id h.cells.2.2.2.1⟩
theorem RFl.fin {w w1 : World} {R F : Nat} (h : RFl w w1 R F) (x y : Value) : ((w1.setCell ⟨F, 0, none⟩ x).setCell ⟨F, 1, none⟩ y).drew.heap[R]? = some (.cells #[.bool false, .slice none 0 0, .int .i64 0, .int .i64 0] 29 (0, 0)) ∧
    ((w1.setCell ⟨F, 0, none⟩ x).setCell ⟨F, 1, none⟩ y).drew.heap[F]? = some (.cells #[x, y] 31 (0, 0)) ∧ Keeps (fun _ => False) w ((w1.setCell ⟨F, 0, none⟩ x).setCell ⟨F, 1, none⟩ y).drew :=
  ⟨(keeps_pair F x y).drew.heap h.res h.ne, (h.flt.set x y).1, (h.flt.set x y).2.drew⟩

theorem quad_cells {w : World} {B : Nat} {a b c d : Value} {T : TypeId} (h : w.heap[B]? = some (.cells #[a, b, c, d] T (0, 0))) : w.cell? ⟨B, 0, none⟩ = some a ∧ w.cell? ⟨B, 1, none⟩ = some b ∧ w.cell? ⟨B, 2, none⟩ = some c ∧ w.cell? ⟨B, 3, none⟩ = some d ∧ B < w.heap.size :=
  ⟨by rw [cell_of_blk h]; rfl, by rw [cell_of_blk h]; rfl, by rw [cell_of_blk h]; rfl, by rw [cell_of_blk h]; rfl, lt_of_heap h⟩

/-! ### what Plan hands back -/
end Go.Proofs.YtkjmgafnaddhkaaGreat

namespace Go.Proofs.YtkjmgafnaddhkaaGreat

/-! ### greater states -/
theorem goalB_iff {g x : Nat} : goalB g x = true ↔ under g x := by
  unfold goalB
  rw [beq_iff_eq]
  constructor
  · intro h i hi
    have := congrArg (fun z => z.testBit i) h
    simp only [Nat.testBit_and, hi, Bool.and_true] at this
    exact this
  · intro h
    refine Nat.eq_of_testBit_eq fun i => ?_
    rw [Nat.testBit_and]
    cases hg : g.testBit i with
    | false => simp
    | true => rw [h i hg]; rfl
theorem can_iff {o : Wop} {x : Nat} : o.can x = true ↔ under o.pre x := goalB_iff (g := o.pre) (x := x)
theorem reach_run {ops : List Wop} {s : Nat} : ∀ (q : List Nat) {x y : Nat}, Reach ops s x → runOps ops x q = some y → Reach ops s y
  | [], x, y, hx, hy => by cases hy; exact hx
  | a :: q, x, y, hx, hy => by
    rw [runOps] at hy
    cases ho : ops[a]? with
    | none => rw [ho] at hy; cases hy
    | some o =>
      rw [ho] at hy; simp only at hy
      by_cases hc : o.can x = true
      · rw [if_pos hc] at hy
        exact reach_run q (.step hx (List.mem_map.2 ⟨o, List.mem_filter.2 ⟨List.mem_of_getElem? ho, hc⟩, rfl⟩)) hy
      · rw [if_neg hc] at hy; cases hy

/-! ### the search that finds nothing -/
section
variable {acc : Nat → Bool} {cov : Nat → List Nat → Bool}
end

theorem ops_cost {t : Tsk} (ok : t.Ok) : ∀ o ∈ wordsOf t.ops, 0 ≤ o.cost ∧ o.cost ≤ 100 := fun o ho => by
  unfold wordsOf at ho
  obtain ⟨o', ho', rfl⟩ := List.mem_map.1 ho
  exact ⟨(ok.ops o' ho').cost0, (ok.ops o' ho').cost1⟩

end Go.Proofs.YtkjmgafnaddhkaaGreat

namespace Go.Proofs.YtkjmgafnaddhkaaGreat
open Go.RowKit

/-- What BestPlans hands back for the least price b, or -1. -/
def bestV (b : Int) : Value := if b < 0 then .tuple #[.int .i64 0, .int .i64 0, .bool false] else .tuple #[.int .i64 (b / 4096), .int .i64 (b % 4096), .bool true]
/-- The least price of a plan of the task. -/
def BestT (t : Tsk) (b : Int) : Prop := LeastOf 4096 1 (wordsOf t.ops) (wd t.init) (goalB (wd t.goal)) b
theorem best_small {t : Tsk} (ok : t.Ok) {l : List Nat} (hx : explored t = some l) {b : Int} (h : BestT t b) : -1 ≤ b ∧ b ≤ 1000000000 := by
  rcases h with ⟨h1, _⟩ | ⟨h1, ⟨p, y, hp, hy, _⟩, h3⟩
  · omega
  · obtain ⟨_, _, _, hsh, hfew, _, _, n8⟩ := costs_need ok hx (List.Perm.refl l)
    have hr := (reached_some (ops := wordsOf t.ops) (s := wd t.init) (l := l) hx).2.2.2
    obtain ⟨q, h4, h5, h6⟩ := short_run (L := l) (ops_cost0 ok) (fun p z hz => (hr z).2 (reach_run p .refl hz)) p.length (Nat.le_refl _) hp
    have := h3 q y h4 hy
    have h7 := (costN_bound (ops_cost0 ok) q).2
    rw [wayN_split] at this
    omega

set_option maxRecDepth 100000 in
set_option maxHeartbeats 4000000 in
theorem bestPlans_any (w : World) (vi vg vo : Value) (t : Tsk) {l : List Nat} (h : TaskAt w vi vg vo t) (ok : t.Ok) (hx : explored t = some l) :
    Calls Tryz.prog 42 #[.agg #[.int .i64 t.n, vi, vg, vo]] w fun e w' => ∃ b, e = .returned (bestV b) ∧ BestT t b ∧ Keeps (fun _ => False) w w' := by
  obtain ⟨ai, ci, h1, _⟩ := h.init.form
  obtain ⟨ag, cg, h2, _⟩ := h.goal.form
  obtain ⟨ao, co, h3, hmo⟩ := h.ops.form
  subst h1 h2 h3
  have HB := Lib.hid (Four.new w (.int .i64 t.n) (.slice ai t.init.length ci) (.slice ag t.goal.length cg) (.slice ao t.ops.length co) 25)
  have K1 := (Keeps.refl (fun _ => False) w).alloc (.cells #[.int .i64 t.n, .slice ai t.init.length ci, .slice ag t.goal.length cg, .slice ao t.ops.length co] 25)
  have HT := Lib.hid (h.keeps0 K1); have HK := Lib.hid K1
  have OK := Lib.hid ok; have HX := Lib.hid hx
  obtain ⟨_, _, _, hsh, hfew, _, _, n8⟩ := costs_need ok hx (List.Perm.refl l)
  have hrs := reached_some (ops := wordsOf t.ops) (s := wd t.init) (l := l) hx
  have HSH := Lib.hid hsh; have HR := Lib.hid hrs.2.2.2; have H0 := Lib.hid hrs.2.2.1
  have HG := Lib.hid (show ∀ x ∈ l, Good t.n x from fun x h => good_reach ok (good_wd (by have := ok.n1; omega) ok.init) ((hrs.2.2.2 x).1 h))
  have HAR := Lib.hid (show ∀ a ∈ arcs (wordsOf t.ops) l, a.frm < l.length ∧ a.to < l.length ∧ 0 ≤ a.cost ∧ a.cost ≤ 100 from fun a ha => by
    obtain ⟨x, o, g1, g2, g3, g4, g5⟩ := mem_arcs.1 ha
    have := ops_cost0 ok o (List.mem_of_getElem? g2)
    rw [g4]
    exact ⟨(List.getElem?_eq_some_iff.1 g1).1, (List.getElem?_eq_some_iff.1 g5).1, this⟩)
  have hl0 : 0 < l.length := List.length_pos_of_mem n8
  clear h K1 ok hx hsh n8 hrs
  go_enter Tryz.func42, Tryz.ntmps42
  go_upto_region 1 with fail
  generalize (w.alloc (.cells #[.int .i64 t.n, .slice ai t.init.length ci, .slice ag t.goal.length cg, .slice ao t.ops.length co] 25)) = w1 at HB HT HK ⊢
  generalize w.heap.size = bt at HB ⊢
  have hbx := HB.out.lt
  obtain ⟨d0, d1, d2, d3⟩ := HB.out
  go_wp2_with fail
  refine (reached_any _ _ _ _ t HT.out OK.out).mono ?_; rintro e w2 ⟨hk, hr⟩
  rcases hr with ⟨hn, _⟩ | ⟨l', hl', v, vw, vs, rfl, hrows⟩
  · exact absurd (hn.symm.trans HX.out) (by simp)
  obtain rfl : l = l' := by have := hl'.symm.trans HX.out; cases this; rfl
  have hli := hrows.lists
  obtain ⟨a5, c5, hv5, _⟩ := hli.form
  rw [List.length_map] at hv5
  subst hv5
  have HL2 := Lib.hid hli; have HB2 := Lib.hid (HB.out.keeps0 hk); have HT2 := Lib.hid (HT.out.keeps0 hk); have K2 := Lib.hid (HK.out.trans hk)
  clear hk hl' hrows hli d0 d1 d2 d3 hbx HB HT HK
  have hbx := HB2.out.lt
  obtain ⟨d0, d1, d2, d3⟩ := HB2.out
  go_wp2_with fail
  refine (arcs_any _ _ _ _ _ t l HT2.out OK.out HL2.out HG.out hfew).mono ?_; rintro e w3 ⟨va, rfl, hoa, hk⟩
  obtain ⟨aa, ca, haa⟩ := ownsRow_formS hoa
  subst haa
  have HA3 := Lib.hid hoa.at
  have HL3 := Lib.hid (HL2.out.keeps0 hk); have HB3 := Lib.hid (HB2.out.keeps0 hk); have HT3 := Lib.hid (HT2.out.keeps0 hk); have K3 := Lib.hid (K2.out.trans hk)
  clear hk hoa d0 d1 d2 d3 hbx HB2 HT2 K2 HL2
  go_wp2_with fail
  refine (prices_any _ _ _ (l.map facts) (arcs (wordsOf t.ops) l) 0 4096 1 HL3.out HA3.out (by rw [List.length_map]; omega) (by rw [List.length_map]; exact hl0) (by rw [List.length_map]; exact HAR.out) (by decide) (by decide) (by decide) (by decide)).mono ?_; rintro e w4 ⟨vp, d, rfl, hpo, hown, hk⟩
  rw [List.length_map] at hpo hown
  have HPO := Lib.hid hpo
  have hpl : d.length = l.length := hpo.len
  rw [← hpl] at hown
  obtain ⟨ap, cp, hv⟩ := ownsRow_form1 hown
  have HP4 := Lib.hid (Ints.of_own hown)
  rw [hpl] at hv
  subst hv
  have HL4 := Lib.hid (HL3.out.keeps0 hk); have HB4 := Lib.hid (HB3.out.keeps0 hk); have HT4 := Lib.hid (HT3.out.keeps0 hk); have K4 := Lib.hid (K3.out.trans hk)
  clear hk hown hpo HB3 HT3 K3 HL3 HA3
  have hbx := HB4.out.lt
  obtain ⟨d0, d1, d2, d3⟩ := HB4.out
  go_wp2_with fail
  refine (goals_any _ _ _ _ _ t l HT4.out HL4.out hfew).mono ?_; rintro e w5 ⟨vb, rfl, hob, hk⟩
  obtain ⟨ab, cb, hab⟩ := ownsRow_form1 hob
  subst hab
  have HO5 := Lib.hid (show Bools w5 (.slice ab l.length cb) (l.map (goalB (wd t.goal))) by rw [← goals_eq OK.out HG.out]; unfold Bools; rw [List.length_map]; exact Sl.of_own hob)
  have HP5 := Lib.hid (HP4.out.keeps0 hk); have K5 := Lib.hid (K4.out.trans hk)
  clear hk hob d0 d1 d2 d3 hbx HB4 HT4 K4 HL4 HP4
  have HCP := Lib.hid (HP5.out.cell (show Value.slice ap l.length cp = .slice ap l.length cp from rfl))
  have HCB := Lib.hid (Sl.cellN HO5.out rfl)
  have HLEN := Lib.hid hpl
  have HGL := Lib.hid (show (l.map (goalB (wd t.goal))).length = l.length from List.length_map _)
  go_wp2_with fail
  go_loopw [9, 10] (fun v9 v10 wr => ∃ i : Nat, i ≤ l.length ∧ v10 = .int .i64 (i : Int) ∧ v9 = .int .i64 (bestTo d (l.map (goalB (wd t.goal))) i) ∧ Keeps (fun _ => False) w5 wr) (fun _ v10 _ => l.length - (intOf v10).toNat)
  case atStart => exact ⟨0, Nat.zero_le _, rfl, rfl, Keeps.refl _ _⟩
  case round =>
    obtain ⟨i, hi, rfl, rfl, hkr⟩ := hrel
    have HKR := Lib.hid hkr
    clear hkr
    by_cases hlt : i < l.length
    · obtain ⟨x, hx⟩ : ∃ x, l[i]? = some x := ⟨_, List.getElem?_eq_getElem hlt⟩
      obtain ⟨z, hz⟩ : ∃ z, d[i]? = some z := ⟨_, List.getElem?_eq_getElem (by omega)⟩
      obtain ⟨bp, op, rfl, hpc⟩ := HCP.out (by omega)
      obtain ⟨bb, ob, rfl, hbc⟩ := HCB.out (by rw [HGL.out]; omega)
      have q1 := HKR.out.cell (hpc i z hz) (fun h => h)
      have hgi : (l.map (goalB (wd t.goal)))[i]? = some (goalB (wd t.goal) x) := by rw [List.getElem?_map, hx]; rfl
      have q2 := HKR.out.cell (hbc i (.bool (goalB (wd t.goal) x)) (by rw [List.getElem?_map, hgi]; rfl)) (fun h => h)
      have HN := Lib.hid (show bestTo d (l.map (goalB (wd t.goal))) (i + 1) = if goalB (wd t.goal) x = true ∧ (bestTo d (l.map (goalB (wd t.goal))) i < 0 ∨ z < bestTo d (l.map (goalB (wd t.goal))) i) then z else bestTo d (l.map (goalB (wd t.goal))) i by
        rw [bestTo, hgi, hz]; simp)
      clear hpc hbc hgi hz hx
      generalize hbt : bestTo d (l.map (goalB (wd t.goal))) i = b at HN ⊢
      have hilt : (i : Int) < (l.length : Int) := by omega
      cases hg : goalB (wd t.goal) x with
      | false =>
        rw [hg] at q2
        have HE := Lib.hid (show bestTo d (l.map (goalB (wd t.goal))) (i + 1) = b by rw [HN.out, hg]; simp)
        clear hg HN hbt
        go_wp2_with fail
        go_roundw
        case rel => exact ⟨i + 1, by omega, by go_num, by rw [HE.out], HKR.out⟩
        case measure => simp [intOf]; omega
      | true =>
        rw [hg] at q2
        by_cases hb0 : b < 0
        · have hb1 : decide (b < 0) = true := by simpa using hb0
          have HE := Lib.hid (show bestTo d (l.map (goalB (wd t.goal))) (i + 1) = z by rw [HN.out, hg, if_pos ⟨rfl, .inl hb0⟩])
          clear hg HN hbt hb0
          go_wp2_with fail
          go_roundw
          case rel => exact ⟨i + 1, by omega, by go_num, by rw [HE.out], HKR.out⟩
          case measure => simp [intOf]; omega
        · have hb1 : decide (b < 0) = false := by simpa using hb0
          by_cases hzb : z < b
          · have hb2 : decide (z < b) = true := by simpa using hzb
            have HE := Lib.hid (show bestTo d (l.map (goalB (wd t.goal))) (i + 1) = z by rw [HN.out, hg, if_pos ⟨rfl, .inr hzb⟩])
            clear hg HN hbt hb0 hzb
            go_wp2_with fail
            go_roundw
            case rel => exact ⟨i + 1, by omega, by go_num, by rw [HE.out], HKR.out⟩
            case measure => simp [intOf]; omega
          · have hb2 : decide (z < b) = false := by simpa using hzb
            have HE := Lib.hid (show bestTo d (l.map (goalB (wd t.goal))) (i + 1) = b by rw [HN.out, hg, if_neg (fun e => by rcases e.2 with e | e <;> omega)])
            clear hg HN hbt hb0 hzb
            go_wp2_with fail
            go_roundw
            case rel => exact ⟨i + 1, by omega, by go_num, by rw [HE.out], HKR.out⟩
            case measure => simp [intOf]; omega
    · obtain rfl : i = l.length := by omega
      have HBT := Lib.hid (show BestT t (bestTo d (l.map (goalB (wd t.goal))) l.length) from best_of_prices HSH.out (fun x hx => reach_path ((HR.out x).1 hx)) H0.out (fun a ha => by have := (HAR.out a ha).2.2.1; omega) HPO.out (goalB (wd t.goal)))
      obtain ⟨hb1, hb2⟩ := best_small OK.out HX.out HBT.out
      generalize bestTo d (l.map (goalB (wd t.goal))) l.length = b at HBT hb1 hb2 ⊢
      by_cases hb0 : b < 0
      · have hb3 : decide (b < 0) = true := by simpa using hb0
        go_wp2_with fail
        go_ret3
        have ev : bestV b = .tuple #[.int .i64 0, .int .i64 0, .bool false] := by unfold bestV; rw [if_pos (by omega)]
        exact ⟨b, by rw [ev]; rfl, HBT.out, K5.out.trans HKR.out⟩
      · have hb3 : decide (b < 0) = false := by simpa using hb0
        have e1 : Int.tdiv b 4096 = b / 4096 := Int.tdiv_eq_ediv_of_nonneg (by omega)
        have e2 : Int.tmod b 4096 = b % 4096 := Int.tmod_eq_emod_of_nonneg (by omega)
        go_wp2_with fail
        go_ret3
        have ev : bestV b = .tuple #[.int .i64 (b / 4096), .int .i64 (b % 4096), .bool true] := by unfold bestV; rw [if_neg (by omega)]
        exact ⟨b, by rw [ev]; rfl, HBT.out, K5.out.trans HKR.out⟩

end Go.Proofs.YtkjmgafnaddhkaaGreat

namespace Go.Proofs.YtkjmgafnaddhkaaGreat
open Go.RowKit

/-- The steps of a best plan with the least price b. -/
def stepsB (b : Int) : Int := if b < 0 then 0 else b % 4096
/-- What BestFault hands back. -/
def BestFl (t : Tsk) (c i : Int) : Prop := (c ≠ 0 ∧ expF t = (c, i)) ∨ (t.Ok ∧ expF t = (0, 0) ∧ ∃ l b, explored t = some l ∧ BestT t b ∧ ((60 < stepsB b ∧ c = 10 ∧ i = -9) ∨ (stepsB b ≤ 60 ∧ c = 0 ∧ i = 0)))

set_option maxRecDepth 100000 in
set_option maxHeartbeats 2000000 in
theorem bestFault_any (w : World) (vi vg vo : Value) (t : Tsk) (h : TaskAt w vi vg vo t) :
    Calls Tryz.prog 17 #[.agg #[.int .i64 t.n, vi, vg, vo]] w fun e w' => ∃ c i, e = .returned (.agg #[.int .i64 c, .int .i64 i]) ∧ BestFl t c i ∧ Keeps (fun _ => False) w w' := by
  obtain ⟨ai, ci, h1, _⟩ := h.init.form
  obtain ⟨ag, cg, h2, _⟩ := h.goal.form
  obtain ⟨ao, co, h3, hmo⟩ := h.ops.form
  subst h1 h2 h3
  have K1 := (Keeps.refl (fun _ => False) w).alloc (.cells #[.int .i64 t.n, .slice ai t.init.length ci, .slice ag t.goal.length cg, .slice ao t.ops.length co] 25)
  have HT := h.keeps0 (K1.alloc (.cells #[.int .i64 0, .int .i64 0] 31))
  have HB := (Four.new w (.int .i64 t.n) (.slice ai t.init.length ci) (.slice ag t.goal.length cg) (.slice ao t.ops.length co) 25).keeps0 ((Keeps.refl _ _).alloc (.cells #[.int .i64 0, .int .i64 0] 31))
  have HF : Flt w ((w.alloc (.cells #[.int .i64 t.n, .slice ai t.init.length ci, .slice ag t.goal.length cg, .slice ao t.ops.length co] 25)).alloc (.cells #[.int .i64 0, .int .i64 0] 31)) (w.heap.size + 1) 31 :=
    ⟨by have := heap_alloc_new (w.alloc (.cells #[.int .i64 t.n, .slice ai t.init.length ci, .slice ag t.goal.length cg, .slice ao t.ops.length co] 25)) (.cells #[.int .i64 0, .int .i64 0] 31); rwa [World.size_alloc] at this, by omega, K1.alloc _⟩
  replace HT := Lib.hid HT; replace HB := Lib.hid HB; replace HF := Lib.hid HF
  clear h K1
  go_enter Tryz.func17, Tryz.ntmps17
  go_upto_region 1 with fail
  generalize ((w.alloc (.cells #[.int .i64 t.n, .slice ai t.init.length ci, .slice ag t.goal.length cg, .slice ao t.ops.length co] 25)).alloc (.cells #[.int .i64 0, .int .i64 0] 31)) = w1 at HT HB HF ⊢
  have hbx := HB.out.lt
  obtain ⟨d0, d1, d2, d3⟩ := HB.out
  go_wp2_with fail
  refine (explored_any _ _ _ _ t HT.out).mono ?_; rintro e w2 ⟨rfl, hk⟩
  generalize hfe : expF t = f
  have HFE := Lib.hid hfe
  have KA := (Keeps.refl (fun _ => False) w2).alloc (.cells #[.int .i64 f.1, .int .i64 f.2] 31)
  have HB3 := Lib.hid (HB.out.keeps0 (hk.trans KA)); have HT3 := Lib.hid (HT.out.keeps0 (hk.trans KA)); have HF3 := Lib.hid (HF.out.keeps0 (hk.trans KA))
  have F0 := Lib.hid (heap_alloc_new w2 (.cells #[.int .i64 f.1, .int .i64 f.2] 31))
  have hlt2 : w.heap.size + 1 < w2.heap.size := Nat.lt_of_lt_of_le HF.out.cells.2.2.2.2 hk.size
  clear d0 d1 d2 d3 hbx hk KA hfe HB HT HF
  go_upto_region 2 with fail
  generalize w2.alloc (.cells #[.int .i64 f.1, .int .i64 f.2] 31) = w3 at HB3 HT3 HF3 F0 ⊢
  generalize w2.heap.size = b3 at F0 hlt2 ⊢
  obtain ⟨p0, p1, _, _, pl⟩ := pair_cells F0.out
  by_cases hc : f.1 = 0
  · have hq : (f.1 != 0) = false := by simpa using hc
    rcases exp_cases t with ⟨c, i, hcc, he⟩ | ⟨hok, l, hx, he⟩
    · rw [HFE.out] at he; rw [he] at hc; exact absurd hc hcc
    have OK := Lib.hid hok; have HX := Lib.hid hx; have HE := Lib.hid he
    clear hok hx he hc
    have hbx := HB3.out.lt
    obtain ⟨d0, d1, d2, d3⟩ := HB3.out
    go_wp2_with fail
    refine (bestPlans_any _ _ _ _ t HT3.out OK.out HX.out).mono ?_; rintro e w4 ⟨b, rfl, hb, hk⟩
    obtain ⟨hb1, hb2⟩ := best_small OK.out HX.out hb
    have HBT := Lib.hid hb
    have HF4 := Lib.hid (HF3.out.keeps0 hk)
    obtain ⟨ok, bv⟩ : ∃ ok cc, bestV b = .tuple #[.int .i64 cc, .int .i64 (stepsB b), .bool ok] := by
      unfold bestV stepsB
      by_cases h0 : b < 0
      · rw [if_pos h0, if_pos h0]; exact ⟨_, _, rfl⟩
      · rw [if_neg h0, if_neg h0]; exact ⟨_, _, rfl⟩
    obtain ⟨cc, bv⟩ := bv
    rw [bv]
    have F4 := hk.heap F0.out (fun h => h)
    clear p0 p1 pl d0 d1 d2 d3 hbx hb bv hk
    obtain ⟨p0, p1, _, _, pl⟩ := pair_cells F4
    obtain ⟨e0, e1, z0, z1, hF⟩ := HF4.out.cells
    have hsb : stepsB b < 5000 ∧ 0 ≤ stepsB b := by unfold stepsB; split <;> omega
    by_cases h60 : 60 < stepsB b
    · have q : decide (60 < stepsB b) = true := by simpa using h60
      have H6 := Lib.hid h60
      generalize hsv : stepsB b = sv at q hsb ⊢
      clear h60
      go_wp2_with fail
      refine (at_any _ _ _).mono ?_; rintro e w5 ⟨rfl, hk5⟩
      have HF5 := Lib.hid (HF4.out.keeps0 hk5)
      clear e0 e1 z0 z1 hF hk5
      obtain ⟨e0, e1, z0, z1, hF⟩ := HF5.out.cells
      go_wp2_with fail
      refine bodyPost_ret (results_cell_row rfl _ _ (w.heap.size + 1) 31 _ (0, 0) _ rfl (HF5.out.set (.int .i64 10) (.int .i64 (-9))).1 Tryz.underlying31 rfl (by kernel_rfl)) rfl ?_
      exact ⟨10, -9, rfl, .inr ⟨OK.out, HE.out, l, b, HX.out, HBT.out, .inl ⟨H6.out, rfl, rfl⟩⟩, (HF5.out.set _ _).2⟩
    · have q : decide (60 < stepsB b) = false := by simpa using h60
      have H6 := Lib.hid (show stepsB b ≤ 60 by omega)
      have hf12 : f.1 = 0 ∧ f.2 = 0 := by have := HFE.out.symm.trans HE.out; rw [this]; exact ⟨rfl, rfl⟩
      rw [hf12.1] at p0; rw [hf12.2] at p1
      generalize hsv : stepsB b = sv at q hsb ⊢
      clear h60
      go_wp2_with fail
      refine bodyPost_ret (results_cell_row rfl _ _ (w.heap.size + 1) 31 _ (0, 0) _ rfl (HF4.out.set (.int .i64 0) (.int .i64 0)).1 Tryz.underlying31 rfl (by kernel_rfl)) rfl ?_
      exact ⟨0, 0, rfl, .inr ⟨OK.out, HE.out, l, b, HX.out, HBT.out, .inr ⟨H6.out, rfl, rfl⟩⟩, (HF4.out.set _ _).2⟩
  · have hq : (f.1 != 0) = true := by simpa using hc
    have HC := Lib.hid hc
    clear hc
    obtain ⟨e0, e1, z0, z1, hF⟩ := HF3.out.cells
    go_wp2_with fail
    refine bodyPost_ret (results_cell_row rfl _ _ (w.heap.size + 1) 31 _ (0, 0) _ rfl (HF3.out.set (.int .i64 f.1) (.int .i64 f.2)).1 Tryz.underlying31 rfl (by kernel_rfl)) rfl ?_
    exact ⟨f.1, f.2, rfl, .inl ⟨HC.out, HFE.out⟩, (HF3.out.set _ _).2⟩

end Go.Proofs.YtkjmgafnaddhkaaGreat

namespace Go.Proofs.YtkjmgafnaddhkaaGreat
open Go.RowKit

/-- What a search hands back whose plans are best, where b is the least price. -/
structure BPlanG (t : Tsk) (l : List Nat) (b : Int) (fnd : Bool) (lp : List Int) (c n : Int) : Prop where
  n : 0 ≤ n ∧ n ≤ (l.length : Int)
  none_ : b < 0 → fnd = false ∧ lp = [] ∧ c = 0
  some_ : 0 ≤ b → fnd = true ∧ ∃ q y, lp = intsP q ∧ runOps (wordsOf t.ops) (wd t.init) q = some y ∧ goalB (wd t.goal) y = true ∧ (q.length : Int) = b % 4096 ∧ costN (wordsOf t.ops) q = b / 4096 ∧ c = costL t lp

def BPlanIs (t : Tsk) (fnd : Bool) (lp : List Int) (c n fc fi : Int) : Prop :=
  (fc ≠ 0 ∧ expF t = (fc, fi) ∧ fnd = false ∧ lp = [] ∧ c = 0 ∧ n = 0) ∨
  (expF t = (0, 0) ∧ t.Ok ∧ ∃ l b, explored t = some l ∧ BestT t b ∧ ((60 < stepsB b ∧ fc = 10 ∧ fi = -9 ∧ fnd = false ∧ lp = [] ∧ c = 0 ∧ n = 0) ∨ (stepsB b ≤ 60 ∧ fc = 0 ∧ fi = 0 ∧ BPlanG t l b fnd lp c n)))
theorem expF_bad {t : Tsk} (h : (taskFault t).1 ≠ 0) : expF t = taskFault t := by unfold expF; rw [if_neg h]
theorem expF_many {t : Tsk} (ok : t.Ok) (h : explored t = none) : expF t = (10, -7) := by unfold expF; rw [if_pos (taskFault_zero.2 ok), h]
theorem expF_ok {t : Tsk} (ok : t.Ok) {l : List Nat} (h : explored t = some l) : expF t = (0, 0) := by unfold expF; rw [if_pos (taskFault_zero.2 ok), h]

/-- No plan is found. -/
theorem bplan_none {t : Tsk} (ok : t.Ok) {l : List Nat} (hx : explored t = some l) (hb : BestT t (-1)) {n : Int} (hn : 0 ≤ n ∧ n ≤ (l.length : Int)) : BPlanIs t false [] 0 n 0 0 :=
  .inr ⟨expF_ok ok hx, ok, l, -1, hx, hb, .inr ⟨by decide, rfl, rfl, hn, fun _ => ⟨rfl, rfl, rfl⟩, fun h => absurd h (by decide)⟩⟩
/-- A plan q is found. -/
theorem bplan_short {t : Tsk} (ok : t.Ok) {l : List Nat} (hx : explored t = some l) {b : Int} (hb : BestT t b) (h0 : 0 ≤ b) {q : List Nat} {y : Nat} (hr : runOps (wordsOf t.ops) (wd t.init) q = some y) (ha : goalB (wd t.goal) y = true) (hl : (q.length : Int) = b % 4096) (hc : costN (wordsOf t.ops) q = b / 4096) (h60 : q.length ≤ 60) {n : Int} (hn : 0 ≤ n ∧ n ≤ (l.length : Int)) :
    BPlanIs t true (intsP q) (costL t (intsP q)) n 0 0 :=
  .inr ⟨expF_ok ok hx, ok, l, b, hx, hb, .inr ⟨by unfold stepsB; rw [if_neg (by omega)]; omega, rfl, rfl, hn, fun h => absurd h (by omega), fun _ => ⟨rfl, q, y, rfl, hr, ha, hl, hc, rfl⟩⟩⟩
theorem bplan_long {t : Tsk} (ok : t.Ok) {l : List Nat} (hx : explored t = some l) {b : Int} (hb : BestT t b) (h0 : 0 ≤ b) {q : List Nat} (hl : (q.length : Int) = b % 4096) (h60 : 60 < q.length) : BPlanIs t false [] 0 0 10 (-9) :=
  .inr ⟨expF_ok ok hx, ok, l, b, hx, hb, .inl ⟨by unfold stepsB; rw [if_neg (by omega)]; omega, rfl, rfl, rfl, rfl, rfl, rfl⟩⟩

end Go.Proofs.YtkjmgafnaddhkaaGreat

namespace Go.Proofs.YtkjmgafnaddhkaaGreat
open Go.RowKit Go.Shelf

/-- What Value says of a task's states for a kind. -/
def ValC (t : Tsk) (kind : Int) (L : List Nat) (H : Nat → Int) : Prop := ∀ (W : World) (vi vg vo vs : Value) (x : Nat), TaskAt W vi vg vo t → x ∈ L → Ints W vs (facts x) →
  Calls Tryz.prog 78 #[.agg #[.int .i64 t.n, vi, vg, vo], .int .i64 kind, vs] W fun e W' => e = .returned (.int .i64 (H x)) ∧ Keeps (fun _ => False) W W'

set_option maxRecDepth 100000 in
set_option maxHeartbeats 2000000 in
theorem value0_any (t : Tsk) (L : List Nat) : ValC t 0 L (fun _ => 0) := by
  intro w vi vg vo vs x h hx hs
  obtain ⟨ai, ci, h1, _⟩ := h.init.form
  obtain ⟨ag, cg, h2, _⟩ := h.goal.form
  obtain ⟨ao, co, h3, hmo⟩ := h.ops.form
  subst h1 h2 h3
  have K1 := Lib.hid ((Keeps.refl (fun _ => False) w).alloc (.cells #[.int .i64 t.n, .slice ai t.init.length ci, .slice ag t.goal.length cg, .slice ao t.ops.length co] 25))
  clear h hs
  go_enter Tryz.func78, Tryz.ntmps78
  go_wp2_with fail
  go_ret
  exact ⟨rfl, K1.out⟩

/-- The function value's own memory: the map of what it has said, the task and the kind. -/
structure HeurM (t : Tsk) (kind : Int) (H : Nat → Int) (w0 : World) (kb tb qb mb : Nat) (vi vg vo : Value) (W : World) : Prop where
  kbox : W.heap[kb]? = some (.cells #[.map (some mb)] 80 (0, 0))
  tbox : W.heap[tb]? = some (.cells #[.int .i64 t.n, vi, vg, vo] 25 (0, 0))
  qbox : W.heap[qb]? = some (.cells #[.int .i64 kind] 3 (0, 0))
  known : ∃ K, FMap W mb intV K ∧ ∀ x v, K x = some v → v = H x
  task : Keeps (fun _ => False) w0 W

theorem HeurM.keeps {t : Tsk} {kind : Int} {H : Nat → Int} {w0 W W' : World} {kb tb qb mb : Nat} {vi vg vo : Value} {S : Nat → Prop} (h : HeurM t kind H w0 kb tb qb mb vi vg vo W) (hk : Keeps S W W') (s1 : ¬ S kb) (s2 : ¬ S tb) (s3 : ¬ S qb) (s4 : ¬ S mb) (hS : ∀ k, S k → w0.heap.size ≤ k) : HeurM t kind H w0 kb tb qb mb vi vg vo W' := by
  obtain ⟨K, h1, h2⟩ := h.known
  exact ⟨hk.heap h.kbox s1, hk.heap h.tbox s2, hk.heap h.qbox s3, ⟨K, h1.keeps hk s4, h2⟩, h.task.trans' hk (fun i hi => .inr (hS i hi))⟩

set_option maxRecDepth 100000 in
set_option maxHeartbeats 2000000 in
theorem heur1_any (t : Tsk) (kind : Int) (L : List Nat) (H : Nat → Int) (hv : ValC t kind L H) (w0 : World) (kb tb qb mb : Nat) (vi vg vo : Value) (h0 : TaskAt w0 vi vg vo t) (hmb : w0.heap.size ≤ mb) (W : World) (x : Nat) (h : HeurM t kind H w0 kb tb qb mb vi vg vo W) (hx : x ∈ L) :
    Calls Tryz.prog 77 #[.int .u32 (x : Int), .pointer (some ⟨kb, 0, none⟩), .pointer (some ⟨tb, 0, none⟩), .pointer (some ⟨qb, 0, none⟩)] W fun e W' => e = .returned (.int .i64 (H x)) ∧ HeurM t kind H w0 kb tb qb mb vi vg vo W' ∧ Keeps (fun k => k = mb) W W' := by
  obtain ⟨ai, ci, h1, _⟩ := h0.init.form
  obtain ⟨ag, cg, h2, _⟩ := h0.goal.form
  obtain ⟨ao, co, h3, hmo⟩ := h0.ops.form
  subst h1 h2 h3
  obtain ⟨K, hK, hKH⟩ := h.known
  have HH := Lib.hid h; have HK := Lib.hid hK; have HKH := Lib.hid hKH; have HX := Lib.hid hx; have HV := Lib.hid hv; have H0 := Lib.hid h0
  have c1 : W.cell? ⟨kb, 0, none⟩ = some (.map (some mb)) := (cell_of_blk h.kbox).trans rfl
  have l1 := lt_of_heap h.kbox
  have n1 : kb ≠ mb := fun e => hK.ne_cells h.kbox e.symm
  have n2 : tb ≠ mb := fun e => hK.ne_cells h.tbox e.symm
  have n3 : qb ≠ mb := fun e => hK.ne_cells h.qbox e.symm
  obtain ⟨qv, qb', hlk, hqt, hqf⟩ := costLookT hK x
  clear h hK hKH hx hv h0
  go_enter Tryz.func77, Tryz.ntmps77
  cases qb' with
  | true =>
    have he := HKH.out x qv (hqt rfl)
    subst he
    clear hqt hqf
    go_wp2_with fail
    go_ret
    exact ⟨rfl, HH.out, Keeps.refl _ _⟩
  | false =>
    clear hqt hqf
    have KD := (Keeps.refl (fun _ => False) W).drew
    have HD := Lib.hid (HH.out.keeps KD (fun h => h) (fun h => h) (fun h => h) (fun h => h) (fun _ h => h.elim))
    have KDD := Lib.hid KD
    obtain ⟨t0, t1, t2, t3, tl⟩ := quad_cells HD.out.tbox
    have q0 : W.drew.cell? ⟨qb, 0, none⟩ = some (.int .i64 kind) := (cell_of_blk HD.out.qbox).trans rfl
    have ql := lt_of_heap HD.out.qbox
    clear KD
    go_wp2_with fail
    go_region_held3 (fun w' => w'.cell? ⟨tb, 0, none⟩ = some (.int .i64 t.n) ∧ w'.cell? ⟨tb, 1, none⟩ = some (.slice ai t.init.length ci) ∧ w'.cell? ⟨tb, 2, none⟩ = some (.slice ag t.goal.length cg) ∧ w'.cell? ⟨tb, 3, none⟩ = some (.slice ao t.ops.length co) ∧ w'.cell? ⟨qb, 0, none⟩ = some (.int .i64 kind))
      (go_keep)
      (first
        | (go_at_call 58; refine (facts_any _ x).mono ?_; rintro en wa ⟨vx, rfl, hrow, hka, _⟩; have hia := Ints.of_own hrow; have HIA := Lib.hid hia; have ha0 := hka.cell t0 (fun h => h); have ha1 := hka.cell t1 (fun h => h); have ha2 := hka.cell t2 (fun h => h); have ha3 := hka.cell t3 (fun h => h); have ha4 := hka.cell q0 (fun h => h); have KA := Lib.hid (KDD.out.trans hka); clear hrow hka hia)
        | (go_at_call 78; refine (HV.out _ _ _ _ _ x (H0.out.keeps0 (HH.out.task.trans KA.out)) HX.out HIA.out).mono ?_; rintro en wb ⟨rfl, hkb⟩; have hb0 := hkb.cell ha0 (fun h => h); have hb1 := hkb.cell ha1 (fun h => h); have hb2 := hkb.cell ha2 (fun h => h); have hb3 := hkb.cell ha3 (fun h => h); have hb4 := hkb.cell ha4 (fun h => h); have KB := Lib.hid (KA.out.trans hkb); clear hkb))
    all_goals
      have HB := Lib.hid (HH.out.keeps KB.out (fun h => h) (fun h => h) (fun h => h) (fun h => h) (fun _ h => h.elim))
      have hKb := HK.out.keeps KB.out (fun h => h)
      obtain ⟨wc, hrc, hmc, hkc⟩ := hKb.put (P := Tryz.prog) Tryz.underlying80 Tryz.underlying82 x (H x)
      unfold intV at hrc
      have k1c : wb.cell? ⟨kb, 0, none⟩ = some (.map (some mb)) := (cell_of_blk HB.out.kbox).trans rfl
      have k1l := lt_of_heap HB.out.kbox
      have HC := Lib.hid (show HeurM t kind H w0 kb tb qb mb _ _ _ wc ∧ Keeps (fun k => k = mb) W wc from ⟨⟨hkc.heap HB.out.kbox n1, hkc.heap HB.out.tbox n2, hkc.heap HB.out.qbox n3, ⟨_, hmc, fun y v hy => by
        unfold putP at hy
        split at hy
        · rename_i e; cases hy; rw [e]
        · exact HKH.out y v hy⟩, HB.out.task.trans' hkc (fun i hi => .inr (by rw [hi]; exact hmb))⟩, (KB.out.mono (fun _ _ h => h.elim)).trans hkc⟩)
      clear hmc hkc hKb
      go_wp2_with fail
      go_ret
      exact ⟨rfl, HC.out.1, HC.out.2⟩

/-- The function value keeps the contract of a heuristic. -/
theorem heur_is (t : Tsk) (kind : Int) (L : List Nat) (H : Nat → Int) (hv : ValC t kind L H) (w0 : World) (kb tb qb mb n0 B : Nat) (vi vg vo : Value) (h0 : TaskAt w0 vi vg vo t) (hmb : w0.heap.size ≤ mb) (hn : n0 ≤ mb) (b1 : kb < B) (b2 : tb < B) (b3 : qb < B) (b4 : mb < B) :
    Heur 77 #[] #[.pointer (some ⟨kb, 0, none⟩), .pointer (some ⟨tb, 0, none⟩), .pointer (some ⟨qb, 0, none⟩)] L H n0 B (fun k => k = mb) (HeurM t kind H w0 kb tb qb mb vi vg vo) := by
  refine ⟨enters_of Tryz.func77 (by kernel_rfl) rfl, fun W x hI hx => ?_, fun {S W W'} hI hk hS => ?_, fun {W k} hI hk => ?_, fun k hk => ?_⟩
  · exact (heur1_any t kind L H hv w0 kb tb qb mb vi vg vo h0 hmb W x hI hx).mono fun e W' h => h
  · exact hI.keeps hk (fun h => by have := hS _ h; omega) (fun h => by have := hS _ h; omega) (fun h => by have := hS _ h; omega) (fun h => by have := hS _ h; omega) (fun k h => by have := hS k h; omega)
  · obtain ⟨K, h1, _⟩ := hI.known
    rw [hk]; exact h1.not_deferred
  · rw [hk]; exact ⟨hn, b4⟩

end Go.Proofs.YtkjmgafnaddhkaaGreat

namespace Go.Proofs.YtkjmgafnaddhkaaGreat
open Go.RowKit Go.Shelf

theorem CheckedPost.form {t : Tsk} {w w' : World} {e : Ending} (h : CheckedPost t w e w') : ∃ pv lv c i, e = .returned (.tuple #[pv, lv, .agg #[.int .i64 c, .int .i64 i]]) := by
  rcases h.2 with ⟨_, h⟩ | ⟨_, _, h⟩ | ⟨_, _, _, b, v, vl, ws, h, _⟩
  · exact ⟨_, _, _, _, h⟩
  · exact ⟨_, _, _, _, h⟩
  · exact ⟨_, _, _, _, h⟩
theorem CheckedPost.past {t : Tsk} {w w1 w2 w' : World} {e : Ending} {S : Nat → Prop} (h : CheckedPost t w1 e w2) (hz : w.heap.size ≤ w1.heap.size) (hk : Keeps S w2 w') (hS : ∀ k, S k → k < w1.heap.size) (k0 : Keeps (fun _ => False) w w') : CheckedPost t w e w' := by
  refine ⟨k0, ?_⟩
  rcases h.2 with h | h | ⟨ok, l, hx, b, v, vl, ws, he, hw, hp, hs, hown⟩
  · exact .inl h
  · exact .inr (.inl h)
  · exact .inr (.inr ⟨ok, l, hx, b, v, vl, ws, he, (hw.keepsS hk (fun h => by have := hS _ h; have := hw.low; omega) (fun k hk' h => by have := hS _ h; have := (hw.own.lt k hk').1; omega)).mono hz, hp, hs, ownsRow_mono (hk.ownsRow hown (fun k hk' h => by have := hS _ h; have := (hown.lt k hk').1; omega)) hz⟩)

set_option maxRecDepth 100000 in
set_option maxHeartbeats 2000000 in
theorem acheck_any (w : World) (vi vg vo : Value) (t : Tsk) (h : TaskAt w vi vg vo t) :
    Calls Tryz.prog 45 #[.agg #[.int .i64 t.n, vi, vg, vo], .bool true] w (CheckedPost t w) := by
  obtain ⟨ai, ci, h1, _⟩ := h.init.form
  obtain ⟨ag, cg, h2, _⟩ := h.goal.form
  obtain ⟨ao, co, h3, hmo⟩ := h.ops.form
  subst h1 h2 h3
  have K1 := (Keeps.refl (fun _ => False) w).alloc (.cells #[.int .i64 t.n, .slice ai t.init.length ci, .slice ag t.goal.length cg, .slice ao t.ops.length co] 25)
  have HT := h.keeps0 (K1.alloc (.cells #[.int .i64 0, .int .i64 0] 31))
  have HB := (Four.new w (.int .i64 t.n) (.slice ai t.init.length ci) (.slice ag t.goal.length cg) (.slice ao t.ops.length co) 25).keeps0 ((Keeps.refl _ _).alloc (.cells #[.int .i64 0, .int .i64 0] 31))
  have HF : Flt w ((w.alloc (.cells #[.int .i64 t.n, .slice ai t.init.length ci, .slice ag t.goal.length cg, .slice ao t.ops.length co] 25)).alloc (.cells #[.int .i64 0, .int .i64 0] 31)) (w.heap.size + 1) 31 :=
    ⟨by have := heap_alloc_new (w.alloc (.cells #[.int .i64 t.n, .slice ai t.init.length ci, .slice ag t.goal.length cg, .slice ao t.ops.length co] 25)) (.cells #[.int .i64 0, .int .i64 0] 31); rwa [World.size_alloc] at this, by omega, K1.alloc _⟩
  replace HT := Lib.hid HT; replace HB := Lib.hid HB; replace HF := Lib.hid HF
  clear h K1
  go_enter Tryz.func45, Tryz.ntmps45
  go_upto_region 1 with fail
  generalize ((w.alloc (.cells #[.int .i64 t.n, .slice ai t.init.length ci, .slice ag t.goal.length cg, .slice ao t.ops.length co] 25)).alloc (.cells #[.int .i64 0, .int .i64 0] 31)) = w1 at HT HB HF ⊢
  have hbx := HB.out.lt
  obtain ⟨d0, d1, d2, d3⟩ := HB.out
  go_wp2_with fail
  refine (checked_any _ _ _ _ t HT.out).mono ?_; rintro e w2 hr
  obtain ⟨pv, lv, c, i, rfl⟩ := hr.form
  have HR := Lib.hid hr
  have KA := (Keeps.refl (fun _ => False) w2).alloc (.cells #[.int .i64 c, .int .i64 i] 31)
  have HF3 := Lib.hid (HF.out.keeps0 (hr.1.trans KA))
  have F0 := Lib.hid (heap_alloc_new w2 (.cells #[.int .i64 c, .int .i64 i] 31))
  have HKA := Lib.hid KA
  have hw1 := HF.out.cells.2.2.2.2
  have hww : w.heap.size ≤ w1.heap.size := HF.out.keep.size
  clear d0 d1 d2 d3 hbx hr KA HT HB HF
  go_upto_region 2 with fail
  generalize w2.alloc (.cells #[.int .i64 c, .int .i64 i] 31) = w3 at HF3 F0 HKA ⊢
  generalize w2.heap.size = b3 at F0 ⊢
  obtain ⟨f0, f1, _, _, fl⟩ := pair_cells F0.out
  obtain ⟨e0, e1, z0, z1, hF⟩ := HF3.out.cells
  go_wp2_with fail
  go_region
  all_goals
    go_wp2
    refine bodyPost_ret (results_tmp2_cell _ _ (w.heap.size + 1) 31 #[.int .i64 c, .int .i64 i] (0, 0) _ rfl rfl (((Keeps.refl (fun _ => False) _).drew).heap (HF3.out.set (.int .i64 c) (.int .i64 i)).1 (fun h => h)) Tryz.underlying31 rfl (by kernel_rfl)) rfl ?_
    exact HR.out.past hww ((HKA.out.mono (S' := fun k => k = w.heap.size + 1) (fun _ _ h => h.elim)).trans ((keeps_pair (w := w3) (w.heap.size + 1) (.int .i64 c) (.int .i64 i)).drew)) (fun k hk => by rw [hk]; exact hw1) ((HF3.out.set (.int .i64 c) (.int .i64 i)).2.drew)

set_option maxRecDepth 100000 in
set_option maxHeartbeats 2000000 in
theorem heuristic_any (w : World) (vi vg vo : Value) (t : Tsk) (kind : Int) (H : Nat → Int) (h : TaskAt w vi vg vo t) :
    Calls Tryz.prog 48 #[.agg #[.int .i64 t.n, vi, vg, vo], .int .i64 kind] w fun e w' => ∃ kb tb qb mb : Nat, e = .returned (.func (.func 77) #[] #[.pointer (some ⟨kb, 0, none⟩), .pointer (some ⟨tb, 0, none⟩), .pointer (some ⟨qb, 0, none⟩)]) ∧
      HeurM t kind H w kb tb qb mb vi vg vo w' ∧ w.heap.size ≤ mb ∧ kb < w'.heap.size ∧ tb < w'.heap.size ∧ qb < w'.heap.size ∧ mb < w'.heap.size ∧ Keeps (fun _ => False) w w' := by
  have hmm := @run_makeMap Tryz.prog
  have hmf : ∀ (fn : Fn) (first cap : Array Value) (w : World), (Instr.makeFunc fn first cap).run Tryz.prog w = .ok (.func fn first cap) w := fun _ _ _ _ => rfl
  obtain ⟨ai, ci, h1, _⟩ := h.init.form
  obtain ⟨ag, cg, h2, _⟩ := h.goal.form
  obtain ⟨ao, co, h3, hmo⟩ := h.ops.form
  subst h1 h2 h3
  clear h
  go_enter Tryz.func48, Tryz.ntmps48
  go_wp2_with fail
  go_ret
  have b1 := heap_alloc_new w (.cells #[.int .i64 t.n, .slice ai t.init.length ci, .slice ag t.goal.length cg, .slice ao t.ops.length co] 25)
  have b2 := heap_alloc_new (w.alloc (.cells #[.int .i64 t.n, .slice ai t.init.length ci, .slice ag t.goal.length cg, .slice ao t.ops.length co] 25)) (.cells #[.int .i64 kind] 3)
  have k2 := (Keeps.refl (fun _ => False) (w.alloc (.cells #[.int .i64 t.n, .slice ai t.init.length ci, .slice ag t.goal.length cg, .slice ao t.ops.length co] 25))).alloc (.cells #[.int .i64 kind] 3)
  have m3 := FMap.made ((w.alloc (.cells #[.int .i64 t.n, .slice ai t.init.length ci, .slice ag t.goal.length cg, .slice ao t.ops.length co] 25)).alloc (.cells #[.int .i64 kind] 3)) intV
  have k3 := (Keeps.refl (fun _ => False) ((w.alloc (.cells #[.int .i64 t.n, .slice ai t.init.length ci, .slice ag t.goal.length cg, .slice ao t.ops.length co] 25)).alloc (.cells #[.int .i64 kind] 3))).alloc (.map #[] 0)
  have b4 := heap_alloc_new (((w.alloc (.cells #[.int .i64 t.n, .slice ai t.init.length ci, .slice ag t.goal.length cg, .slice ao t.ops.length co] 25)).alloc (.cells #[.int .i64 kind] 3)).alloc (.map #[] 0)) (.cells #[.map (some (w.heap.size + 1 + 1))] 80)
  have k4 := (Keeps.refl (fun _ => False) (((w.alloc (.cells #[.int .i64 t.n, .slice ai t.init.length ci, .slice ag t.goal.length cg, .slice ao t.ops.length co] 25)).alloc (.cells #[.int .i64 kind] 3)).alloc (.map #[] 0))).alloc (.cells #[.map (some (w.heap.size + 1 + 1))] 80)
  have k1 := (Keeps.refl (fun _ => False) w).alloc (.cells #[.int .i64 t.n, .slice ai t.init.length ci, .slice ag t.goal.length cg, .slice ao t.ops.length co] 25)
  rw [World.size_alloc] at b2
  rw [World.size_alloc, World.size_alloc] at m3
  rw [World.size_alloc, World.size_alloc, World.size_alloc] at b4
  have k34 := k3.trans k4
  exact ⟨w.heap.size + 1 + 1 + 1, w.heap.size, w.heap.size + 1, w.heap.size + 1 + 1, rfl, ⟨b4, k34.heap (k2.heap b1 (fun h => h)) (fun h => h), k34.heap b2 (fun h => h), ⟨_, m3.keeps k4 (fun h => h), fun x v hx => by cases hx⟩, k1.trans (k2.trans k34)⟩, by omega, by simp only [World.size_alloc]; omega, by simp only [World.size_alloc]; omega, by simp only [World.size_alloc]; omega, by simp only [World.size_alloc]; omega, k1.trans (k2.trans k34)⟩

end Go.Proofs.YtkjmgafnaddhkaaGreat

namespace Go.Proofs.YtkjmgafnaddhkaaGreat
open Go.RowKit Go.Shelf

/-- What a kind of heuristic says, where it is admissible. -/
def SaysH (t : Tsk) (kind : Int) (H : Nat → Int) : Prop := ∀ l, t.Ok → explored t = some l → ValC t kind l H ∧ Adm (wordsOf t.ops) l (goalB (wd t.goal)) H
theorem ValC.perm {t : Tsk} {kind : Int} {l ws : List Nat} {H : Nat → Int} (h : ValC t kind l H) (hp : ws.Perm l) : ValC t kind ws H := fun W vi vg vo vs x ht hx hi => h W vi vg vo vs x ht (hp.mem_iff.1 hx) hi
theorem Adm.perm {ops : List Wop} {l ws : List Nat} {acc : Nat → Bool} {H : Nat → Int} (h : Adm ops l acc H) (hp : ws.Perm l) : Adm ops ws acc H := ⟨fun x hx => h.lo x (hp.mem_iff.1 hx), fun x hx => h.low x (hp.mem_iff.1 hx)⟩

theorem aresult_long (w : World) (vi vg vo vp : Value) (t : Tsk) (p : List Int) (found : Bool) (n : Int) (h : TaskAt w vi vg vo t) (ok : t.Ok) (hp : Ints w vp p) (hin : PlanIn t p) (hl : 60 < p.length) :
    Calls Tryz.prog 49 #[.agg #[.int .i64 t.n, vi, vg, vo], vp, .bool found, .int .i64 n] w fun e w' => e = .returned (.tuple #[.agg #[.bool false, .slice none 0 0, .int .i64 0, .int .i64 0], .agg #[.int .i64 10, .int .i64 (-9)]]) ∧ Keeps (fun _ => False) w w' :=
  (result_any w vi vg vo vp t p found n h ok hp hin).mono fun e w' hr => by
    rcases hr.2 with ⟨_, he⟩ | ⟨h2, _⟩
    · exact ⟨he, hr.1⟩
    · omega
theorem aresult_fit (w : World) (vi vg vo vp : Value) (t : Tsk) (p : List Int) (found : Bool) (n : Int) (h : TaskAt w vi vg vo t) (ok : t.Ok) (hp : Ints w vp p) (hin : PlanIn t p) (hl : p.length ≤ 60) :
    Calls Tryz.prog 49 #[.agg #[.int .i64 t.n, vi, vg, vo], vp, .bool found, .int .i64 n] w fun e w' => e = .returned (.tuple #[.agg #[.bool found, vp, .int .i64 (costL t p), .int .i64 n], .agg #[.int .i64 0, .int .i64 0]]) ∧ Keeps (fun _ => False) w w' :=
  (result_any w vi vg vo vp t p found n h ok hp hin).mono fun e w' hr => by
    rcases hr.2 with ⟨h2, _⟩ | ⟨_, he⟩
    · omega
    · exact ⟨he, hr.1⟩

end Go.Proofs.YtkjmgafnaddhkaaGreat

namespace Go.Proofs.YtkjmgafnaddhkaaGreat

/-- Rounds until nothing changes. -/
def fixG {α : Type} [DecidableEq α] (F : α → α) : Nat → α → α
  | 0, v => v
  | n + 1, v => if F v = v then v else fixG F n (F v)

/-- A round keeps I, and lessens the measure where it changes something. -/
def Okf {α : Type} (I : α → Prop) (μ : α → Nat) (R : α → α → Prop) (f : α → α) : Prop := ∀ v, I v → I (f v) ∧ R v (f v) ∧ (f v = v ∨ μ (f v) < μ v)

section
variable {α : Type} [DecidableEq α] {F : α → α} {I : α → Prop} {μ : α → Nat} {R : α → α → Prop}
theorem fixG_done {v : α} (h : F v = v) : ∀ n, fixG F n v = v
  | 0 => rfl
  | n + 1 => by rw [fixG, if_pos h]
theorem fixG_spec (hf : Okf I μ R F) (hr : ∀ v, R v v) (ht : ∀ a b c, R a b → R b c → R a c) : ∀ (n : Nat) (v : α), I v → μ v ≤ n → I (fixG F n v) ∧ R v (fixG F n v) ∧ F (fixG F n v) = fixG F n v
  | 0, v, hv, hw => by
    obtain ⟨h1, h2, h3⟩ := hf v hv
    exact ⟨hv, hr v, h3.resolve_right (by omega)⟩
  | n + 1, v, hv, hw => by
    obtain ⟨h1, h2, h3⟩ := hf v hv
    unfold fixG
    by_cases he : F v = v
    · rw [if_pos he]; exact ⟨hv, hr v, he⟩
    · rw [if_neg he]
      obtain ⟨g1, g2, g3⟩ := fixG_spec hf hr ht n (F v) h1 (by have := h3.resolve_left he; omega)
      exact ⟨g1, ht _ _ _ h2 g2, g3⟩
theorem fixG_step (hf : Okf I μ R F) : ∀ (n : Nat) (v : α), I v → μ v ≤ n → fixG F n (F v) = fixG F n v
  | 0, v, hv, hw => by
    rcases (hf v hv).2.2 with h | h
    · rw [h]
    · omega
  | n + 1, v, hv, hw => by
    by_cases he : F v = v
    · rw [he]
    · obtain ⟨h1, _, h3⟩ := hf v hv
      have hl := h3.resolve_left he
      have e1 : fixG F (n + 1) v = fixG F n (F v) := by rw [fixG, if_neg he]
      rw [e1, fixG]
      by_cases h4 : F (F v) = F v
      · rw [if_pos h4, fixG_done h4]
      · rw [if_neg h4]; exact fixG_step hf n (F v) h1 (by omega)

end

section
variable {α : Type} {I : α → Prop} {μ : α → Nat} {R : α → α → Prop} {β : Type} {f : β → α → α}
theorem okf_fold (hr : ∀ v, R v v) (ht : ∀ a b c, R a b → R b c → R a c) : ∀ (l : List β), (∀ a ∈ l, Okf I μ R (f a)) → Okf I μ R (fun v => l.foldl (fun v a => f a v) v)
  | [], _ => fun v hv => ⟨hv, hr v, .inl rfl⟩
  | a :: l, h => fun v hv => by
    obtain ⟨h1, h2, h3⟩ := h a (by simp) v hv
    obtain ⟨g1, g2, g3⟩ := okf_fold hr ht l (fun b hb => h b (by simp [hb])) (f a v) h1
    simp only [List.foldl_cons]
    refine ⟨g1, ht _ _ _ h2 g2, ?_⟩
    simp only at g3
    rcases h3 with h3 | h3
    · rw [h3] at g3 ⊢; exact g3
    · rcases g3 with g3 | g3
      · rw [g3]; exact .inr h3
      · exact .inr (by omega)
/-- Where a row of steps changes nothing, no step does. -/
theorem fold_done (hr : ∀ v, R v v) (ht : ∀ a b c, R a b → R b c → R a c) : ∀ (l : List β), (∀ a ∈ l, Okf I μ R (f a)) → ∀ v, I v → l.foldl (fun v a => f a v) v = v → ∀ a ∈ l, f a v = v
  | [], _, _, _, _ => fun _ h => (List.not_mem_nil h).elim
  | a :: l, h, v, hv, he => by
    obtain ⟨h1, h2, h3⟩ := h a (by simp) v hv
    have hg := okf_fold hr ht l (fun b hb => h b (by simp [hb]))
    obtain ⟨g1, g2, g3⟩ := hg (f a v) h1
    simp only [List.foldl_cons] at he
    simp only at g3
    have ha : f a v = v := by
      rcases h3 with h3 | h3
      · exact h3
      · exfalso
        rw [he] at g3
        rcases g3 with g3 | g3
        · rw [← g3] at h3; omega
        · omega
    rw [ha] at he
    intro b hb
    rcases List.mem_cons.1 hb with rfl | hb
    · exact ha
    · exact fold_done hr ht l (fun b hb => h b (by simp [hb])) v hv he b hb
/-- Two rows of steps, one behind the other. -/
theorem okf_comp (ht : ∀ a b c, R a b → R b c → R a c) {g h : α → α} (hg : Okf I μ R g) (hh : Okf I μ R h) : Okf I μ R (fun v => h (g v)) := fun v hv => by
  obtain ⟨a1, a2, a3⟩ := hg v hv
  obtain ⟨b1, b2, b3⟩ := hh (g v) a1
  refine ⟨b1, ht _ _ _ a2 b2, ?_⟩
  show h (g v) = v ∨ μ (h (g v)) < μ v
  rcases a3 with a3 | a3
  · rw [a3] at b3 ⊢; exact b3
  · rcases b3 with b3 | b3
    · rw [b3]; exact .inr a3
    · exact .inr (by omega)
theorem comp_done {g h : α → α} (hg : Okf I μ R g) (hh : Okf I μ R h) {v : α} (hv : I v) (he : h (g v) = v) : g v = v ∧ h v = v := by
  obtain ⟨a1, a2, a3⟩ := hg v hv
  obtain ⟨b1, b2, b3⟩ := hh (g v) a1
  have e : g v = v := by
    rcases a3 with a3 | a3
    · exact a3
    · exfalso
      rw [he] at b3
      rcases b3 with b3 | b3
      · rw [← b3] at a3; omega
      · omega
  rw [e] at he
  exact ⟨e, he⟩
end

/-- Has something changed since v? -/
def Flag {α : Type} (μ : α → Nat) (v v' : α) (ch : Bool) : Prop := (ch = false ∧ v' = v) ∨ (ch = true ∧ μ v' < μ v)
theorem Flag.more {α : Type} {μ : α → Nat} {v v1 v2 : α} {c d : Bool} (h : Flag μ v v1 c) (h' : Flag μ v1 v2 d) : Flag μ v v2 (d || c) := by
  rcases h with ⟨rfl, rfl⟩ | ⟨rfl, h⟩
  · rw [Bool.or_false]; exact h'
  · rcases h' with ⟨rfl, rfl⟩ | ⟨rfl, h'⟩
    · exact .inr ⟨rfl, h⟩
    · exact .inr ⟨rfl, by omega⟩

end Go.Proofs.YtkjmgafnaddhkaaGreat
