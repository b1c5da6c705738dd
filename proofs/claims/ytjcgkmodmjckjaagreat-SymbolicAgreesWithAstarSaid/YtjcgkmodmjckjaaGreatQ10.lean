/- symbolic.Plan: its steps, in plain Lean. symbolic.Plan. What the numbers of the layers say, in plain Lean. noResult, isOne, StateFault of the reference. symbolic: the example of the laws. bothends: the closure that notes where the sides meet (meet$1). bothends: newSide. bothends: the rows of arcs of both sides, as they grow; the cells of a row of arcs. bothends: both sides in memory, apart from each other, and what one call of advance leaves of them. The queue's First: the least key, and whether there is one. bothends: both sides in memory as meet has made them. The reference's IsBest, at a best plan; the law's bestMatches. astar: what a best-first search with an admissible heuristic finds, in plain Lean. astar: what a best-first search has in memory, and a heuristic as a function value. No condition beyond what each theorem says. -/
import Derived.Test.YtjcgkmodmjckjaaGreatQ9
import Derived.Test.YtjcgkmodmjckjaaGreatQ7
import Derived.Test.YtjcgkmodmjckjaaGreatQ3
import Derived.Test.YtjcgkmodmjckjaaGreatQ4
import Derived.Test.YtjcgkmodmjckjaaGreatQ5
import Derived.Test.YtjcgkmodmjckjaaGreatQ8
import Derived.Sort.LoopGhostIn
import Derived.Test.YtjcgkmodmjckjaaGreatQ6

namespace Go.Proofs.YtjcgkmodmjckjaaGreat
open Go.RowKit

theorem goal_lit {g : List Int} {n : Int} (hg : isSetB g n = true) (x : Nat) : litS true g (fun _ => true) x = goalB (wd g) x := by
  have hp := (isSet_iff.1 hg).1
  rw [Bool.eq_iff_iff, litS_iff]
  unfold goalB
  simp only [beq_iff_eq, true_and]
  constructor
  · intro h
    apply Nat.eq_of_testBit_eq
    intro i
    rw [Nat.testBit_and, testBit_wd (fun x hx => (hp x hx).1)]
    by_cases hi : (i : Int) ∈ g
    · have := h _ hi
      simp at this
      simp [hi, this]
    · simp [hi]
  · intro h p hpp
    have h1 := congrArg (fun w => w.testBit p.toNat) h
    have e : ((p.toNat : Nat) : Int) = p := by have := (hp p hpp).1; omega
    simp only [Nat.testBit_and] at h1
    rw [testBit_wd (fun x hx => (hp x hx).1), e] at h1
    simpa [hpp] using h1
/-- What an operator's image costs, where the set is empty and where it is not. -/
def icost (ly : Nat) : Nat := if ly = 0 then 48 else 38273023
def jz (ly j : Nat) : Nat := if ly = 0 then 0 else j
theorem img_pay {p q ly : Nat} (hp : p ≤ 24) (hq : q ≤ 24) : p * (1 + opC ly) + (q * opC ly + q * (1 + opC ly)) ≤ if ly = 0 then 48 else 37748736 := by
  by_cases h : ly = 0
  · subst h
    have e : opC 0 = 0 := by unfold opC; rw [if_pos rfl]
    rw [e, if_pos rfl]; omega
  · rw [if_neg h]; exact img_cost hp hq (opC_le ly)
/-- What the images cost, up to an operator. -/
def ipay (ly j : Nat) : Nat := if ly = 0 then 48 * j else 38273023 * j
theorem ipay_succ (ly j : Nat) : ipay ly (j + 1) = ipay ly j + icost ly := by unfold ipay icost; split <;> omega
theorem ipay_zero (ly : Nat) : ipay ly 0 = 0 := by unfold ipay; split <;> omega
theorem ipay_le {ly j : Nat} (hj : j ≤ 40) : ipay ly j ≤ 1530920920 := by unfold ipay; split <;> omega
theorem jz_zero (ly : Nat) : jz ly 0 = 0 := by unfold jz; split <;> rfl
theorem jz_succ (ly j : Nat) : jz ly j ≤ jz ly (j + 1) := by unfold jz; split <;> omega
theorem jz_step {ly j : Nat} (h : ly ≠ 0) : jz ly (j + 1) = jz ly j + 1 := by unfold jz; rw [if_neg h, if_neg h]
theorem jz_le {ly j : Nat} (hj : j ≤ 40) : jz ly j ≤ 40 := by unfold jz; split <;> omega
/-- The account of a round: b nodes, a waiting prices, n states; sl states more. -/
theorem round_pays {b b2 b3 b4 b5 a a1 a5 n sl j ly wk : Nat} {t t5 : Int} (h : b + 1600000 * a ≤ 14600000 + n * 1597100000) (h2 : b2 ≤ b + (524287 + opC wk)) (h3 : b3 ≤ b2 + opC ly) (h4 : b4 ≤ b3 + 524287) (h5 : b5 ≤ b4 + ipay ly j) (hj : j ≤ 40) (ha : a1 + 1 = a) (ha5 : a5 ≤ a1 + jz ly j) (hsl : ly ≠ 0 → 1 ≤ sl) (han : a ≤ 1 + 40 * n) (ht : t ≤ 1 + 40 * (n : Int)) (ht5 : t5 ≤ t + (jz ly j : Int)) :
    b5 + 1600000 * a5 ≤ 14600000 + (n + sl) * 1597100000 ∧ a5 ≤ 1 + 40 * (n + sl) ∧ t5 ≤ 1 + 40 * ((n + sl : Nat) : Int) ∧ (n + sl ≤ 2000 → 41 * (2000 - (n + sl)) + a5 < 41 * (2000 - n) + a) := by
  have h6 := opC_le wk
  by_cases h0 : ly = 0
  · subst h0
    have e1 : opC 0 = 0 := by unfold opC; rw [if_pos rfl]
    have e2 : ipay 0 j = 48 * j := by unfold ipay; rw [if_pos rfl]
    have e3 : jz 0 j = 0 := by unfold jz; rw [if_pos rfl]
    rw [e1] at h3; rw [e2] at h5; rw [e3] at ha5 ht5
    refine ⟨?_, ?_, ?_, fun _ => ?_⟩ <;> omega
  · have h7 := opC_le ly
    have h8 := hsl h0
    have h9 := ipay_le (ly := ly) hj
    have h10 := jz_le (ly := ly) hj
    refine ⟨?_, ?_, ?_, fun _ => ?_⟩ <;> omega
theorem put_has {D : Nat → Option Nat} {p ly : Nat} (k : Nat) : (∃ v, putP D p ly k = some v) ↔ (∃ v, D k = some v) ∨ k = p := by
  by_cases h : k = p
  · subst h; rw [putP_same]; exact ⟨fun _ => .inr rfl, fun _ => ⟨ly, rfl⟩⟩
  · rw [putP_other _ _ h]; exact ⟨.inl, fun h' => h'.resolve_right h⟩
section
variable {L : Nat} {N N' : List Dn} {os : List Opr} {s : Nat} {W D : Nat → Option Nat} {c : Nat} {A : List (Int × Int)} {p : Nat}
theorem PlG.start {ops : List Wop} {k1 : Nat} (hk : k1 < N.length + 2) (hv : ∀ m, dv N k1 m = cubeS L s 0 m) (hs : s < 2 ^ L) : PlG L N ops s (fun _ _ => True) (putP (fun _ => none) 0 k1) (fun _ => none) 0 [(0, 0)] := by
  refine ⟨fun p k h => ?_, fun p k h => ?_, by omega, PlI.start (fun m hm => ?_) hs (fun p hp m => ?_) (fun m => dv_zero m) (fun p ⟨k, h⟩ => ?_)⟩
  · by_cases e : p = 0
    · subst e; rw [putP_same] at h; cases h; exact hk
    · rw [putP_other _ _ e] at h; cases h
  · cases h
  · rw [mapS_put, hv]; exact cube_iff hs hm
  · rw [mapS_put_ne hp]; exact dv_zero m
  · cases h
theorem PlG.taken (h : PlG L N (wordsOf os) s (fun _ _ => True) W D c A) (ok : DgOk L N) (hle : DgLe N N') {ly c' : Nat} (hly : ly < N'.length + 2) (hc' : c' < N'.length + 2) (hlv : ∀ m, m < 2 ^ L → (dv N' ly m = true ↔ Pd (wordsOf os) s m p)) (hcv : ∀ m, dv N' c' m = (dv N' c m || dv N' ly m)) (hm : ∀ a ∈ A, (p : Int) ≤ a.1) :
    PlG L N' (wordsOf os) s (fun k i => k = p → i < 0) W (putP D p ly) c' (A.filter fun a => a.1 != (p : Int)) := by
  have g := h.le ok hle
  refine ⟨g.wl, fun k v hv => ?_, hc', g.i.take hm (fun k => put_has k) (fun k hk => mapS_put_ne hk) (fun m hml => by rw [mapS_put]; exact hlv m hml) (fun m _ => by rw [hcv m, mapS_put, Bool.or_eq_true])⟩
  by_cases e : k = p
  · subst e; rw [putP_same] at hv; cases hv; exact hly
  · rw [putP_other _ _ e] at hv; exact g.dl k v hv
theorem PlG.dead (hL : L ≤ 24) (hst : ∀ q y, runOps (wordsOf os) s q = some y → y < 2 ^ L) {j : Nat} {o : Opr} {ly : Nat} (h : PlG L N (wordsOf os) s (fun k i => k = p → i < j) W D c A) (hj : os[j]? = some o) (ho : o.Ok (L : Int)) (hD : D p = some ly) (hv : ∀ m, imgB o (dv N ly) m = false) : PlG L N (wordsOf os) s (fun k i => k = p → i < j + 1) W D c A :=
  ⟨h.wl, h.dl, h.cl, h.i.dead (words_of hj) (fun x hx hc => by
    obtain ⟨⟨q, g1, _⟩, _⟩ := id hx
    have hxl := hst q x g1
    have h1 := (h.i.dn p x ⟨ly, hD⟩ hxl).2 hx
    unfold mapS at h1
    rw [hD] at h1
    have h2 : imgB o (dv N ly) (o.word.next x) = true := (img_iff hL ho (symNextLt ho hxl)).2 ⟨x, hxl, h1, hc, rfl⟩
    rw [hv] at h2; cases h2)⟩
theorem PlG.grow (hL : L ≤ 24) (h0 : CostsOk (wordsOf os)) (hst : ∀ q y, runOps (wordsOf os) s q = some y → y < 2 ^ L) {j : Nat} {o : Opr} {ly k nx r to : Nat} (h : PlG L N (wordsOf os) s (fun k i => k = p → i < j) W D c A) (hj : os[j]? = some o) (ho : o.Ok (L : Int)) (hD : D p = some ly) (hmx : ∀ k, (∃ v, D k = some v) → k ≤ p) (hto : to = p + prcN o.word) (hk : LookIs W (to : Int) k) (hr : r < N.length + 2)
    (hx : ∀ m, dv N nx m = imgB o (dv N ly) m) (hv : ∀ m, dv N r m = (dv N k m || dv N nx m)) : PlG L N (wordsOf os) s (fun k i => k = p → i < j + 1) (putP W to r) D c (V.setA A (to : Int) (to : Int)) := by
  subst hto
  refine ⟨fun k' v hv' => ?_, h.dl, h.cl, h.i.grow h0 hst (words_of hj) ⟨ly, hD⟩ hmx (fun k' hk' => mapS_put_ne hk') (fun m hm => ?_) (V.mem_setA.2 (.inr rfl)) (fun a ha => ?_) (fun a ha => ?_)⟩
  · by_cases e : k' = p + prcN o.word
    · subst e; rw [putP_same] at hv'; cases hv'; exact hr
    · rw [putP_other _ _ e] at hv'; exact h.wl k' v hv'
  · rw [mapS_put, hv, hx, Bool.or_eq_true, img_iff hL ho hm, mapS_look hk]
    constructor
    · rintro (h1 | ⟨x, h1, h2, h3, h4⟩)
      · exact .inl h1
      · refine .inr ⟨x, h1, ?_, h3, h4⟩
        unfold mapS; rw [hD]; exact h2
    · rintro (h1 | ⟨x, h1, h2, h3, h4⟩)
      · exact .inl h1
      · refine .inr ⟨x, h1, ?_, h3, h4⟩
        unfold mapS at h2; rw [hD] at h2; exact h2
  · by_cases e : a.1 = ((p + prcN o.word : Nat) : Int)
    · have h1 := (h.i.it a ha).1
      refine V.mem_setA.2 (.inr ?_)
      obtain ⟨x, y⟩ := a
      simp only at e h1
      rw [← h1, e]
    · exact V.mem_setA.2 (.inl ⟨ha, e⟩)
  · rcases V.mem_setA.1 ha with h1 | h1
    · exact .inl h1.1
    · exact .inr h1
theorem PlG.final {j : Nat} (h : PlG L N (wordsOf os) s (fun k i => k = p → i < j) W D c A) (hj : j = os.length) : PlG L N (wordsOf os) s (fun _ _ => True) W D c A :=
  ⟨h.wl, h.dl, h.cl, PlI.done (p := p) (by rw [show (wordsOf os).length = j from by unfold wordsOf; rw [List.length_map, hj]]; exact h.i)⟩
theorem PlG.doneI (h : PlG L N (wordsOf os) s (fun _ _ => True) W D c A) (ok : DgOk L N) (hle : DgLe N N') {ly : Nat} (hly : ly < N'.length + 2) (hlv : ∀ m, m < 2 ^ L → (dv N' ly m = true ↔ Pd (wordsOf os) s m p)) (hlow : ∀ k x, Pd (wordsOf os) s x k → k < p → ∃ v, D k = some v) : DoneI L N' (wordsOf os) s (putP D p ly) p := by
  have g := h.le ok hle
  refine ⟨fun k v hv => ?_, fun k v hv m hm => ?_, fun x k hx hk => ?_⟩
  · by_cases e : k = p
    · subst e; rw [putP_same] at hv; cases hv; exact hly
    · rw [putP_other _ _ e] at hv; exact g.dl k v hv
  · by_cases e : k = p
    · subst e; rw [putP_same] at hv; cases hv; exact hlv m hm
    · rw [putP_other _ _ e] at hv
      have h1 := g.i.dn k m ⟨v, hv⟩ hm
      unfold mapS at h1
      rw [hv] at h1; exact h1
  · rw [putP_other _ _ (by omega)]
    exact hlow k x hx hk
end
/-- No state of a price that has been worked on is a goal. -/
def NoGoal (ops : List Wop) (s g : Nat) (P : Nat → Prop) : Prop := ∀ p x, P p → Pd ops s x p → goalB g x = false
section
variable {t : Tsk} {P : Nat → Prop}
theorem NoGoal.start {ops : List Wop} {s g : Nat} (h : ∀ p, ¬ P p) : NoGoal ops s g P := fun p _ hp => absurd hp (h p)
theorem best_none (h0 : CostsOk (wordsOf t.ops)) (h : NoGoal (wordsOf t.ops) (wd t.init) (wd t.goal) P) (hall : ∀ p x, Pd (wordsOf t.ops) (wd t.init) x p → P p) : BestT t (-1) :=
  .inl ⟨rfl, fun q y hq => by
    obtain ⟨k, _, hk⟩ := Pd.of_run h0 hq
    exact h k y (hall k y hk) hk⟩
theorem best_some (h0 : CostsOk (wordsOf t.ops)) (h : NoGoal (wordsOf t.ops) (wd t.init) (wd t.goal) P) {p : Nat} (hlow : ∀ k x, Pd (wordsOf t.ops) (wd t.init) x k → k < p → P k) {y : Nat} (hy : Pd (wordsOf t.ops) (wd t.init) y p) (hg : goalB (wd t.goal) y = true) : BestT t (p : Int) := by
  obtain ⟨q, hq, hw⟩ := hy.1
  refine .inr ⟨by omega, ⟨q, y, hq, hg, hw⟩, fun q' y' hq' hg' => ?_⟩
  obtain ⟨k, hk1, hk⟩ := Pd.of_run h0 hq'
  by_cases hkp : k < p
  · rw [h k y' (hlow k y' hk hkp) hk] at hg'; cases hg'
  · omega
theorem cnt_best {n : Nat} (h : CntIs (wordsOf t.ops) (wd t.init) P n) {b : Int} (hb : BestT t b) (he : ∀ k x, Pd (wordsOf t.ops) (wd t.init) x k → (P k ↔ b < 0 ∨ (k : Int) < b)) : ∀ b', BestT t b' → ∃ k : Nat, (n : Int) = (k : Int) ∧ CntIs (wordsOf t.ops) (wd t.init) (fun p => b' < 0 ∨ (p : Int) < b') k := fun b' hb' => by
  have := LeastOf.unique hb hb'
  subst this
  exact ⟨n, rfl, h.congr he⟩
end
theorem plan_len {ops : List Wop} {s : Nat} (h0 : CostsOk ops) {l : List Nat} (hl : ∀ q y, runOps ops s q = some y → y ∈ l) (hfew : l.length ≤ 2000) {y p : Nat} (h : Pd ops s y p) {q : List Nat} (hr : runOps ops s q = some y) (hw : wayN 4096 1 ops q = (p : Int)) : q.length = p % 4096 ∧ (q.length : Int) = (p : Int) % 4096 ∧ costN ops q = (p : Int) / 4096 := by
  have h1 := h.short h0 hl hfew hr hw
  have h2 := wayN_split ops q
  have h3 := (costN_bound h0 q).1
  omega
theorem sresult_long (w : World) (vi vg vo vp : Value) (t : Tsk) (p : List Int) (found : Bool) (n : Int) (h : TaskAt w vi vg vo t) (ok : t.Ok) (hp : Ints w vp p) (hin : PlanIn t p) (hl : 60 < p.length) :
    Calls Tryz.prog 41 #[.agg #[.int .i64 t.n, vi, vg, vo], vp, .bool found, .int .i64 n] w fun e w' => e = .returned (.tuple #[.agg #[.bool false, .slice none 0 0, .int .i64 0, .int .i64 0], .agg #[.int .i64 10, .int .i64 (-9)]]) ∧ Keeps (fun _ => False) w w' :=
  (result_any w vi vg vo vp t p found n h ok hp hin).mono fun e w' hr => by
    rcases hr.2 with ⟨_, he⟩ | ⟨h2, _⟩
    · exact ⟨he, hr.1⟩
    · omega
theorem sresult_fit (w : World) (vi vg vo vp : Value) (t : Tsk) (p : List Int) (found : Bool) (n : Int) (h : TaskAt w vi vg vo t) (ok : t.Ok) (hp : Ints w vp p) (hin : PlanIn t p) (hl : p.length ≤ 60) :
    Calls Tryz.prog 41 #[.agg #[.int .i64 t.n, vi, vg, vo], vp, .bool found, .int .i64 n] w fun e w' => e = .returned (.tuple #[.agg #[.bool found, vp, .int .i64 (costL t p), .int .i64 n], .agg #[.int .i64 0, .int .i64 0]]) ∧ Keeps (fun _ => False) w w' :=
  (result_any w vi vg vo vp t p found n h ok hp hin).mono fun e w' hr => by
    rcases hr.2 with ⟨h2, _⟩ | ⟨_, he⟩
    · omega
    · exact ⟨he, hr.1⟩

end Go.Proofs.YtjcgkmodmjckjaaGreat

namespace Go.Proofs.YtjcgkmodmjckjaaGreat
open Go.RowKit

set_option maxRecDepth 100000 in
set_option maxHeartbeats 8000000 in
theorem splan_any (w : World) (vi vg vo : Value) (t : Tsk) (h : TaskAt w vi vg vo t) :
    Calls Tryz.prog 14 #[.agg #[.int .i64 t.n, vi, vg, vo]] w (SPlanPost t w) := by
  obtain ⟨ai, ci, h1, _⟩ := h.init.form
  obtain ⟨ag, cg, h2, _⟩ := h.goal.form
  obtain ⟨ao, co, h3, hmo⟩ := h.ops.form
  have hmm := @run_makeMap Tryz.prog
  have K1 := (Keeps.refl (fun _ => False) w).alloc (.cells #[.int .i64 t.n, vi, vg, vo] 25)
  have KA := (Keeps.refl (fun _ => False) (w.alloc (.cells #[.int .i64 t.n, vi, vg, vo] 25))).alloc (.cells #[.bool false, .slice none 0 0, .int .i64 0, .int .i64 0] 41)
  have KB := (Keeps.refl (fun _ => False) ((w.alloc (.cells #[.int .i64 t.n, vi, vg, vo] 25)).alloc (.cells #[.bool false, .slice none 0 0, .int .i64 0, .int .i64 0] 41))).alloc (.cells #[.int .i64 0, .int .i64 0] 29)
  have HB := Lib.hid ((Four.new w (.int .i64 t.n) vi vg vo 25).keeps0 (KA.trans KB))
  have hr := KB.heap (heap_alloc_new (w.alloc (.cells #[.int .i64 t.n, vi, vg, vo] 25)) (.cells #[.bool false, .slice none 0 0, .int .i64 0, .int .i64 0] 41)) (fun h => h)
  have hf : Flt w _ _ 29 := ⟨heap_alloc_new ((w.alloc (.cells #[.int .i64 t.n, vi, vg, vo] 25)).alloc (.cells #[.bool false, .slice none 0 0, .int .i64 0, .int .i64 0] 41)) (.cells #[.int .i64 0, .int .i64 0] 29), by simp; omega, K1.trans (KA.trans KB)⟩
  have HT := Lib.hid (h.keeps0 (K1.trans (KA.trans KB)))
  rw [World.size_alloc] at hr hf
  rw [World.size_alloc] at hf
  have HR := Lib.hid (show RFl w _ (w.heap.size + 1) (w.heap.size + 1 + 1) from ⟨hr, hf, by omega, by omega⟩)
  subst h1 h2 h3
  clear h K1 KA KB hr hf
  go_enter Tryz.func14, Tryz.ntmps14
  go_upto_region 1 with fail
  generalize ((w.alloc (.cells #[.int .i64 t.n, .slice ai t.init.length ci, .slice ag t.goal.length cg, .slice ao t.ops.length co] 25)).alloc (.cells #[.bool false, .slice none 0 0, .int .i64 0, .int .i64 0] 41)).alloc (.cells #[.int .i64 0, .int .i64 0] 29) = w1 at HB HR HT ⊢
  have hbx := HB.out.lt
  obtain ⟨d0, d1, d2, d3⟩ := HB.out
  go_wp2_with fail
  refine (checked_any _ _ _ _ t HT.out).mono ?_; rintro e w2 ⟨hk, hr⟩
  have HR2 := Lib.hid (HR.out.keeps0 hk); have HB2 := Lib.hid (HB.out.keeps0 hk); have HT2 := Lib.hid (HT.out.keeps0 hk)
  clear d0 d1 d2 d3 hk hbx HR HB HT
  rcases hr with ⟨hc, rfl⟩ | ⟨hok, hx, rfl⟩ | ⟨hok, l, hx, b, v, vl, ws, rfl, hw, hperm, hord, hown⟩
  · have hc2 : ((taskFault t).1 == 0) = false := by simpa using hc
    have NF := Lib.hid (expF_bad hc)
    have HCC := Lib.hid hc
    clear hc
    generalize hfe : taskFault t = f at hc2 HCC NF ⊢
    clear hfe
    have KA := (Keeps.refl (fun _ => False) w2).alloc (.cells #[.int .i64 f.1, .int .i64 f.2] 29)
    have HR4 := Lib.hid (HR2.out.keeps0 KA)
    have HFZ := Lib.hid (heap_alloc_new w2 (.cells #[.int .i64 f.1, .int .i64 f.2] 29))
    clear KA HR2 HB2 HT2
    go_upto_region 2 with fail
    generalize w2.alloc (.cells #[.int .i64 f.1, .int .i64 f.2] 29) = wz at HR4 HFZ ⊢
    generalize w2.heap.size = b8 at HFZ ⊢
    obtain ⟨f0, f1, y0, y1, hlf⟩ := pair_cells HFZ.out
    clear y0 y1
    have HFIN := Lib.hid (HR4.out.fin (.int .i64 f.1) (.int .i64 f.2))
    obtain ⟨r0, r1, r2, r3, y0, y1, y2, y3, hlR⟩ := HR4.out.cells
    obtain ⟨e0, e1, z0, z1, hF⟩ := HR4.out.flt.cells
    obtain ⟨s0, s1, s2, s3⟩ := HR4.out.ids
    go_wp2_with fail
    go_region
    all_goals
      go_wp2
      refine bodyPost_ret (results_cell_cell _ _ (w.heap.size + 1 + 1) 29 #[.int .i64 f.1, .int .i64 f.2] (0, 0) _ rfl rfl HFIN.out.2.1 Tryz.underlying29 rfl (by kernel_rfl) rfl HFIN.out.1 Tryz.underlying41 rfl (by kernel_rfl)) rfl ?_
      exact ⟨HFIN.out.2.2, false, _, [], 0, 0, f.1, f.2, rfl, Ints.nil _, .inl ⟨HCC.out, NF.out, rfl, rfl, rfl, rfl⟩, fun h => absurd h HCC.out⟩
  · have NF := Lib.hid (expF_many hok hx)
    clear hok hx
    have KA := (Keeps.refl (fun _ => False) w2).alloc (.cells #[.int .i64 10, .int .i64 (-7)] 29)
    have HR4 := Lib.hid (HR2.out.keeps0 KA)
    have HFZ := Lib.hid (heap_alloc_new w2 (.cells #[.int .i64 10, .int .i64 (-7)] 29))
    clear KA HR2 HB2 HT2
    go_upto_region 2 with fail
    generalize w2.alloc (.cells #[.int .i64 10, .int .i64 (-7)] 29) = wz at HR4 HFZ ⊢
    generalize w2.heap.size = b8 at HFZ ⊢
    obtain ⟨f0, f1, y0, y1, hlf⟩ := pair_cells HFZ.out
    clear y0 y1
    have HFIN := Lib.hid (HR4.out.fin (.int .i64 10) (.int .i64 (-7)))
    obtain ⟨r0, r1, r2, r3, y0, y1, y2, y3, hlR⟩ := HR4.out.cells
    obtain ⟨e0, e1, z0, z1, hF⟩ := HR4.out.flt.cells
    obtain ⟨s0, s1, s2, s3⟩ := HR4.out.ids
    go_wp2_with fail
    go_region
    all_goals
      go_wp2
      refine bodyPost_ret (results_cell_cell _ _ (w.heap.size + 1 + 1) 29 #[.int .i64 10, .int .i64 (-7)] (0, 0) _ rfl rfl HFIN.out.2.1 Tryz.underlying29 rfl (by kernel_rfl) rfl HFIN.out.1 Tryz.underlying41 rfl (by kernel_rfl)) rfl ?_
      exact ⟨HFIN.out.2.2, false, _, [], 0, 0, 10, -7, rfl, Ints.nil _, .inl ⟨by decide, NF.out, rfl, rfl, rfl, rfl⟩, fun h => absurd h (by decide)⟩
  · have HX := Lib.hid hx; have OK := Lib.hid hok
    have KA := (Keeps.refl (fun _ => False) w2).alloc (.cells #[.int .i64 0, .int .i64 0] 29)
    have HR3 := Lib.hid (HR2.out.keeps0 KA); have HB3 := Lib.hid (HB2.out.keeps0 KA); have HT3 := Lib.hid (HT2.out.keeps0 KA)
    obtain ⟨av, cv, hav⟩ := ownsRow_form1 hown
    subst hav
    clear hx hok hw KA hperm hord hown HB2 HT2 HR2
    have F0 := heap_alloc_new w2 (.cells #[.int .i64 0, .int .i64 0] 29)
    go_upto_region 2 with fail
    generalize w2.alloc (.cells #[.int .i64 0, .int .i64 0] 29) = w3 at HR3 HB3 HT3 F0 ⊢
    have f0 : w3.cell? ⟨w2.heap.size, 0, none⟩ = some (.int .i64 0) := by rw [cell_of_blk F0]; rfl
    have f1 : w3.cell? ⟨w2.heap.size, 1, none⟩ = some (.int .i64 0) := by rw [cell_of_blk F0]; rfl
    have fl := lt_of_heap F0
    clear F0
    obtain ⟨L, hL⟩ : ∃ L : Nat, t.n = (L : Int) := ⟨t.n.toNat, by have := OK.out.n0; omega⟩
    have hL24 : L ≤ 24 := by have := OK.out.n1; omega
    have hb3 := HB3.out
    rw [hL] at hb3
    replace HB3 := Lib.hid hb3
    clear hb3
    have hns := newSets_any w3 _ _ _ t L HT3.out OK.out hL
    rw [hL] at hns
    have HNS := Lib.hid hns
    clear hns
    have hbx := HB3.out.lt
    obtain ⟨d0, d1, d2, d3⟩ := HB3.out
    go_wp2_with fail
    refine HNS.out.mono ?_; rintro e w4 ⟨ss, sb, N0, G0, gk, rfl, hst, hgk, hgv, hlow, hss⟩
    have HST := Lib.hid hst; have HLOW := Lib.hid hlow; have HGK := Lib.hid hgk; have HGV := Lib.hid hgv
    have HIN := Lib.hid (HT3.out.init.keeps0 hst.k0)
    have HIR := Lib.hid (show ∀ p ∈ t.init, 0 ≤ p ∧ p < (L : Int) from fun p hp => by have := (isSet_iff.1 OK.out.init).1 p hp; omega)
    clear hst hgk hgv hlow hss f0 f1 fl d0 d1 d2 d3 hbx HNS
    go_upto_region 5 with fail
    go_cut [8] from 22 (fun s8 wc => ∃ (wb k1 : Nat) (N1 : List Dn) (G1 : Nat → Prop), s8 = .map (some wb) ∧ StS w3 wc ss sb L N1 G1 (L : Int) (.slice ai t.init.length ci) (.slice ag t.goal.length cg) (.slice ao t.ops.length co) gk ∧ DmS wc wb (putP (fun _ => none) 0 k1) G1 ∧ DgPost L N0 N1 k1 L 0 (cubeS L (wd t.init) 0) ∧ w3.heap.size ≤ wb)
    case first =>
      have KD : Keeps (fun _ => False) w4 (w4.alloc (.map #[] 0)).drew := ((Keeps.refl (fun _ => False) w4).alloc _).drew
      have K0 : Keeps (fun _ => False) w4 w4.drew := (Keeps.refl (fun _ => False) w4).drew
      have hma := (NMap.made w4 natV).keeps ((Keeps.refl (fun _ => False) (w4.alloc (.map #[] 0))).drew) (fun h => h)
      have HDM := Lib.hid (show DmS (w4.alloc (.map #[] 0)).drew w4.heap.size (fun _ => none) G0 from ⟨hma, fun h => by have := HST.out.dg.bnd _ h; omega⟩)
      have HSD := Lib.hid (HST.out.keeps0 KD); have HSE := Lib.hid HST.out.drew
      have e0 := HSD.out.c0.1; have e1 : (w4.alloc (.map #[] 0)).drew.cell? ⟨w.heap.size, 1, none⟩ = some (.slice ai t.init.length ci) := HSD.out.k0.cell HB3.out.c1 (fun h => h)
      have e2 : w4.drew.cell? ⟨ss, 0, none⟩ = some (.pointer (some ⟨sb, 0, none⟩)) := HSE.out.c0.1
      have e3 : w4.drew.cell? ⟨w.heap.size, 1, none⟩ = some (.slice ai t.init.length ci) := HSE.out.k0.cell HB3.out.c1 (fun h => h)
      have HW1 := Lib.hid (word_any (w4.alloc (.map #[] 0)).drew _ t.init (HIN.out.keeps0 KD) (fun x hx => by have := HIR.out x hx; omega))
      have HW2 := Lib.hid (word_any w4.drew _ t.init (HIN.out.keeps0 K0) (fun x hx => by have := HIR.out x hx; omega))
      have HC1 := Lib.hid (cube_any (w4.alloc (.map #[] 0)).drew sb L (wd t.init) N0 G0 HSD.out.dg hL24 (by have := HLOW.out; omega))
      have HC2 := Lib.hid (cube_any w4.drew sb L (wd t.init) N0 G0 HSE.out.dg hL24 (by have := HLOW.out; omega))
      clear KD K0 hma
      go_region_held3 (fun w' => w'.cell? ⟨ss, 0, none⟩ = some (.pointer (some ⟨sb, 0, none⟩)) ∧ w'.cell? ⟨w.heap.size, 1, none⟩ = some (.slice ai t.init.length ci))
        (go_keep)
        (first
          | (go_at_call 26; refine HW1.out.mono ?_; rintro en w5 ⟨rfl, hw5⟩; rw [← hw5]; clear hw5 w5)
          | (go_at_call 26; refine HW2.out.mono ?_; rintro en w5 ⟨rfl, hw5⟩; rw [← hw5]; clear hw5 w5)
          | (go_at_call 25; refine HC1.out.mono ?_; rintro en w5 ⟨k1, N1, G1, rfl, hp1, hd1, hk1, hn1⟩; have HP1 := Lib.hid hp1; have HS1 := Lib.hid (HSD.out.op hd1 hk1 hn1); have HD5 := Lib.hid (HDM.out.op hk1 hn1); have t0 := HS1.out.c0.1; have t1 : w5.cell? ⟨w.heap.size, 1, none⟩ = some (.slice ai t.init.length ci) := HS1.out.k0.cell HB3.out.c1 (fun h => h); obtain ⟨w6, hr6, hm6, hk6⟩ := HD5.out.1.put (P := Tryz.prog) Tryz.underlying73 Tryz.underlying3 0 k1; replace hr6 : (Instr.mapUpdate 73 (.map (some w4.heap.size)) (.int .i64 0) (.int .i64 (k1 : Int))).run Tryz.prog w5 = .ok () w6 := hr6; have HLO6 := Lib.hid (show w3.heap.size ≤ w4.heap.size from HST.out.k0.size); have HD6 := Lib.hid (show DmS w6 w4.heap.size (putP (fun _ => none) 0 k1) G1 from ⟨hm6, HD5.out.2⟩); have HS6 := Lib.hid (HS1.out.other hk6 (fun k e => by subst e; exact ⟨HST.out.k0.size, HD5.out.2, HD5.out.1.ne_cells HS1.out.blk⟩)); have u0 := HS6.out.c0.1; have u1 : w6.cell? ⟨w.heap.size, 1, none⟩ = some (.slice ai t.init.length ci) := HS6.out.k0.cell HB3.out.c1 (fun h => h); clear hp1 hd1 hk1 hn1 hm6 hk6)
          | (go_at_call 25; refine HC2.out.mono ?_; rintro en w5 ⟨k1, N1, G1, rfl, hp1, hd1, hk1, hn1⟩; have HP1 := Lib.hid hp1; have HS1 := Lib.hid (HSE.out.op hd1 hk1 hn1); have HSA := Lib.hid (HS1.out.keeps0 ((Keeps.refl (fun _ => False) w5).alloc (.map #[] 0))); have HD5 := Lib.hid (show DmS (w5.alloc (.map #[] 0)) w5.heap.size (fun _ => none) G1 from ⟨NMap.made w5 natV, fun h => by have := HS1.out.dg.bnd _ h; omega⟩); have t0 := HS1.out.c0.1; have t1 : w5.cell? ⟨w.heap.size, 1, none⟩ = some (.slice ai t.init.length ci) := HS1.out.k0.cell HB3.out.c1 (fun h => h); have v0 := HSA.out.c0.1; have v1 : (w5.alloc (.map #[] 0)).cell? ⟨w.heap.size, 1, none⟩ = some (.slice ai t.init.length ci) := HSA.out.k0.cell HB3.out.c1 (fun h => h); obtain ⟨w6, hr6, hm6, hk6⟩ := HD5.out.1.put (P := Tryz.prog) Tryz.underlying73 Tryz.underlying3 0 k1; replace hr6 : (Instr.mapUpdate 73 (.map (some w5.heap.size)) (.int .i64 0) (.int .i64 (k1 : Int))).run Tryz.prog (w5.alloc (.map #[] 0)) = .ok () w6 := hr6; have HLO6 := Lib.hid (show w3.heap.size ≤ w5.heap.size from HS1.out.k0.size); have HD6 := Lib.hid (show DmS w6 w5.heap.size (putP (fun _ => none) 0 k1) G1 from ⟨hm6, HD5.out.2⟩); have HS6 := Lib.hid (HSA.out.other hk6 (fun k e => by subst e; exact ⟨HS1.out.k0.size, HD5.out.2, HD5.out.1.ne_cells HSA.out.blk⟩)); have u0 := HS6.out.c0.1; have u1 : w6.cell? ⟨w.heap.size, 1, none⟩ = some (.slice ai t.init.length ci) := HS6.out.k0.cell HB3.out.c1 (fun h => h); clear hp1 hd1 hk1 hn1 hm6 hk6))
      all_goals
        go_wp2
        go_meet
        case rel => exact ⟨_, k1, N1, G1, rfl, HS6.out, HD6.out, HP1.out, HLO6.out⟩
    case rest =>
      obtain ⟨wb, k1, N1, G1, rfl, hs6, hd6, hp1, hlo6⟩ := hcut
      have HP1 := Lib.hid hp1; have HLO6 := Lib.hid hlo6
      have HC0 := Lib.hid (sym_costs OK.out)
      have HRS := Lib.hid (reached_some (ops := wordsOf t.ops) (s := wd t.init) (l := l) HX.out)
      have HRE := Lib.hid (show ∀ q y, runOps (wordsOf t.ops) (wd t.init) q = some y → y ∈ l from fun q y h => (HRS.out.2.2.2 y).2 (reach_run q .refl h))
      have HLT2 := Lib.hid (show ∀ q y, runOps (wordsOf t.ops) (wd t.init) q = some y → y < 2 ^ L from fun q y h => by
        obtain ⟨g1, g2⟩ := good_explored OK.out HX.out y (HRE.out q y h)
        rw [← g2]; exact wd_lt (fun x hx => by have := (isSet_iff.1 g1).1 x hx; omega))
      have HS0 := Lib.hid (show wd t.init < 2 ^ L from wd_lt HIR.out)
      have HLN := Lib.hid hL
      have HOPS := Lib.hid HT3.out.ops
      have h40 := OK.out.few
      have KM := (Keeps.refl (fun _ => False) wc).alloc (.map #[] 0)
      have HS7 := Lib.hid (hs6.keeps0 KM); have HD7 := Lib.hid (hd6.keeps0 KM)
      have HB7 := Lib.hid (show DmS (wc.alloc (.map #[] 0)) wc.heap.size (fun _ => none) G1 from ⟨NMap.made wc natV, fun h => by have := hs6.dg.bnd _ h; omega⟩)
      have HNE := Lib.hid (show wb ≠ wc.heap.size ∧ w3.heap.size ≤ wc.heap.size from ⟨by have := hd6.1.lt; omega, hs6.k0.size⟩)
      clear hs6 hd6 hp1 hlo6 KM hL HIN
      go_upto_region 7 with fail
      generalize wc.alloc (.map #[] 0) = w7 at HS7 HD7 HB7 ⊢
      generalize wc.heap.size = db at HB7 HNE ⊢
      go_wp2_with fail
      refine (V.new_any w7).mono ?_; rintro e w8 ⟨rfl, hq, hk8⟩
      have HP8 := Lib.hid (show PlM w3 w8 ss sb L (L : Int) (.slice ai t.init.length ci) (.slice ag t.goal.length cg) (.slice ao t.ops.length co) gk N1 G1 wb db (w7.heap.size + 1) (putP (fun _ => none) 0 k1) (fun _ => none) [] 0 (fun b => w7.heap.size ≤ b ∧ b < w8.heap.size) from
        ⟨HS7.out.keeps0 hk8, HD7.out.keeps0 hk8, HB7.out.keeps0 hk8, HNE.out.1, hq.mono (fun b h1 h2 => ⟨h2, h1⟩), fun k hk => by
          have h1 := HS7.out.k0.size
          have h2 := HD7.out.1.lt
          have h3 := HB7.out.1.lt
          have h4 := lt_of_heap HS7.out.blk
          exact ⟨by omega, hk.2, fun hg => by have := HS7.out.dg.bnd k hg; omega, by omega, by omega, by omega⟩, ⟨HLO6.out, HNE.out.2⟩⟩)
      clear hq hk8 HS7 HD7 HB7 HNE HLO6
      generalize w7.heap.size + 1 = Q at HP8 ⊢
      go_wp2_with fail
      refine (V.set_new w8 Q [] 0 _ HP8.out.q 0 0 (by simp) ⟨by omega, by omega⟩ (by simp)).mono ?_; rintro e w9 ⟨rfl, hq9, hk9⟩
      have HP9 := Lib.hid (HP8.out.queue hq9 (fun b hb => hb) hk9)
      clear hq9 hk9 HP8
      have HG9 := Lib.hid (PlG.start (ops := wordsOf t.ops) HP1.out.lt HP1.out.val HS0.out)
      have HLW9 := Lib.hid (show low N1 + 1600000 * 1 ≤ 14600000 + 0 * 1597100000 from by have h1 := HP1.out.cnt; have h2 := HLOW.out; omega)
      go_wp2_with fail
      go_loopw [11, 12] (fun cv nv wr => ∃ (c n : Nat) (N : List Dn) (G : Nat → Prop) (W D : Nat → Option Nat) (A : List (Int × Int)) (tt : Int) (F : Nat → Prop), cv = .int .i64 (c : Int) ∧ nv = .int .i64 (n : Int) ∧ PlM w3 wr ss sb L (L : Int) (.slice ai t.init.length ci) (.slice ag t.goal.length cg) (.slice ao t.ops.length co) gk N G wb db Q W D A tt F ∧ PlG L N (wordsOf t.ops) (wd t.init) (fun _ _ => True) W D c A ∧ CntIs (wordsOf t.ops) (wd t.init) (fun p => ∃ k, D p = some k) n ∧ NoGoal (wordsOf t.ops) (wd t.init) (wd t.goal) (fun p => ∃ k, D p = some k) ∧ DgLe N0 N ∧ low N + 1600000 * A.length ≤ 14600000 + n * 1597100000 ∧ A.length ≤ 1 + 40 * n ∧ 0 ≤ tt ∧ tt ≤ 1 + 40 * (n : Int)) (fun _ nv wr => 41 * (2000 - (intOf nv).toNat) + V.qlen wr Q)
      case atStart => exact ⟨0, 0, N1, G1, _, _, [(0, 0)], _, _, rfl, rfl, HP9.out, HG9.out, CntIs.start (fun p ⟨k, hk⟩ => by cases hk), NoGoal.start (fun p ⟨k, hk⟩ => by cases hk), HP1.out.le, HLW9.out, by simp, by omega, by omega⟩
      case round =>
        obtain ⟨c, n, N, G, W, D, A, tt, F, rfl, rfl, hpm, hpg, hcnt, hng, hle, hlw, han, ht0, ht1⟩ := hrel
        have HPM := Lib.hid hpm; have HPG := Lib.hid hpg; have HCN := Lib.hid hcnt; have HNG := Lib.hid hng; have HLE := Lib.hid hle; have HLW := Lib.hid hlw
        have HOKN := Lib.hid (show DgOk L N from hpm.st.dg.ok)
        have hn2 : n ≤ 2000 := Nat.le_trans (hcnt.le HRE.out) HRS.out.2.1
        have HQL := Lib.hid (V.qlen_any wr Q A tt F hpm.q)
        clear hpm hpg hcnt hng hle hlw HP9 HG9 HLW9
        by_cases hA : A = []
        · subst hA
          have K3 := HPM.out.st.k0
          have d0 := K3.cell HB3.out.c0 (fun h => h); have d1 := K3.cell HB3.out.c1 (fun h => h); have d2 := K3.cell HB3.out.c2 (fun h => h); have d3 := K3.cell HB3.out.c3 (fun h => h)
          have hbx := Nat.lt_of_lt_of_le HB3.out.lt K3.size
          have HR9 := Lib.hid (HR3.out.keeps0 K3)
          have hr := sresult_fit wr _ _ _ _ t [] false (n : Int) (HT3.out.keeps0 K3) OK.out (Ints.nil _) (fun z hz => by simp at hz) (by simp)
          rw [HLN.out] at hr
          have HRES := Lib.hid hr
          clear hr K3
          go_wp2_with fail
          refine HQL.out.mono ?_; rintro e wq ⟨rfl, hwq⟩
          rw [← hwq]; clear hwq wq
          go_wp2_with fail
          refine HRES.out.mono ?_
          rintro e w10 ⟨rfl, hk10⟩
          have HR8 := Lib.hid (HR9.out.keeps0 hk10)
          obtain ⟨r0, r1, r2, r3, y0, y1, y2, y3, hlR⟩ := HR8.out.cells
          obtain ⟨e0, e1, z0, z1, hF⟩ := HR8.out.flt.cells
          have HFIN := Lib.hid (HR8.out.set (.bool false) (.slice none 0 0) (.int .i64 (costL t [])) (.int .i64 (n : Int)) (.int .i64 0) (.int .i64 0))
          clear d0 d1 d2 d3 hbx hk10
          go_wp2_with fail
          refine bodyPost_ret (results_cell_cell _ _ (w.heap.size + 1 + 1) 29 #[.int .i64 0, .int .i64 0] (0, 0) _ rfl rfl HFIN.out.2.1 Tryz.underlying29 rfl (by kernel_rfl) rfl HFIN.out.1 Tryz.underlying41 rfl (by kernel_rfl)) rfl ?_
          have hbt := best_none HC0.out HNG.out (fun k x hx => HPG.out.i.empty HC0.out hx)
          exact ⟨HFIN.out.2.2.1, false, _, [], 0, (n : Int), 0, 0, rfl, Ints.nil _, bplan_none OK.out HX.out hbt ⟨by omega, by have := HCN.out.le HRE.out; omega⟩, fun _ => cnt_best HCN.out hbt (fun k x hx => ⟨fun _ => .inl (by decide), fun _ => HPG.out.i.empty HC0.out hx⟩)⟩
        · obtain ⟨⟨x, kk⟩, hfm⟩ : ∃ q, V.firstMin A = some q := by
            cases hf : V.firstMin A with
            | none => exact absurd (V.firstMin_none.1 hf) hA
            | some q => exact ⟨q, rfl⟩
          have hmem := V.firstMin_mem hfm
          obtain ⟨hxk, hx0⟩ := HPG.out.i.it _ hmem
          simp only at hxk hx0
          subst hxk
          obtain ⟨p, rfl⟩ := Int.eq_ofNat_of_zero_le hx0
          have HMIN := Lib.hid (show ∀ a ∈ A, (p : Int) ≤ a.1 from fun a ha => by have h1 := V.firstMin_least hfm a ha; have h2 := (HPG.out.i.it a ha).1; simp only at h1; omega)
          have HIN := Lib.hid (show ∃ a ∈ A, a.1 = (p : Int) from ⟨_, hmem, rfl⟩)
          have HFL := Lib.hid (V.filter_len HPM.out.q.nd HIN.out)
          have q0 : decide ((0 : Int) < (A.length : Int)) = true := by have := List.length_pos_iff.2 hA; simp; omega
          have q0' : decide (0 < A.length) = true := by have := List.length_pos_iff.2 hA; simp; omega
          have HTK := Lib.hid (V.take_some wr Q A tt F HPM.out.q (p : Int) (p : Int) hfm)
          clear hA hmem hx0 hfm
          go_wp2_with fail
          refine HQL.out.mono ?_; rintro e wq ⟨rfl, hwq⟩
          rw [← hwq]; clear hwq wq
          go_wp2_with fail
          refine HTK.out.mono ?_; rintro e w10 ⟨rfl, hq10, hk10⟩
          have HPM10 := Lib.hid (HPM.out.queue hq10 (fun b hb => .inl hb) hk10)
          have HQN := Lib.hid (show V.qlen wr Q = A.length from HPM.out.q.qlen_is)
          clear hq10 hk10 HQL HTK HPM q0 q0'
          obtain ⟨wk, hwk⟩ := look_is W (p : Int)
          have HWK := Lib.hid hwk
          have hlk := HPM10.out.wm.look hwk
          have HC := Lib.hid (without_any w3 w10 ss sb L N G (L : Int) _ _ _ gk wk c HPM10.out.st hL24 (HPG.out.look hwk) HPG.out.cl (by have h1 := HLW.out; omega))
          clear hwk
          go_wp2_with fail
          refine HC.out.mono ?_; rintro e w11 ⟨ly, N2, G2, rfl, hp2, hz2, hs2, hk2, hn2⟩
          have HP2 := Lib.hid hp2
          have HPM11 := Lib.hid (HPM10.out.opS hs2 hk2 hn2)
          obtain ⟨w12, hr12, hm12, hk12⟩ := HPM11.out.dm.1.put (P := Tryz.prog) Tryz.underlying73 Tryz.underlying3 p ly
          replace hr12 : (Instr.mapUpdate 73 (.map (some db)) (.int .i64 (p : Int)) (.int .i64 (ly : Int))).run Tryz.prog w11 = .ok () w12 := hr12
          have HPM12 := Lib.hid (HPM11.out.putD hm12 hk12)
          have HLY := Lib.hid (show (∀ m, m < 2 ^ L → (dv N2 ly m = true ↔ Pd (wordsOf t.ops) (wd t.init) m p)) ∧ (∀ k x, Pd (wordsOf t.ops) (wd t.init) x k → k < p → ∃ v, D k = some v) ∧ (¬ ∃ v, D p = some v) ∧ ∀ k, (∃ v, D k = some v) → k < p from by
            have h1 := HPG.out.i.layer HC0.out HMIN.out HIN.out
            refine ⟨fun m hm => ?_, h1.2⟩
            rw [← h1.1 m hm, HP2.out.val, mapS_look HWK.out])
          have HLW2 := Lib.hid (show low N2 ≤ low N + (524287 + opC wk) from hp2.cnt)
          have HZ2 := Lib.hid hz2
          have HLE2 := Lib.hid (show DgLe N0 N2 from HLE.out.trans hp2.le)
          have HG2 := Lib.hid (show gk < N2.length + 2 from by have h1 := HLE2.out.len; have h2 := HGK.out; omega)
          clear hlk hp2 hz2 hs2 hk2 hn2 hm12 hk12 HC HPM10
          go_upto_region 14 with fail
          have KD := (Keeps.refl (fun _ => False) w12).drew
          have HPMD := Lib.hid (HPM12.out.keeps0 KD)
          have HC := Lib.hid (andz_any w12.drew sb L N2 G2 ly gk HPMD.out.st.dg hL24 HP2.out.lt HG2.out (by have h1 := HLW2.out; have h2 := opC_le wk; have h3 := opC_le ly; have h4 := HLW.out; omega))
          have e0 := HPMD.out.st.c0.1
          have e5 : w12.drew.cell? ⟨ss, 5, none⟩ = some (.int .i64 (gk : Int)) := (cell_of_blk HPMD.out.st.blk).trans rfl
          have el := HPMD.out.st.c0.2
          clear KD hr12
          go_region_held3 (fun w' => w'.cell? ⟨ss, 0, none⟩ = some (.pointer (some ⟨sb, 0, none⟩)) ∧ w'.cell? ⟨ss, 5, none⟩ = some (.int .i64 (gk : Int)))
            (go_keep)
            (first
              | (go_at_call 40; refine HC.out.mono ?_; rintro en w13 ⟨at_, N3, G3, rfl, hp3, hz3, hd3, hk3, hn3⟩; have HP3 := Lib.hid hp3; have HPM13 := Lib.hid (HPMD.out.op hd3 hk3 hn3); have t0 := HPM13.out.st.c0.1; have t5 : w13.cell? ⟨ss, 5, none⟩ = some (.int .i64 (gk : Int)) := (cell_of_blk HPM13.out.st.blk).trans rfl; clear hp3 hz3 hd3 hk3 hn3))
          all_goals
            have HLY3 := Lib.hid (show ∀ m, m < 2 ^ L → (dv N3 ly m = true ↔ Pd (wordsOf t.ops) (wd t.init) m p) from fun m hm => by rw [HP3.out.le.dv HPMD.out.st.dg.ok HP2.out.lt]; exact HLY.out.1 m hm)
            have HAT := Lib.hid (show ∀ m, dv N3 at_ m = (dv N3 ly m && goalB (wd t.goal) m) from fun m => by
              rw [HP3.out.val, HP3.out.le.dv HPMD.out.st.dg.ok HP2.out.lt, HLE2.out.dv HST.out.dg.ok HGK.out, HGV.out, goal_lit OK.out.goal])
            clear t0 t5 e0 e5 el HC
            by_cases h0 : at_ = 0
            · subst h0
              have HNG3 := Lib.hid (show NoGoal (wordsOf t.ops) (wd t.init) (wd t.goal) (fun k => ∃ v, putP D p ly k = some v) from fun k x hk hx => by
                rcases (put_has k).1 hk with h1 | rfl
                · exact HNG.out k x h1 hx
                · have hxl : x < 2 ^ L := by obtain ⟨⟨q, g1, _⟩, _⟩ := id hx; exact HLT2.out q x g1
                  have h1 := HAT.out x
                  rw [dv_zero, (HLY3.out x hxl).2 hx, Bool.true_and] at h1
                  exact h1.symm)
              have hly3 : ly < N3.length + 2 := by have h1 := HP3.out.le.len; have h2 := HP2.out.lt; omega
              have hc3 : c < N3.length + 2 := by have h1 := HP3.out.le.len; have h2 := HP2.out.le.len; have h3 := HPG.out.cl; omega
              have HB3L := Lib.hid (show low N3 ≤ low N2 + opC ly from HP3.out.cnt)
              have HC := Lib.hid (or_any w13 sb L N3 G3 c ly HPM13.out.st.dg hL24 hc3 hly3 (by have h1 := HLW2.out; have h2 := HB3L.out; have h3 := opC_le wk; have h4 := opC_le ly; have h5 := HLW.out; have h6 := lowB_le L (min (lev L N3 c) (lev L N3 ly)); omega))
              obtain ⟨c0, c0l⟩ := HPM13.out.st.c0
              go_wp2_with fail
              refine HC.out.mono ?_; rintro e w14 ⟨c', N4, G4, rfl, hp4, hd4, hk4, hn4⟩
              have HP4 := Lib.hid hp4
              have HPM14 := Lib.hid (HPM13.out.op hd4 hk4 hn4)
              have hly4 : ly < N4.length + 2 := by have h1 := hp4.le.len; omega
              have HLY4 := Lib.hid (show ∀ m, m < 2 ^ L → (dv N4 ly m = true ↔ Pd (wordsOf t.ops) (wd t.init) m p) from fun m hm => by rw [HP4.out.le.dv HPM13.out.st.dg.ok hly3]; exact HLY3.out m hm)
              have HPG4 := Lib.hid (HPG.out.taken HOKN.out ((HP2.out.le.trans HP3.out.le).trans HP4.out.le) hly4 HP4.out.lt HLY4.out (fun m => by rw [HP4.out.val, HP4.out.le.dv HPM13.out.st.dg.ok hc3, HP4.out.le.dv HPM13.out.st.dg.ok hly3]) HMIN.out)
              obtain ⟨S, hS1, hS2⟩ := Pd.list HRS.out.1 HRE.out (fun k => k = p)
              have hS3 : ∀ x, x ∈ S ↔ Pd (wordsOf t.ops) (wd t.init) x p := fun x => by rw [hS2]; exact ⟨fun ⟨k, h1, h2⟩ => by rw [← h1]; exact h2, fun h => ⟨p, rfl, h⟩⟩
              have hct := count_is HPM14.out.st.dg.ok hly4 hS1 (fun x => by
                rw [hS3]
                constructor
                · intro h
                  have hx : x < 2 ^ L := by obtain ⟨⟨q, g1, _⟩, _⟩ := id h; exact HLT2.out q x g1
                  exact ⟨hx, (HLY4.out x hx).2 h⟩
                · rintro ⟨h1, h2⟩; exact (HLY4.out x h1).1 h2)
              have hc4 := count_any w14 sb L N4 G4 ly HPM14.out.st.dg hL24 hly4
              rw [hct] at hc4
              have HC4 := Lib.hid hc4
              have HCN4 := Lib.hid (HCN.out.more (fun k => put_has (ly := ly) k) HLY.out.2.2.1 hS1 hS3)
              have hsl : S.length ≤ 2000 := Nat.le_trans (nodup_sub hS1 (fun x hx => by obtain ⟨⟨q, g1, _⟩, _⟩ := (hS3 x).1 hx; exact HRE.out q x g1)) HRS.out.2.1
              have HSP := Lib.hid (show ly ≠ 0 → 1 ≤ S.length from fun h0 => by
                obtain ⟨m0, hm0, _, hm1⟩ := dv_some HPM14.out.st.dg.ok ly hly4 h0
                exact List.length_pos_iff.2 (List.ne_nil_of_mem ((hS3 m0).2 ((HLY4.out m0 hm0).1 hm1))))
              generalize S.length = sl at HC4 HCN4 hsl HSP
              clear hp4 hd4 hk4 hn4 c0 c0l HC hS1 hS2 hS3 hct hc4 S
              obtain ⟨c0, c0l⟩ := HPM14.out.st.c0
              go_wp2_with fail
              refine HC4.out.mono ?_; rintro e w15 ⟨rfl, hk15⟩
              have HPM15 := Lib.hid (HPM14.out.keeps0 hk15)
              have d3 := HPM15.out.st.k0.cell HB3.out.c3 (fun h => h)
              have dl := Nat.lt_of_lt_of_le HB3.out.lt HPM15.out.st.k0.size
              have hpb : ly ≠ 0 → p ≤ 1000000000 := fun h0 => by
                obtain ⟨m0, hm0, _, hm1⟩ := dv_some HPM15.out.st.dg.ok ly hly4 h0
                have := ((HLY4.out m0 hm0).1 hm1).bound HC0.out HRE.out HRS.out.2.1
                omega
              have HPB := Lib.hid hpb
              have HLW4 := Lib.hid (show low N4 ≤ low N3 + 524287 from by have h1 := HP4.out.cnt; have h2 := lowB_le L (min (lev L N3 c) (lev L N3 ly)); omega)
              have HLT4 := Lib.hid (show low N4 ≤ 3200000000000 from by have h0 := HLW4.out; have h1 := HLW2.out; have h2 := HB3L.out; have h3 := opC_le wk; have h4 := opC_le ly; have h5 := HLW.out; omega)
              have HOK4 := Lib.hid (show DgOk L N4 from HPM15.out.st.dg.ok)
              have HLY4L := Lib.hid hly4
              have HLE4 := Lib.hid (show DgLe N0 N4 from (HLE2.out.trans HP3.out.le).trans HP4.out.le)
              clear hk15 c0 c0l hpb hly3 hly4 hc3 HPM13 HPM14 HC4 HP4 HP3
              go_wp2_with fail
              go_loopw [107] (fun iv wq => ∃ (j : Nat) (N5 : List Dn) (G5 : Nat → Prop) (W5 : Nat → Option Nat) (A5 : List (Int × Int)) (t5 : Int) (F5 : Nat → Prop), iv = .int .i64 (j : Int) ∧ j ≤ t.ops.length ∧ PlM w3 wq ss sb L (L : Int) (.slice ai t.init.length ci) (.slice ag t.goal.length cg) (.slice ao t.ops.length co) gk N5 G5 wb db Q W5 (putP D p ly) A5 t5 F5 ∧ PlG L N5 (wordsOf t.ops) (wd t.init) (fun k i => k = p → i < j) W5 (putP D p ly) c' A5 ∧ DgLe N4 N5 ∧ low N5 ≤ low N4 + ipay ly j ∧ A5.length ≤ (A.filter fun a => a.1 != (p : Int)).length + jz ly j ∧ 0 ≤ t5 ∧ t5 ≤ tt + (jz ly j : Int)) (fun iv _ => t.ops.length - (intOf iv).toNat)
              case atStart => exact ⟨0, N4, G4, W, _, tt, _, rfl, Nat.zero_le _, HPM15.out, HPG4.out, DgLe.refl _, by rw [ipay_zero]; omega, by omega, ht0, by rw [jz_zero]; omega⟩
              case round =>
                obtain ⟨j, N5, G5, W5, A5, t5, F5, rfl, hj, hpm5, hpg5, hle5, hlw5, ha5, ht50, ht51⟩ := hrel
                have HPM5 := Lib.hid hpm5; have HPG5 := Lib.hid hpg5; have HLE5 := Lib.hid hle5; have HLW5 := Lib.hid hlw5; have HA5 := Lib.hid ha5; have HT5 := Lib.hid ht51
                clear hpm5 hpg5 hle5 hlw5 ha5 ht51 d3 dl HPM15
                by_cases hlt : j < t.ops.length
                · obtain ⟨bo, oo, hao, hcell⟩ := HOPS.out.cell rfl (by omega)
                  cases hao
                  obtain ⟨o, ho⟩ : ∃ o, t.ops[j]? = some o := ⟨_, List.getElem?_eq_getElem hlt⟩
                  have hok := OK.out.ops o (List.mem_of_getElem? ho)
                  rw [HLN.out] at hok
                  have hcst : 0 ≤ o.cost ∧ o.cost ≤ 100 := HC0.out o.word (List.mem_of_getElem? (words_of ho))
                  have HPR := Lib.hid (show ((prcN o.word : Nat) : Int) = 4096 * o.cost + 1 from prcN_int HC0.out (words_of ho))
                  obtain ⟨f1, f2, f3, f4⟩ := opr_few hL24 hok
                  have HCO := Lib.hid (img_pay (ly := ly) f1 f4)
                  obtain ⟨va, vb, vc, u0, u1, u2, u3, i1, i2, i3⟩ := hcell j o ho
                  have r0 := HPM5.out.st.k0.cell u0 (fun h => h); have r1 := HPM5.out.st.k0.cell u1 (fun h => h); have r2 := HPM5.out.st.k0.cell u2 (fun h => h); have r3 := HPM5.out.st.k0.cell u3 (fun h => h)
                  obtain ⟨a1, c1, g1, _⟩ := i1.form
                  obtain ⟨a2, c2, g2, _⟩ := i2.form
                  obtain ⟨a3, c3, g3, _⟩ := i3.form
                  subst g1 g2 g3
                  have K7 := (Keeps.refl (fun _ => False) wr).alloc (.cells #[.slice a1 o.pre.length c1, .slice a2 o.add.length c2, .slice a3 o.del.length c3, .int .i64 o.cost] 72)
                  have HX7 := Lib.hid (heap_alloc_new wr (.cells #[.slice a1 o.pre.length c1, .slice a2 o.add.length c2, .slice a3 o.del.length c3, .int .i64 o.cost] 72))
                  have HPM7 := Lib.hid (HPM5.out.keeps0 K7)
                  have HXG := Lib.hid (show ¬ G5 wr.heap.size from fun h => by have := HPM5.out.st.dg.bnd _ h; omega)
                  have HOK := Lib.hid hok; have HJ := Lib.hid ho; have HLT3 := Lib.hid hlt
                  have HFF := Lib.hid (And.intro f1 (And.intro f2 f3))
                  clear hcell u0 u1 u2 u3 i1 i2 i3 K7 ho hok f1 f2 f3 f4 hlt
                  go_upto_region 22 with fail
                  generalize (wr.alloc (.cells #[.slice a1 o.pre.length c1, .slice a2 o.add.length c2, .slice a3 o.del.length c3, .int .i64 o.cost] 72)) = w17 at HX7 HPM7 ⊢
                  generalize wr.heap.size = bx at HX7 HXG ⊢
                  clear r0 r1 r2 r3
                  have HLL := Lib.hid (show ly < N5.length + 2 from by have h1 := HLE5.out.len; have h2 := HLY4L.out; omega)
                  have HLB5 := Lib.hid (show low N5 + 40000000 ≤ 5800000000000 from by have h1 := HLW5.out; have h2 := HLT4.out; have h3 := ipay_le (ly := ly) (show j ≤ 40 by omega); omega)
                  have HCI := Lib.hid (image_any w3 w17 ss sb L N5 G5 (L : Int) _ _ _ gk ly j t.ops o HPM7.out.st hL24 HOPS.out HJ.out h40 HLL.out (isSet_iff.1 HOK.out.pre).1 (isSet_iff.1 HOK.out.add).1 (isSet_iff.1 HOK.out.del).1 HFF.out.1 HFF.out.2.1 HFF.out.2.2 (by have h1 := HCO.out; have h2 := HLB5.out; split at h1 <;> omega))
                  go_wp2_with fail
                  refine HCI.out.mono ?_; rintro e w18 ⟨nx, N6, G6, rfl, hp6, hz6, hs6, hk6, hn6⟩
                  have HP6 := Lib.hid hp6; have HZ6 := Lib.hid hz6
                  have HPM18 := Lib.hid (HPM7.out.opS hs6 hk6 hn6)
                  have HX18 := Lib.hid (hk6.heap HX7.out HXG.out)
                  have HIM := Lib.hid (show ∀ m, dv N6 nx m = imgB o (dv N6 ly) m from fun m => by
                    have e1 : dv N6 ly = dv N5 ly := funext fun z => HP6.out.le.dv HPM7.out.st.dg.ok HLL.out z
                    rw [HP6.out.val, e1]; rfl)
                  have HPG6 := Lib.hid (HPG5.out.le HPM7.out.st.dg.ok HP6.out.le)
                  clear hp6 hz6 hs6 hk6 hn6 HCI HX7 HXG
                  by_cases hx0 : nx = 0
                  · subst hx0
                    have HPGD := Lib.hid (HPG6.out.dead hL24 HLT2.out HJ.out HOK.out (putP_same D p ly) (fun m => by rw [← HIM.out m]; exact dv_zero m))
                    have HLW6 := Lib.hid (show low N6 ≤ low N4 + ipay ly (j + 1) from by
                      have h1 := HP6.out.cnt; have h2 := HCO.out; have h3 := HLW5.out
                      rw [ipay_succ]; unfold icost
                      split at h2 <;> split <;> omega)
                    have HJZ := Lib.hid (jz_succ ly j)
                    clear HX18
                    go_wp2_with fail
                    go_roundw
                    case rel =>
                      exact ⟨j + 1, N6, G6, W5, A5, t5, F5, by go_num, HLT3.out, HPM18.out, HPGD.out, HLE5.out.trans HP6.out.le, HLW6.out, by have h1 := HA5.out; have h2 := HJZ.out; omega, ht50, by have h1 := HT5.out; have h2 := HJZ.out; omega⟩
                    case measure => simp [intOf]; have := HLT3.out; omega
                  · have q1 : ((nx : Int) == 0) = false := by simpa using hx0
                    have HLZ := Lib.hid (show ly ≠ 0 from fun h => hx0 (HZ6.out h))
                    have hpb := HPB.out HLZ.out
                    have HXZ := Lib.hid hx0
                    have x3 : w18.cell? ⟨bx, 3, none⟩ = some (.int .i64 o.cost) := (cell_of_blk HX18.out).trans rfl
                    have xl := lt_of_heap HX18.out
                    clear hx0
                    go_wp2_with fail
                    refine (sprice_any _ _ ⟨hcst.1, by omega⟩).mono ?_; rintro e wq ⟨rfl, hwq⟩
                    rw [← hwq]; clear hwq wq
                    go_upto_region 25 with fail
                    obtain ⟨to, hto⟩ : ∃ to : Nat, to = p + prcN o.word := ⟨_, rfl⟩
                    have hto2 : (p : Int) + (4096 * o.cost + 1) = (to : Int) := by have h1 := HPR.out; omega
                    rw [hto2]
                    have HTO := Lib.hid hto
                    obtain ⟨kx, hkx⟩ := look_is W5 (to : Int)
                    have HKX := Lib.hid hkx
                    have KD := (Keeps.refl (fun _ => False) w18).drew
                    have HPMD := Lib.hid (HPM18.out.keeps0 KD)
                    have hlk := HPMD.out.wm.look hkx
                    have HKL := Lib.hid (show kx < N6.length + 2 ∧ nx < N6.length + 2 from ⟨HPG6.out.look hkx, HP6.out.lt⟩)
                    have HC := Lib.hid (or_any w18.drew sb L N6 G6 kx nx HPMD.out.st.dg hL24 HKL.out.1 HKL.out.2 (by have h1 := HP6.out.cnt; have h2 := HCO.out; have h3 := HLB5.out; have h4 := lowB_le L (min (lev L N6 kx) (lev L N6 nx)); split at h2 <;> omega))
                    have e0 := HPMD.out.st.c0.1
                    have el := HPMD.out.st.c0.2
                    clear hkx KD x3 xl hcst hpb hto hto2 HX18
                    have hlen : A5.length ≤ 999999 := by have h1 := HA5.out; have h2 := HFL.out; have h3 := jz_le (ly := ly) (show j ≤ 40 by omega); omega
                    have ht5b : t5 ≤ 1000000000000000 := by have h1 := HT5.out; have h3 := jz_le (ly := ly) (show j ≤ 40 by omega); omega
                    have HLN5 := Lib.hid (And.intro hlen ht5b)
                    clear hlen ht5b
                    go_region_held3 (fun w' => w'.cell? ⟨ss, 0, none⟩ = some (.pointer (some ⟨sb, 0, none⟩)))
                      (go_keep)
                      (first
                        | (go_at_call 27; refine HC.out.mono ?_; rintro en w19 ⟨rr, N7, G7, rfl, hp7, hd7, hk7, hn7⟩; have HP7 := Lib.hid hp7; have HPM19 := Lib.hid (HPMD.out.op hd7 hk7 hn7); obtain ⟨w20, hr20, hm20, hk20⟩ := HPM19.out.wm.1.put (P := Tryz.prog) Tryz.underlying73 Tryz.underlying3 to rr; replace hr20 : (Instr.mapUpdate 73 (.map (some wb)) (.int .i64 (to : Int)) (.int .i64 (rr : Int))).run Tryz.prog w19 = .ok () w20 := hr20; have HPM20 := Lib.hid (HPM19.out.putW hm20 hk20); have t0 := HPM19.out.st.c0.1; have v0 := HPM20.out.st.c0.1; clear hp7 hd7 hk7 hn7 hm20 hk20))
                    all_goals
                      have HPGG := Lib.hid ((HPG6.out.le HPMD.out.st.dg.ok HP7.out.le).grow hL24 HC0.out HLT2.out HJ.out HOK.out (putP_same D p ly) (fun k hk => by
                        rcases (put_has k).1 hk with h1 | h1
                        · have := HLY.out.2.2.2 k h1; omega
                        · omega) HTO.out HKX.out HP7.out.lt (nx := nx) (fun m => by
                          have e1 : dv N7 ly = dv N6 ly := funext fun z => HP7.out.le.dv HPMD.out.st.dg.ok (show ly < N6.length + 2 from by have h1 := HP6.out.le.len; have h2 := HLL.out; omega) z
                          rw [HP7.out.le.dv HPMD.out.st.dg.ok HKL.out.2, HIM.out, e1]) (fun m => by
                          rw [HP7.out.val, HP7.out.le.dv HPMD.out.st.dg.ok HKL.out.1, HP7.out.le.dv HPMD.out.st.dg.ok HKL.out.2]))
                      have HLW7 := Lib.hid (show low N7 ≤ low N4 + ipay ly (j + 1) from by
                        have h1 := HP6.out.cnt; have h2 := HCO.out; have h3 := HLW5.out; have h4 := HP7.out.cnt; have h5 := lowB_le L (min (lev L N6 kx) (lev L N6 nx))
                        rw [if_neg HLZ.out] at h2
                        rw [ipay_succ]; unfold icost
                        rw [if_neg HLZ.out]; omega)
                      have HSB := Lib.hid (V.set_both w20 Q A5 t5 F5 HPM20.out.q (to : Int) (to : Int) ⟨ht50, HLN5.out.2⟩ HLN5.out.1)
                      have HLE7 := Lib.hid ((HLE5.out.trans HP6.out.le).trans HP7.out.le)
                      have HJZ := Lib.hid (jz_step (j := j) HLZ.out)
                      have HAL := Lib.hid (V.setA_len A5 (to : Int) (to : Int))
                      clear t0 v0 hr20 hlk e0 el HC HP7 HPM19
                      go_wp2_with fail
                      refine HSB.out.mono ?_; rintro e w21 ⟨rfl, F6, hq21, hn21, hk21⟩
                      have HPM21 := Lib.hid (HPM20.out.queue hq21 hn21 hk21)
                      clear hq21 hn21 hk21
                      go_wp2_with fail
                      go_roundw
                      case rel =>
                        exact ⟨j + 1, N7, G7, putP W5 to rr, V.setA A5 (to : Int) (to : Int), t5 + 1, _, by go_num, HLT3.out, HPM21.out, HPGG.out, HLE7.out, HLW7.out, by have h1 := HA5.out; have h2 := HJZ.out; have h3 := HAL.out; omega, by omega, by have h1 := HT5.out; have h2 := HJZ.out; omega⟩
                      case measure => simp [intOf]; have := HLT3.out; omega
                · have hje : j = t.ops.length := by omega
                  subst hje
                  clear hlt
                  go_wp2_with fail
                  go_roundw
                  case rel =>
                    obtain ⟨r1, r2, r3, _⟩ := round_pays HLW.out HLW2.out HB3L.out HLW4.out HLW5.out (by omega) HFL.out HA5.out HSP.out han ht1 HT5.out
                    refine ⟨c', n + sl, N5, G5, W5, putP D p ly, A5, t5, F5, rfl, by go_num, HPM5.out, HPG5.out.final rfl, HCN4.out, HNG3.out, HLE4.out.trans HLE5.out, r1, r2, ht50, r3⟩
                  case measure =>
                    obtain ⟨_, _, _, r4⟩ := round_pays HLW.out HLW2.out HB3L.out HLW4.out HLW5.out (by omega) HFL.out HA5.out HSP.out han ht1 HT5.out
                    have h1 := r4 (Nat.le_trans (HCN4.out.le HRE.out) HRS.out.2.1)
                    rw [HPM5.out.q.qlen_is, HQN.out]
                    simp [intOf]
                    omega
            · have HDI := Lib.hid (HPG.out.doneI HOKN.out (HP2.out.le.trans HP3.out.le) (show ly < N3.length + 2 from by have h1 := HP3.out.le.len; have h2 := HP2.out.lt; omega) HLY3.out HLY.out.2.1)
              have HTP := Lib.hid (show ∀ m, m < 2 ^ L → dv N3 at_ m = true → Pd (wordsOf t.ops) (wd t.init) m p from fun m hm h => by
                rw [HAT.out, Bool.and_eq_true] at h
                exact (HLY3.out m hm).1 h.1)
              have HBT := Lib.hid (show BestT t (p : Int) from by
                obtain ⟨m0, hm0, _, hm1⟩ := dv_some HPM13.out.st.dg.ok at_ HP3.out.lt h0
                have h2 := hm1
                rw [HAT.out, Bool.and_eq_true] at h2
                exact best_some HC0.out HNG.out HLY.out.2.1 (HTP.out m0 hm0 hm1) h2.2)
              have hpb : p ≤ 1000000000 := by
                obtain ⟨m0, hm0, _, hm1⟩ := dv_some HPM13.out.st.dg.ok at_ HP3.out.lt h0
                have := (HTP.out m0 hm0 hm1).bound HC0.out HRE.out HRS.out.2.1
                omega
              have HCB := Lib.hid (cnt_best HCN.out HBT.out (fun k x hx => ⟨fun h => .inr (by have := HLY.out.2.2.2 k h; omega), fun h => HLY.out.2.1 k x hx (by omega)⟩))
              have hnl : 0 ≤ (n : Int) ∧ (n : Int) ≤ (l.length : Int) := ⟨by omega, by have := HCN.out.le HRE.out; omega⟩
              have HNL := Lib.hid hnl
              have q0 : ((at_ : Int) != 0) = true := by simpa using h0
              have q0' : (at_ != 0) = true := by simpa using h0
              have KD := (Keeps.refl (fun _ => False) w13).drew
              have HPME := Lib.hid (HPM13.out.keeps0 KD)
              have HTRC := Lib.hid (trace_any w3 w13.drew ss sb L N3 G3 (L : Int) _ _ _ gk t l db (putP D p ly) at_ p HPME.out.st hL24 HLN.out HOPS.out OK.out HX.out HPME.out.dm HDI.out HP3.out.lt h0 HTP.out hpb (by have h1 := HLW2.out; have h2 := HP3.out.cnt; have h3 := opC_le wk; have h4 := opC_le ly; have h5 := HLW.out; omega))
              have K3 := HPME.out.st.k0
              have d0 := K3.cell HB3.out.c0 (fun h => h); have d1 := K3.cell HB3.out.c1 (fun h => h); have d2 := K3.cell HB3.out.c2 (fun h => h); have d3 := K3.cell HB3.out.c3 (fun h => h)
              have hbx : w.heap.size < w13.heap.size := Nat.lt_of_lt_of_le HB3.out.lt HPM13.out.st.k0.size
              have HBA := Lib.hid (show w.heap.size + 1 + 1 < w3.heap.size from lt_of_heap HR3.out.flt.blk)
              clear KD K3 hnl
              go_upto_region 16 with fail
              clear q0 q0' h0 hpb
              by_cases h60 : p % 4096 ≤ 60
              · have H60 := Lib.hid h60
                clear h60
                go_region_held3 (fun w' => w'.cell? ⟨w.heap.size, 0, none⟩ = some (.int .i64 (L : Int)) ∧ w'.cell? ⟨w.heap.size, 1, none⟩ = some (.slice ai t.init.length ci) ∧ w'.cell? ⟨w.heap.size, 2, none⟩ = some (.slice ag t.goal.length cg) ∧ w'.cell? ⟨w.heap.size, 3, none⟩ = some (.slice ao t.ops.length co))
                  (first | go_keep | with_reducible exact ⟨E0.out, E1.out, E2.out, E3.out⟩)
                  (first
                    | (go_at_call 42; refine HTRC.out.mono ?_; rintro en wA ⟨hkA, v2, q, y, rfl, hi, hrun, hyl, hTy, hway, hlo⟩; obtain ⟨a3, c3, hv3, _⟩ := hi.form; subst hv3; have HI := Lib.hid hi; have HRUN := Lib.hid hrun; have HGY := Lib.hid (show goalB (wd t.goal) y = true from by rw [HAT.out, Bool.and_eq_true] at hTy; exact hTy.2); have HLC := Lib.hid (plan_len HC0.out HRE.out HRS.out.2.1 (HTP.out y hyl hTy) hrun hway); have HLO := Lib.hid hlo; have HTA := Lib.hid (HT3.out.keeps0 hkA); have HRA := Lib.hid (HR3.out.keeps0 hkA); have A0 := hkA.cell HB3.out.c0 (fun h => h); have A1 := hkA.cell HB3.out.c1 (fun h => h); have A2 := hkA.cell HB3.out.c2 (fun h => h); have A3 := hkA.cell HB3.out.c3 (fun h => h); have hres := sresult_fit wA _ _ _ _ t (intsP q) true (n : Int) HTA.out OK.out HI.out (planIn_run hrun) (by have h1 := H60.out; have h2 := HLC.out.1; unfold intsP; rw [List.length_map]; omega); rw [HLN.out] at hres; have HRES := Lib.hid hres; clear hi hrun hyl hTy hway hlo hkA hres)
                    | (go_at_call 41; refine HRES.out.mono ?_; rintro en wC ⟨rfl, hkC⟩; have C0 := hkC.cell A0 (fun h => h); have C1 := hkC.cell A1 (fun h => h); have C2 := hkC.cell A2 (fun h => h); have C3 := hkC.cell A3 (fun h => h); have HRC := Lib.hid (HRA.out.keeps0 hkC); have HI4 := Lib.hid (HI.out.keeps0 hkC); obtain ⟨r0, r1, r2, r3, y0, y1, y2, y3, hlR⟩ := HRC.out.cells; obtain ⟨e0, e1, z0, z1, hF⟩ := HRC.out.flt.cells; have HFIN := Lib.hid (HRC.out.set (.bool true) (.slice a3 (intsP q).length c3) (.int .i64 (costL t (intsP q))) (.int .i64 (n : Int)) (.int .i64 0) (.int .i64 0)); have hne : ¬ (w.heap.size = w.heap.size + 1 ∨ w.heap.size = w.heap.size + 1 + 1) := (by omega); have E0 := Lib.hid (HFIN.out.2.2.2.cell C0 hne); have E1 := Lib.hid (HFIN.out.2.2.2.cell C1 hne); have E2 := Lib.hid (HFIN.out.2.2.2.cell C2 hne); have E3 := Lib.hid (HFIN.out.2.2.2.cell C3 hne); clear hkC A0 A1 A2 A3 hne))
                all_goals
                  go_wp2_with fail
                  refine bodyPost_ret (results_cell_cell _ _ (w.heap.size + 1 + 1) 29 #[.int .i64 0, .int .i64 0] (0, 0) _ rfl rfl HFIN.out.2.1 Tryz.underlying29 rfl (by kernel_rfl) rfl HFIN.out.1 Tryz.underlying41 rfl (by kernel_rfl)) rfl ?_
                  refine ⟨HFIN.out.2.2.1, true, _, _, _, (n : Int), 0, 0, rfl, ?_, bplan_short OK.out HX.out HBT.out (by omega) HRUN.out HGY.out HLC.out.2.1 HLC.out.2.2 (by have h1 := HLC.out.1; have h2 := H60.out; omega) HNL.out, fun _ => HCB.out⟩
                  refine HI4.out.keepsS HFIN.out.2.2.2 (fun h0 j hj e' => ?_)
                  have h1 := HLO.out j hj
                  have h2 := HBA.out
                  omega
              · have H60 := Lib.hid h60
                clear h60
                go_region_held3 (fun w' => w'.cell? ⟨w.heap.size, 0, none⟩ = some (.int .i64 (L : Int)) ∧ w'.cell? ⟨w.heap.size, 1, none⟩ = some (.slice ai t.init.length ci) ∧ w'.cell? ⟨w.heap.size, 2, none⟩ = some (.slice ag t.goal.length cg) ∧ w'.cell? ⟨w.heap.size, 3, none⟩ = some (.slice ao t.ops.length co))
                  (first | go_keep | with_reducible exact ⟨E0.out, E1.out, E2.out, E3.out⟩)
                  (first
                    | (go_at_call 42; refine HTRC.out.mono ?_; rintro en wA ⟨hkA, v2, q, y, rfl, hi, hrun, hyl, hTy, hway, hlo⟩; obtain ⟨a3, c3, hv3, _⟩ := hi.form; subst hv3; have HI := Lib.hid hi; have HLC := Lib.hid (plan_len HC0.out HRE.out HRS.out.2.1 (HTP.out y hyl hTy) hrun hway); have HTA := Lib.hid (HT3.out.keeps0 hkA); have HRA := Lib.hid (HR3.out.keeps0 hkA); have A0 := hkA.cell HB3.out.c0 (fun h => h); have A1 := hkA.cell HB3.out.c1 (fun h => h); have A2 := hkA.cell HB3.out.c2 (fun h => h); have A3 := hkA.cell HB3.out.c3 (fun h => h); have hres := sresult_long wA _ _ _ _ t (intsP q) true (n : Int) HTA.out OK.out HI.out (planIn_run hrun) (by have h1 := H60.out; have h2 := HLC.out.1; unfold intsP; rw [List.length_map]; omega); rw [HLN.out] at hres; have HRES := Lib.hid hres; clear hi hrun hyl hTy hway hlo hkA hres)
                    | (go_at_call 41; refine HRES.out.mono ?_; rintro en wC ⟨rfl, hkC⟩; have C0 := hkC.cell A0 (fun h => h); have C1 := hkC.cell A1 (fun h => h); have C2 := hkC.cell A2 (fun h => h); have C3 := hkC.cell A3 (fun h => h); have HRC := Lib.hid (HRA.out.keeps0 hkC); obtain ⟨r0, r1, r2, r3, y0, y1, y2, y3, hlR⟩ := HRC.out.cells; obtain ⟨e0, e1, z0, z1, hF⟩ := HRC.out.flt.cells; have HFIN := Lib.hid (HRC.out.set (.bool false) (.slice none 0 0) (.int .i64 0) (.int .i64 0) (.int .i64 10) (.int .i64 (-9))); have hne : ¬ (w.heap.size = w.heap.size + 1 ∨ w.heap.size = w.heap.size + 1 + 1) := (by omega); have E0 := Lib.hid (HFIN.out.2.2.2.cell C0 hne); have E1 := Lib.hid (HFIN.out.2.2.2.cell C1 hne); have E2 := Lib.hid (HFIN.out.2.2.2.cell C2 hne); have E3 := Lib.hid (HFIN.out.2.2.2.cell C3 hne); clear hkC A0 A1 A2 A3 hne))
                all_goals
                  go_wp2_with fail
                  refine bodyPost_ret (results_cell_cell _ _ (w.heap.size + 1 + 1) 29 #[.int .i64 10, .int .i64 (-9)] (0, 0) _ rfl rfl HFIN.out.2.1 Tryz.underlying29 rfl (by kernel_rfl) rfl HFIN.out.1 Tryz.underlying41 rfl (by kernel_rfl)) rfl ?_
                  exact ⟨HFIN.out.2.2.1, false, _, [], 0, 0, 10, -9, rfl, Ints.nil _, bplan_long OK.out HX.out HBT.out (by omega) HLC.out.2.1 (by have h1 := HLC.out.1; have h2 := H60.out; omega), fun h => absurd h (by decide)⟩

end Go.Proofs.YtjcgkmodmjckjaaGreat

namespace Go.Proofs.YtjcgkmodmjckjaaGreat

section
variable {ops : List Wop} {s : Nat} {out : List Int}
theorem sum_snocI (l : List Int) (c : Int) : (l ++ [c]).sum = l.sum + c := by
  induction l with
  | nil => simp
  | cons a r ih => rw [List.cons_append, List.sum_cons, List.sum_cons, ih]; omega
theorem lay_sums (h : LayersIs ops s out) : ∀ k, k ≤ out.length → ∃ U : List Nat, U.Nodup ∧ (∀ x, x ∈ U ↔ ∃ n, n < k ∧ Dp ops s x n) ∧ (out.take k).sum = (U.length : Int) := by
  intro k
  induction k with
  | zero => intro _; exact ⟨[], List.nodup_nil, fun x => ⟨fun h => by simp at h, fun ⟨n, hn, _⟩ => by omega⟩, by simp⟩
  | succ k ih =>
    intro hk
    obtain ⟨U, h1, h2, h3⟩ := ih (by omega)
    obtain ⟨c, hc⟩ : ∃ c, out[k]? = some c := ⟨_, List.getElem?_eq_getElem (by omega)⟩
    obtain ⟨S, g1, _, g3, g4⟩ := h.1 k c hc
    refine ⟨U ++ S, List.nodup_append.2 ⟨h1, g1, fun a ha b hb e => ?_⟩, fun x => ?_, ?_⟩
    · subst e
      obtain ⟨n, hn, hd⟩ := (h2 a).1 ha
      have := hd.unique ((g3 a).1 hb); omega
    · rw [List.mem_append, h2, g3]
      constructor
      · rintro (⟨n, hn, hd⟩ | hd)
        · exact ⟨n, by omega, hd⟩
        · exact ⟨k, by omega, hd⟩
      · rintro ⟨n, hn, hd⟩
        by_cases e : n = k
        · subst e; exact .inr hd
        · exact .inl ⟨n, by omega, hd⟩
    · rw [take_getS hc, sum_snocI, h3, g4, List.length_append]; omega
/-- They add up to the number of the states. -/
theorem lay_sum (h : LayersIs ops s out) {l : List Nat} (hd : l.Nodup) (hl : ∀ x, x ∈ l ↔ ∃ q, runOps ops s q = some x) : out.sum = (l.length : Int) := by
  obtain ⟨U, h1, h2, h3⟩ := lay_sums h out.length (Nat.le_refl _)
  rw [List.take_of_length_le (Nat.le_refl _)] at h3
  have hm : ∀ x, x ∈ U ↔ x ∈ l := fun x => by
    rw [h2, hl]
    constructor
    · rintro ⟨n, _, ⟨q, hq, _⟩, _⟩; exact ⟨q, hq⟩
    · rintro ⟨q, hq⟩
      obtain ⟨n, _, hn⟩ := Dp.least q.length q (Nat.le_refl _) hq
      exact ⟨n, h.2 _ _ hn, hn⟩
  have a := nodup_sub h1 (r := l) (fun x hx => (hm x).1 hx)
  have b := nodup_sub hd (r := U) (fun x hx => (hm x).2 hx)
  rw [h3]; congr 1; omega
theorem lay_first (h : LayersIs ops s out) : out[0]? = some 1 := by
  have h0 := h.2 s 0 Dp.zero
  obtain ⟨c, hc⟩ : ∃ c, out[0]? = some c := ⟨_, List.getElem?_eq_getElem h0⟩
  obtain ⟨S, g1, _, g3, g4⟩ := h.1 0 c hc
  have a := nodup_sub g1 (r := [s]) (fun x hx => by rw [((g3 x).1 hx).start]; simp)
  have b := nodup_sub (l := [s]) (by simp) (r := S) (fun x hx => by rw [List.mem_singleton.1 hx]; exact (g3 s).2 Dp.zero)
  rw [hc, g4]
  simp only [List.length_singleton] at a b
  congr 1; omega
end

end Go.Proofs.YtjcgkmodmjckjaaGreat

namespace Go.Proofs.YtjcgkmodmjckjaaGreat
open Go.RowKit

/-! ### StateFault of the reference -/
end Go.Proofs.YtjcgkmodmjckjaaGreat

/- isOne at the task step. -/
namespace Go.Proofs.YtjcgkmodmjckjaaGreat
open Go.RowKit

set_option maxRecDepth 100000 in
set_option maxHeartbeats 1000000 in
theorem isOne_any (w : World) (vp : Value) (n : Int) (h : Ints w vp [0]) :
    Calls Tryz.prog 21 #[resV true vp 3 n, fltV 0 0] w fun e w' => e = .returned (.bool true) ∧ Keeps (fun _ => False) w w' := by
  obtain ⟨ap, cp, h4, _⟩ := h.form
  subst h4
  have KA := (Keeps.refl (fun _ => False) w).alloc (.cells #[.bool true, .slice ap 1 cp, .int .i64 3, .int .i64 n] 41)
  have KB := (Keeps.refl (fun _ => False) (w.alloc (.cells #[.bool true, .slice ap 1 cp, .int .i64 3, .int .i64 n] 41))).alloc (.cells #[.int .i64 0, .int .i64 0] 29)
  have HK := Lib.hid (KA.trans KB)
  have HX := KB.heap (heap_alloc_new w (.cells #[.bool true, .slice ap 1 cp, .int .i64 3, .int .i64 n] 41)) (fun h => h)
  have HF := heap_alloc_new (w.alloc (.cells #[.bool true, .slice ap 1 cp, .int .i64 3, .int .i64 n] 41)) (.cells #[.int .i64 0, .int .i64 0] 29)
  rw [World.size_alloc] at HF
  have HP := Lib.hid (show Ints _ (.slice ap 1 cp) [0] from h.keeps0 (KA.trans KB))
  clear KA KB h
  unfold resV fltV
  go_enter Tryz.func21, Tryz.ntmps21
  go_upto_region 1 with fail
  generalize (w.alloc (.cells #[.bool true, .slice ap 1 cp, .int .i64 3, .int .i64 n] 41)).alloc (.cells #[.int .i64 0, .int .i64 0] 29) = w1 at HX HF HK HP ⊢
  have s0 : w1.cell? ⟨w.heap.size, 0, none⟩ = some (.bool true) := by rw [cell_of_blk HX]; rfl
  have s1 : w1.cell? ⟨w.heap.size, 1, none⟩ = some (.slice ap 1 cp) := by rw [cell_of_blk HX]; rfl
  have s2 : w1.cell? ⟨w.heap.size, 2, none⟩ = some (.int .i64 3) := by rw [cell_of_blk HX]; rfl
  have f0 : w1.cell? ⟨w.heap.size + 1, 0, none⟩ = some (.int .i64 0) := by rw [cell_of_blk HF]; rfl
  have hl := lt_of_heap HX
  have hlF := lt_of_heap HF
  have kc := (Keeps.refl (fun _ => False) w1).alloc (.cells #[.int .i64 0] 3)
  have HQ := Lib.hid (Ints.one (x := 0) (heap_alloc_new w1 (.cells #[.int .i64 0] 3)))
  have HP2 := Lib.hid (show Ints _ (.slice ap 1 cp) [0] from HP.out.keeps0 kc)
  have HK2 := Lib.hid (HK.out.trans kc)
  have HX2 := Lib.hid (kc.heap HX (fun h => h))
  clear kc HX HF
  go_wp2_with fail
  refine (ints_any _ _ _ _ _ HP2.out HQ.out).mono ?_; rintro e w3 ⟨rfl, hk⟩
  have hx := hk.heap HX2.out (fun h => h)
  clear s0 s1 s2 hl
  have s2 : w3.cell? ⟨w.heap.size, 2, none⟩ = some (.int .i64 3) := by rw [cell_of_blk hx]; rfl
  have hl := lt_of_heap hx
  have HKE := Lib.hid (HK2.out.trans hk)
  clear hx hk
  go_wp2_with fail
  go_ret
  exact ⟨rfl, HKE.out⟩

end Go.Proofs.YtjcgkmodmjckjaaGreat

namespace Go.Proofs.YtjcgkmodmjckjaaGreat
open Go.RowKit

theorem stepS_run {q : List Nat} {x y : Nat} (h : runOps (wordsOf stepT.ops) x q = some y) : costN (wordsOf stepT.ops) q = 3 * (q.length : Int) ∧ ∀ k ∈ q, k = 0 := by
  have hl := runOps_lt h
  have hz : ∀ k ∈ q, k = 0 := fun k hk => by
    have h1 := hl k hk
    have h2 : (wordsOf stepT.ops).length = 1 := rfl
    omega
  refine ⟨?_, hz⟩
  clear h hl
  induction q with
  | nil => rfl
  | cons a r ih =>
    obtain rfl := hz a (by simp)
    have h1 := ih (fun k hk => hz k (by simp [hk]))
    rw [costN, h1, List.length_cons]
    have : ((wordsOf stepT.ops)[0]?.map Wop.cost).getD 0 = 3 := rfl
    rw [this]
    omega
theorem stepS_least : BestT stepT 12289 := by
  refine .inr ⟨by decide, ⟨[0], 1, by decide, by decide, by decide⟩, fun p y hr hy => ?_⟩
  have h1 := (stepS_run hr).1
  rw [wayN_split, h1]
  cases p with
  | nil =>
    simp [runOps] at hr; subst hr
    exact absurd hy (by decide)
  | cons a q => rw [List.length_cons]; omega
theorem stepS_expF : expF stepT = (0, 0) := by unfold expF; rw [if_pos (by rw [stepT_ok]), stepT_reached]
theorem stepS_all : ([0, 1] : List Nat).Nodup ∧ (∀ x, x ∈ ([0, 1] : List Nat) ↔ ∃ q, runOps (wordsOf stepT.ops) (wd stepT.init) q = some x) := by
  have h := reached_some (ops := wordsOf stepT.ops) (s := wd stepT.init) stepT_reached
  refine ⟨h.1, fun x => (h.2.2.2 x).trans ⟨fun hx => ?_, fun ⟨q, hq⟩ => reach_run q .refl hq⟩⟩
  induction hx with
  | refl => exact ⟨[], rfl⟩
  | step _ hy ih =>
    obtain ⟨q, hq⟩ := ih
    obtain ⟨o, ho, rfl⟩ := List.mem_map.1 hy
    obtain ⟨ho, hc⟩ := List.mem_filter.1 ho
    obtain ⟨k, hk⟩ := List.mem_iff_getElem?.1 ho
    exact ⟨q ++ [k], runOps_snoc' hq hk hc⟩
theorem stepS_layers {out : List Int} (h : LayersIs (wordsOf stepT.ops) (wd stepT.init) out) : out = [1, 1] := by
  have h1 := lay_first h
  have h2 := lay_sum h stepS_all.1 stepS_all.2
  have h3 : ¬ 2 < out.length := fun hlt => by
    obtain ⟨S, _, g2, g3, _⟩ := h.1 2 _ (List.getElem?_eq_getElem hlt)
    obtain ⟨x, hx⟩ := List.exists_mem_of_ne_nil _ g2
    have := Dp.lt (l := [0, 1]) (fun q y hq => (stepS_all.2 y).2 ⟨q, hq⟩) ((g3 x).1 hx)
    simp at this
  cases out with
  | nil => simp at h1
  | cons a r =>
    simp at h1; subst h1
    cases r with
    | nil => simp at h2
    | cons b r2 =>
      cases r2 with
      | nil =>
        simp only [List.sum_cons, List.sum_nil, List.length_cons, List.length_nil] at h2
        have : b = 1 := by omega
        rw [this]
      | cons c r3 => simp at h3
theorem stepS_cheaper {k : Nat} (h : CntIs (wordsOf stepT.ops) (wd stepT.init) (fun p => (12289 : Int) < 0 ∨ (p : Int) < 12289) k) : k = 1 := by
  obtain ⟨S, h1, h2, h3⟩ := h
  have h0 : (0 : Nat) ∈ S := (h2 0).2 ⟨0, .inr (by decide), Pd.zero (ops := wordsOf stepT.ops) (s := wd stepT.init) (fun o ho => by
    have : o = (⟨0, 1, 0, 3⟩ : Wop) := by simpa [wordsOf, stepT, Opr.word, wd] using ho
    subst this; decide)⟩
  have h4 := nodup_sub h1 (r := [0]) (fun x hx => by
    obtain ⟨p, hp, ⟨q, hq, hw⟩, _⟩ := (h2 x).1 hx
    rw [wayN_split, (stepS_run hq).1] at hw
    have hl : q.length = 0 := by omega
    have : q = [] := List.length_eq_zero_iff.1 hl
    subst this
    cases hq; exact List.mem_singleton.2 rfl)
  have h5 := List.length_pos_iff.2 (List.ne_nil_of_mem h0)
  simp only [List.length_singleton] at h4
  omega
theorem Ints.pair {w : World} {b : Nat} {x y : Int} {T : TypeId} (h : w.heap[b]? = some (.cells #[.int .i64 x, .int .i64 y] T (0, 0))) : Ints w (.slice (some ⟨b, 0, none⟩) 2 2) [x, y] := by
  refine ⟨_, _, rfl, by simp [maxLen], fun _ => ⟨b, 0, rfl, fun j z hj => ?_⟩⟩
  rw [Nat.zero_add, cell_of_blk h]
  cases j with
  | zero => simpa using hj
  | succ j =>
    cases j with
    | zero => simpa using hj
    | succ j => simp at hj
theorem layersStep_any (w : World) (vi vg vo : Value) (h : TaskAt w vi vg vo stepT) :
    Calls Tryz.prog 8 #[.agg #[.int .i64 1, vi, vg, vo]] w fun e w' => ∃ v, e = .returned (.tuple #[v, fltV 0 0]) ∧ Ints w' v [1, 1] ∧ Keeps (fun _ => False) w w' := by
  refine (layers_any w vi vg vo stepT h).mono ?_
  rintro e w' ⟨hk, v, out, fc, fi, rfl, hi, hr⟩
  rcases hr with ⟨h1, h2, _⟩ | ⟨rfl, rfl, _, l, _, hl⟩
  · rw [stepS_expF] at h2; cases h2; exact absurd rfl h1
  · rw [stepS_layers hl] at hi
    exact ⟨v, rfl, hi, hk⟩
theorem splanStep_any (w : World) (vi vg vo : Value) (h : TaskAt w vi vg vo stepT) :
    Calls Tryz.prog 14 #[.agg #[.int .i64 1, vi, vg, vo]] w fun e w' => ∃ v, e = .returned (.tuple #[resV true v 3 1, fltV 0 0]) ∧ Ints w' v [0] ∧ Keeps (fun _ => False) w w' := by
  refine (splan_any w vi vg vo stepT h).mono ?_
  rintro e w' ⟨hk, fnd, vp, lp, c, n, fc, fi, rfl, hi, hr, hn⟩
  rcases hr with ⟨h1, h2, _⟩ | ⟨_, _, l, b, hx, hb, hr⟩
  · rw [stepS_expF] at h2; cases h2; exact absurd rfl h1
  · obtain rfl := LeastOf.unique hb stepS_least
    rcases hr with ⟨h1, _⟩ | ⟨_, rfl, rfl, hg⟩
    · exact absurd h1 (by decide)
    · obtain ⟨rfl, q, y, rfl, hrun, hacc, hlen, hcost, rfl⟩ := hg.some_ (by decide)
      have hz := (stepS_run hrun).2
      have hl : q.length = 1 := by omega
      obtain ⟨a, rfl⟩ := List.length_eq_one_iff.1 hl
      obtain rfl := hz a (by simp)
      obtain ⟨k, rfl, hc⟩ := hn rfl 12289 hb
      obtain rfl := stepS_cheaper hc
      exact ⟨vp, rfl, hi, hk⟩

set_option maxRecDepth 100000 in
set_option maxHeartbeats 2000000 in
theorem symExample_any (w : World) : Calls Tryz.prog 6 #[] w fun e w' => e = .returned (.bool true) ∧ Keeps (fun _ => False) w w' := by
  go_enter Tryz.func6, Tryz.ntmps6
  go_wp2_with fail
  refine (step_any _).mono ?_; rintro e w1 ⟨vi, vg, vo, rfl, ht, hk⟩
  have HT := Lib.hid ht; have K1 := Lib.hid hk
  clear ht hk
  go_wp2_with fail
  refine (layersStep_any _ _ _ _ HT.out).mono ?_; rintro e w2 ⟨vl, rfl, hp, hk⟩
  obtain ⟨al, cl, hvp, _⟩ := hp.form
  subst hvp
  simp only [fltV]
  have KA := (Keeps.refl (fun _ => False) w2).alloc (.cells #[.int .i64 0, .int .i64 0] 29)
  have HL3 := Lib.hid (hp.keeps0 KA); have K3 := Lib.hid ((K1.out.trans hk).trans KA)
  have F3 := Lib.hid (heap_alloc_new w2 (.cells #[.int .i64 0, .int .i64 0] 29))
  clear hp hk HT KA
  go_upto_region 2 with fail
  generalize w2.alloc (.cells #[.int .i64 0, .int .i64 0] 29) = w3 at HL3 K3 F3 ⊢
  generalize w2.heap.size = b3 at F3 ⊢
  go_wp2_with fail
  refine (step_any _).mono ?_; rintro e w4 ⟨vi2, vg2, vo2, rfl, ht, hk⟩
  have HT := Lib.hid ht; have K4 := Lib.hid (K3.out.trans hk); have HL4 := Lib.hid (HL3.out.keeps0 hk); have F4 := Lib.hid (hk.heap F3.out (fun h => h))
  clear ht hk
  go_wp2_with fail
  refine (splanStep_any _ _ _ _ HT.out).mono ?_; rintro e w5 ⟨vp, rfl, hp, hk⟩
  obtain ⟨ap, cp, hvp, _⟩ := hp.form
  subst hvp
  simp only [resV, fltV]
  have KA := (Keeps.refl (fun _ => False) w5).alloc (.cells #[.bool true, .slice ap 1 cp, .int .i64 3, .int .i64 1] 41)
  have KB := (Keeps.refl (fun _ => False) (w5.alloc (.cells #[.bool true, .slice ap 1 cp, .int .i64 3, .int .i64 1] 41))).alloc (.cells #[.int .i64 0, .int .i64 0] 29)
  have KC := hk.trans (KA.trans KB)
  have G6 := Lib.hid (KB.heap (heap_alloc_new w5 (.cells #[.bool true, .slice ap 1 cp, .int .i64 3, .int .i64 1] 41)) (fun h => h))
  have hf := heap_alloc_new (w5.alloc (.cells #[.bool true, .slice ap 1 cp, .int .i64 3, .int .i64 1] 41)) (.cells #[.int .i64 0, .int .i64 0] 29)
  rw [World.size_alloc] at hf
  have J6 := Lib.hid hf
  have HQ6 := Lib.hid (hp.keeps0 (KA.trans KB))
  have K6 := Lib.hid (K4.out.trans KC); have HL6 := Lib.hid (HL4.out.keeps0 KC); have F6 := Lib.hid (KC.heap F4.out (fun h => h))
  clear hp hk KA KB KC hf
  go_upto_region 3 with fail
  generalize (w5.alloc (.cells #[.bool true, .slice ap 1 cp, .int .i64 3, .int .i64 1] 41)).alloc (.cells #[.int .i64 0, .int .i64 0] 29) = w6 at G6 J6 HQ6 K6 HL6 F6 ⊢
  generalize w5.heap.size = b6 at G6 J6 ⊢
  obtain ⟨f0, f1, _, _, fl⟩ := pair_cells F6.out
  have KI := (Keeps.refl (fun _ => False) w6).alloc (.cells #[.int .i64 1, .int .i64 1] 3)
  have HI := Lib.hid (ints_any _ _ _ [1, 1] [1, 1] (HL6.out.keeps0 KI) (Ints.pair (heap_alloc_new w6 (.cells #[.int .i64 1, .int .i64 1] 3))))
  have HKI := Lib.hid KI
  clear KI
  go_wp2_with fail
  refine HI.out.mono ?_; rintro e w7 ⟨rfl, hk⟩
  have KC := HKI.out.trans hk
  have G7 := Lib.hid (KC.heap G6.out (fun h => h)); have J7 := Lib.hid (KC.heap J6.out (fun h => h)); have HQ7 := Lib.hid (HQ6.out.keeps0 KC); have K7 := Lib.hid (K6.out.trans KC)
  clear hk KC f0 f1 fl HI
  obtain ⟨g0, g1, g2, g3, gl⟩ := quad_cells G7.out
  obtain ⟨j0, j1, _, _, jl⟩ := pair_cells J7.out
  go_wp2_with fail
  refine (isOne_any _ _ 1 HQ7.out).mono ?_; rintro e w8 ⟨rfl, hk⟩
  have K8 := Lib.hid (K7.out.trans hk)
  have G8 := Lib.hid (hk.heap G7.out (fun h => h))
  clear hk g0 g1 g2 g3 gl j0 j1 jl
  obtain ⟨g0, g1, g2, g3, gl⟩ := quad_cells G8.out
  go_wp2_with fail
  go_ret
  exact ⟨rfl, K8.out⟩

end Go.Proofs.YtjcgkmodmjckjaaGreat

namespace Go.Proofs.YtjcgkmodmjckjaaGreat
open Go.RowKit

def intV (p : Int) : Value := .int .i64 p
end Go.Proofs.YtjcgkmodmjckjaaGreat

namespace Go.Proofs.YtjcgkmodmjckjaaGreat
open Go.RowKit

def unitV (_ : Unit) : Value := .agg #[]

section
variable {w w' : World} {base b m0 mp mpar md q : Nat} {P P' : Nat → Option Int} {par : Nat → Option SArc} {dn : Nat → Option Unit} {A A' : List (Int × Int)} {t t' : Int} {F F' : Nat → Prop}
end
end Go.Proofs.YtjcgkmodmjckjaaGreat

namespace Go.Proofs.YtjcgkmodmjckjaaGreat
open Go.RowKit

theorem SideI.few {G : Nat → List SArc} {S0 : Nat → Prop} {L : List Nat} {C : Int} {P : Nat → Option Int} {par : Nat → Option SArc} {A : List (Int × Int)} {s : Nat} {R : List SArc} (h : SideI G S0 L C P par A s R) (hn : (A.map Prod.fst).Nodup) : A.length ≤ L.length := by
  have h1 : (A.map fun p => p.1.toNat).Nodup := by
    unfold List.Nodup at hn ⊢
    rw [List.pairwise_map] at hn ⊢
    refine hn.imp_of_mem (fun {a b} ha hb hab e => hab ?_)
    obtain ⟨x, hx, _⟩ := h.key a ha
    obtain ⟨y, hy, _⟩ := h.key b hb
    rw [hx, hy] at e ⊢
    have e' : x = y := by simpa using e
    rw [e']
  have h2 := nodup_sub_length h1 (b := L) (fun x hx => by
    obtain ⟨p, hp, rfl⟩ := List.mem_map.1 hx
    obtain ⟨y, hy, hP⟩ := h.key p hp
    rw [hy]
    exact h.dom _ _ hP)
  simpa using h2

end Go.Proofs.YtjcgkmodmjckjaaGreat

namespace Go.Proofs.YtjcgkmodmjckjaaGreat
open Go.RowKit Go.Shelf

theorem FMap.not_deferred {α : Type} {w : World} {b : Nat} {enc : α → Value} {f : Nat → Option α} (h : FMap w b enc f) : w.heap[b]? ≠ some (.deferred (some [])) := by
  obtain ⟨es, c, hb⟩ := h.map_block
  rw [hb]; intro e; cases e

section
variable {fl : Bool} {B bf bb bfo bbe bat : Nat} {W W1 : World} {b m0 mp mr md q : Nat} {G : Nat → List SArc} {FG : Nat → Prop} {P : Nat → Option Int} {par : Nat → Option SArc} {dn : Nat → Option Unit} {A : List (Int × Int)} {t : Int} {F : Nat → Prop}
    {b' m0' mp' mr' md' q' : Nat} {G' : Nat → List SArc} {FG' : Nat → Prop} {P' : Nat → Option Int} {par' : Nat → Option SArc} {dn' : Nat → Option Unit} {A' : List (Int × Int)} {t' : Int} {F' : Nat → Prop} {found : Bool} {best : Int} {at_ : Nat}
end

end Go.Proofs.YtjcgkmodmjckjaaGreat

namespace Go.Proofs.YtjcgkmodmjckjaaGreat.U
open Go.RowKit

theorem firstMin_least {A : List (Int × Int)} : ∀ {p : Int × Int}, firstMin A = some p → ∀ a ∈ A, p.2 ≤ a.2 := by
  induction A with
  | nil => intro p h; cases h
  | cons q r ih =>
    intro p h a ha
    simp only [firstMin] at h
    split at h
    · rename_i hr
      simp at h; subst h
      rw [firstMin_none.1 hr] at ha
      simp at ha; subst ha; exact Int.le_refl _
    · rename_i q' hq'
      have hi := ih hq'
      split at h
      · simp at h; subst h
        rcases List.mem_cons.1 ha with rfl | h2
        · omega
        · exact hi a h2
      · simp at h; subst h
        rcases List.mem_cons.1 ha with rfl | h2
        · exact Int.le_refl _
        · have := hi a h2; omega

end Go.Proofs.YtjcgkmodmjckjaaGreat.U

namespace Go.Proofs.YtjcgkmodmjckjaaGreat
open Go.RowKit Go.Shelf

theorem startW (L gs : List Nat) (m : Nat) : weightB L m (startP gs) ≤ L.length * m := by
  unfold weightB
  induction L with
  | nil => simp
  | cons x r ih =>
    rw [List.map_cons, List.sum_cons, List.length_cons, Nat.add_mul, Nat.one_mul, Nat.add_comm]
    refine Nat.add_le_add ih ?_
    unfold startP
    by_cases h : x ∈ gs
    · rw [if_pos h]; exact Nat.zero_le _
    · rw [if_neg h]; exact Nat.le_refl _
end Go.Proofs.YtjcgkmodmjckjaaGreat

namespace Go.Proofs.YtjcgkmodmjckjaaGreat
open Go.RowKit

theorem costL_is (t : Tsk) : ∀ q : List Nat, costL t (intsP q) = costN (wordsOf t.ops) q
  | [] => rfl
  | a :: r => by
    have h := costL_is t r
    unfold intsP at h ⊢
    rw [List.map_cons, costL, costN, h]
    congr 1
    unfold costAt wordsOf
    rw [List.getElem?_map, Int.toNat_natCast, Option.map_map]
    rfl

end Go.Proofs.YtjcgkmodmjckjaaGreat

namespace Go.Proofs.YtjcgkmodmjckjaaGreat

/-- A heuristic that never says more than a way to a goal costs, and says 'infinite' only where there is none. -/
structure Adm (ops : List Wop) (L : List Nat) (acc : Nat → Bool) (H : Nat → Int) : Prop where
  lo : ∀ x ∈ L, 0 ≤ H x ∧ H x ≤ 1000000000
  low : ∀ x ∈ L, ∀ p y, runOps ops x p = some y → acc y = true → H x ≤ costN ops p ∧ H x < 1000000000

/-- The same, but it may say f times what a way costs. -/
structure AdmF (f : Int) (ops : List Wop) (L : List Nat) (acc : Nat → Bool) (H : Nat → Int) : Prop where
  lo : ∀ x ∈ L, 0 ≤ H x
  low : ∀ x ∈ L, ∀ p y, runOps ops x p = some y → acc y = true → H x ≤ f * costN ops p ∧ H x < 1000000000
theorem Adm.one {ops : List Wop} {L : List Nat} {acc : Nat → Bool} {H : Nat → Int} (h : Adm ops L acc H) : AdmF 1 ops L acc H :=
  ⟨fun x hx => (h.lo x hx).1, fun x hx p y h1 h2 => by rw [Int.one_mul]; exact h.low x hx p y h1 h2⟩
/-- What a plan found with such a heuristic may cost. -/
def wayK (f : Int) (ops : List Wop) (q : List Nat) : Int := 4096 * (f * costN ops q) + (q.length : Int)
theorem wayK_one (ops : List Wop) (q : List Nat) : wayK 1 ops q = wayN 4096 1 ops q := by rw [wayN_split]; unfold wayK; omega

/-- The arcs that do not lead to a state without a plan. -/
def liveG (H : Nat → Int) (G : Nat → List SArc) : Nat → List SArc := fun x => (G x).filter fun a => decide (H a.to < 1000000000)
/-- The queue's keys: price and heuristic. -/
def liftA (H : Nat → Int) (A : List (Int × Int)) : List (Int × Int) := A.map fun z => (z.1, z.2 + 4096 * H z.1.toNat)

theorem liftA_drop (H : Nat → Int) (A : List (Int × Int)) (x : Int) : liftA H (A.filter fun z => z.1 != x) = (liftA H A).filter fun z => z.1 != x := by
  unfold liftA
  rw [List.filter_map]
  rfl
theorem liftA_put (H : Nat → Int) (A : List (Int × Int)) (x : Nat) (k : Int) : liftA H (putA A (x : Int) k) = putA (liftA H A) (x : Int) (k + 4096 * H x) := by
  unfold putA
  rw [← liftA_drop]
  unfold liftA
  rw [List.map_append]
  simp
theorem liftA_len (H : Nat → Int) (A : List (Int × Int)) : (liftA H A).length = A.length := by unfold liftA; rw [List.length_map]
theorem liftA_mem {H : Nat → Int} {A : List (Int × Int)} {x : Nat} {p : Int} (h : ((x : Int), p) ∈ A) : ((x : Int), p + 4096 * H x) ∈ liftA H A := by
  unfold liftA
  exact List.mem_map.2 ⟨_, h, by simp⟩

/-- What stays of a search while the arcs of the state s are looked at: the arcs in R are still to do; a goal state with a price waits. -/
structure AstI (f : Int) (ops : List Wop) (L : List Nat) (st : Nat) (acc : Nat → Bool) (H : Nat → Int) (P : Nat → Option Int) (par : Nat → Option SArc) (A : List (Int × Int)) (s : Nat) (R : List SArc) (dn : Nat → Option Unit) : Prop where
  i : SideI (liveG H (nextG ops L)) (fun x => x ∈ [st]) L 409601 P par A s R
  g : ∀ x p, P x = some p → acc x = true → ((x : Int), p) ∈ A
  dIn : ∀ x u, dn x = some u → x ∈ L
  way : ∀ x u, dn x = some u → ∃ r, runOps ops st r = some x ∧ ∀ q y, runOps ops st q = some y → acc y = true → wayN 4096 1 ops r + 4096 * H x ≤ wayK f ops q
  seen : ∀ x q, P x = some q → ((x : Int), q) ∈ A ∨ ∃ u, dn x = some u

section
variable {f : Int} {ops : List Wop} {L : List Nat} {st : Nat} {acc : Nat → Bool} {H : Nat → Int} {P : Nat → Option Int} {par : Nat → Option SArc} {A : List (Int × Int)} {s : Nat} {R : List SArc} {dn : Nat → Option Unit}
theorem live_only : ∀ y, ∀ b ∈ liveG H (nextG ops L) y, ∃ o, ops[b.op]? = some o ∧ o.can y = true ∧ b.to = o.next y ∧ b.price = 4096 * o.cost + 1 := fun y b hb => nextG_only y b (List.mem_filter.1 hb).1
theorem live_price (h0 : ∀ o ∈ ops, 0 ≤ o.cost ∧ o.cost ≤ 100) : ∀ y, ∀ b ∈ liveG H (nextG ops L) y, 1 ≤ b.price ∧ b.price ≤ 409601 := fun y b hb => nextG_price h0 y b (List.mem_filter.1 hb).1
theorem live_in (hsh : Shut ops L) : ∀ y, ∀ b ∈ liveG H (nextG ops L) y, b.to ∈ L := fun y b hb => nextG_in hsh y b (List.mem_filter.1 hb).1

theorem AstI.start (hst : st ∈ L) (acc : Nat → Bool) : AstI f ops L st acc H (startP [st]) (fun _ => none) (startA [st]) 0 [] (fun _ => none) := by
  have hi := SideI.init (G := liveG H (nextG ops L)) (L := L) (S := [st]) (C := 409601) (by decide) (fun x hx => by rw [List.mem_singleton] at hx; subst hx; exact hst) 0
  have hs : ∀ x p, startP [st] x = some p → ((x : Int), p) ∈ startA [st] := fun x p hp => by
    refine (startA_mem [st] _).2 ?_
    unfold startP at hp
    split at hp
    · rename_i hm; cases hp; exact ⟨x, hm, rfl⟩
    · cases hp
  exact ⟨hi, fun x p hp _ => hs x p hp, (fun x u h => by cases h), (fun x u h => by cases h), fun x q h => .inl (hs x q h)⟩

theorem AstI.skip {a : SArc} (h : AstI f ops L st acc H P par A s (a :: R) dn) {p q : Int} (hp : P s = some p) (hq : P a.to = some q) (hle : q ≤ p + a.price) : AstI f ops L st acc H P par A s R dn := ⟨h.i.skip hp hq hle, h.g, h.dIn, h.way, h.seen⟩
theorem AstI.fall {a : SArc} (h : AstI f ops L st acc H P par A s (a :: R) dn) (hn : L.Nodup) (hsh : Shut ops L) (h0 : ∀ o ∈ ops, 0 ≤ o.cost ∧ o.cost ≤ 100) (ha : a ∈ liveG H (nextG ops L) s) {p : Int} (hp : P s = some p) (hlt : ∀ q, P a.to = some q → p + a.price < q) :
    AstI f ops L st acc H (putP P a.to (p + a.price)) (putP par a.to ⟨a.op, a.price, s⟩) (putA A (a.to : Int) (p + a.price)) s R dn :=
  ⟨h.i.fall hn (live_price h0) (live_in hsh _ _ ha) ha hp hlt, fun y q hq hy => mem_putA.2 (by
    by_cases hya : y = a.to
    · subst hya
      rw [putP_same] at hq; cases hq
      exact .inr rfl
    · rw [putP_other _ _ hya] at hq
      exact .inl ⟨h.g y q hq hy, by simp; omega⟩), h.dIn, h.way, fun y q hq => by
    by_cases hya : y = a.to
    · subst hya
      rw [putP_same] at hq; cases hq
      exact .inl (mem_putA.2 (.inr rfl))
    · rw [putP_other _ _ hya] at hq
      rcases h.seen y q hq with h1 | h1
      · exact .inl (mem_putA.2 (.inl ⟨h1, by simp; omega⟩))
      · exact .inr h1⟩
theorem AstI.anyS {s' : Nat} (h : AstI f ops L st acc H P par A s [] dn) : AstI f ops L st acc H P par A s' [] dn := ⟨h.i.anyS, h.g, h.dIn, h.way, h.seen⟩

/-- On the way to a goal state: a state waits, or the goal state has its price. -/
theorem frontH (hsh : Shut ops L) (ad : AdmF f ops L acc H) (h : AstI f ops L st acc H P par A s [] dn) : ∀ {p : List Nat} {x y : Nat} {q c : Int}, P x = some q → q ≤ c → runOps ops x p = some y → acc y = true →
    (∃ p1 p2 z k, p = p1 ++ p2 ∧ runOps ops z p2 = some y ∧ z ∈ L ∧ ((z : Int), k) ∈ A ∧ k ≤ c + wayN 4096 1 ops p1) ∨ (∃ k, P y = some k ∧ k ≤ c + wayN 4096 1 ops p)
  | [], x, y, q, c, hq, hc, hr, _ => by cases hr; exact .inr ⟨q, hq, by rw [wayN_nil]; omega⟩
  | a :: p, x, y, q, c, hq, hc, hr, hy => by
    have hxL := h.i.dom x q hq
    rcases h.i.pend x q hq with h1 | h1
    · exact .inl ⟨[], a :: p, x, q, rfl, hr, hxL, h1, by rw [wayN_nil]; omega⟩
    · rw [runOps] at hr
      cases ho : ops[a]? with
      | none => rw [ho] at hr; cases hr
      | some o =>
        rw [ho] at hr; simp only at hr
        by_cases hcan : o.can x = true
        · rw [if_pos hcan] at hr
          have hnL := hsh.2 x hxL o (List.mem_of_getElem? ho) hcan
          have hlive := (ad.low _ hnL p y hr hy).2
          rcases h1 _ (List.mem_filter.2 ⟨nextG_all x o a hxL ho hcan, by simpa using hlive⟩) with ⟨q', hq', hle⟩ | ⟨_, h2⟩
          · have e1 : ∀ r, wayN 4096 1 ops (a :: r) = (4096 * o.cost + 1) + wayN 4096 1 ops r := fun r => by
              rw [show a :: r = [a] ++ r from rfl, wayN_append, wayN_one ho]
            simp only at hq' hle
            rcases frontH hsh ad h (c := c + (4096 * o.cost + 1)) hq' (by omega) hr hy with ⟨p1, p2, z, k, e, g1, g2, g3, g4⟩ | ⟨k, g1, g2⟩
            · exact .inl ⟨a :: p1, p2, z, k, by rw [e]; rfl, g1, g2, g3, by rw [e1]; omega⟩
            · exact .inr ⟨k, g1, by rw [e1]; omega⟩
          · simp at h2
        · rw [if_neg hcan] at hr; cases hr

/-- What is taken is worth no more than any plan. -/
theorem min_key (hsh : Shut ops L) (h0 : ∀ o ∈ ops, 0 ≤ o.cost ∧ o.cost ≤ 100) (hf : 1 ≤ f) (ad : AdmF f ops L acc H) (h : AstI f ops L st acc H P par A s [] dn) {x : Nat} {k : Int} (hx : U.firstMin (liftA H A) = some ((x : Int), k)) : ∀ q y, runOps ops st q = some y → acc y = true → k ≤ wayK f ops q := fun q y hr hy => by
  have hleast := U.firstMin_least hx
  simp only at hleast
  rcases frontH hsh ad h (h.i.start st (List.mem_singleton.2 rfl)).1 (Int.le_refl _) hr hy with ⟨p1, p2, z, k', e, g1, g2, g3, g4⟩ | ⟨k', g1, g2⟩
  · have h1 := hleast _ (liftA_mem (H := H) g3)
    simp only at h1
    have h2 := (ad.low z g2 p2 y g1 hy).1
    have h3 := wayN_split ops p1
    have h5 : 1 * costN ops p1 ≤ f * costN ops p1 := Int.mul_le_mul_of_nonneg_right hf (costN_bound h0 p1).1
    rw [e]
    unfold wayK
    rw [costN_append, List.length_append, Int.mul_add f]
    omega
  · have h1 := hleast _ (liftA_mem (H := H) (h.g y k' g1 hy))
    simp only at h1
    have h2 := (ad.low y (h.i.dom _ _ g1) [] y rfl hy).1
    rw [show costN ops [] = 0 from rfl, Int.mul_zero] at h2
    have h3 := wayN_split ops q
    have h5 : 1 * costN ops q ≤ f * costN ops q := Int.mul_le_mul_of_nonneg_right hf (costN_bound h0 q).1
    unfold wayK
    omega
theorem AstI.take (hsh : Shut ops L) (h0 : ∀ o ∈ ops, 0 ≤ o.cost ∧ o.cost ≤ 100) (hf : 1 ≤ f) (ad : AdmF f ops L acc H) (h : AstI f ops L st acc H P par A s [] dn) {x : Nat} {p : Int} (hx : U.firstMin (liftA H A) = some ((x : Int), p + 4096 * H x)) (hp : P x = some p) (ha : acc x = false) :
    AstI f ops L st acc H P par (A.filter fun z => z.1 != (x : Int)) x (liveG H (nextG ops L) x) (putP dn x ()) := by
  have hne : ∀ y, y ≠ x → ∀ q, ((y : Int), q) ∈ A → ((y : Int), q) ∈ A.filter fun z => z.1 != (x : Int) := fun y hy q hq => List.mem_filter.2 ⟨hq, by simp; omega⟩
  refine ⟨h.i.take hp, fun y q hq hy => hne y (fun e => by subst e; rw [ha] at hy; cases hy) q (h.g y q hq hy), fun y u hy => ?_, fun y u hy => ?_, fun y q hq => ?_⟩
  · by_cases e : y = x
    · rw [e]; exact h.i.dom x p hp
    · rw [putP_other _ _ e] at hy; exact h.dIn y u hy
  · by_cases e : y = x
    · subst e
      have cf : ∀ y, ∀ b ∈ liveG H (nextG ops L) y, 1 ≤ b.price := fun y b hb => (live_price h0 y b hb).1
      obtain ⟨out, e, hc, hes, hl⟩ := h.i.back cf hp
      rw [List.mem_singleton] at hes
      subst hes
      obtain ⟨r1, w1⟩ := h.i.chainF live_only hc hp
      exact ⟨_, r1, fun q z hr hz => by have := min_key hsh h0 hf ad h hx q z hr hz; omega⟩
    · rw [putP_other _ _ e] at hy; exact h.way y u hy
  · by_cases e : y = x
    · exact .inr ⟨(), by rw [e, putP_same]⟩
    · rcases h.seen y q hq with h1 | ⟨u, h1⟩
      · exact .inl (hne y e q h1)
      · exact .inr ⟨u, by rw [putP_other _ _ e]; exact h1⟩

/-- What the expanded states D of a search must be, when a plan of price p is found: none is worth more, and those on cheaper ways are all there. -/
def ExpOk (ops : List Wop) (L : List Nat) (st : Nat) (H : Nat → Int) (p : Int) (D : Nat → Bool) : Prop :=
  (∀ x ∈ L, D x = true → ∃ r, runOps ops st r = some x ∧ wayN 4096 1 ops r + 4096 * H x ≤ p) ∧
  (∀ r x, runOps ops st r = some x → (∀ k y, k ≤ r.length → runOps ops st (r.take k) = some y → wayN 4096 1 ops (r.take k) + 4096 * H y < p) → D x = true)

/-- Nothing waits any more: there is no plan. -/
theorem ast_none (hsh : Shut ops L) (ad : AdmF f ops L acc H) (h : AstI f ops L st acc H P par [] s [] dn) : LeastOf 4096 1 ops st acc (-1) := by
  refine .inl ⟨rfl, fun p y hr => ?_⟩
  cases hy : acc y with
  | false => rfl
  | true =>
    have h0 := (h.i.start st (List.mem_singleton.2 rfl)).1
    rcases frontH hsh ad h h0 (Int.le_refl _) hr hy with ⟨_, _, _, _, _, _, _, h1, _⟩ | ⟨k, hk, _⟩
    · simp at h1
    · have := h.g y k hk hy; simp at this
/-- The start is without a plan. -/
theorem ast_dead (ad : AdmF f ops L acc H) (hst : st ∈ L) (h : 1000000000 ≤ H st) : LeastOf 4096 1 ops st acc (-1) := by
  refine .inl ⟨rfl, fun p y hr => ?_⟩
  cases hy : acc y with
  | false => rfl
  | true => have := (ad.low st hst p y hr hy).2; omega

/-- A goal state is first: the way to it costs no more than a plan may. -/
theorem ast_found (hsh : Shut ops L) (h0 : ∀ o ∈ ops, 0 ≤ o.cost ∧ o.cost ≤ 100) (hf : 1 ≤ f) (ad : AdmF f ops L acc H) (h : AstI f ops L st acc H P par A s [] dn) {x : Nat} {k : Int} (hx : U.firstMin (liftA H A) = some ((x : Int), k)) (ha : acc x = true) :
    ∃ p out, P x = some p ∧ Chain par x out st ∧ out.length ≤ L.length ∧ runOps ops st out.reverse = some x ∧ wayN 4096 1 ops out.reverse ≤ p ∧ ∀ q y, runOps ops st q = some y → acc y = true → p ≤ wayK f ops q := by
  have hm := U.firstMin_mem hx
  unfold liftA at hm
  obtain ⟨⟨x', p⟩, hxp, he⟩ := List.mem_map.1 hm
  simp only [Prod.mk.injEq] at he
  obtain ⟨rfl, hk⟩ := he
  obtain ⟨x1, hx1, hP⟩ := h.i.key _ hxp
  have hx2 : x1 = x := by simp only at hx1; omega
  subst hx2
  simp only at hP
  have hlx := ad.lo x1 (h.i.dom _ _ hP)
  rw [Int.toNat_natCast] at hk
  have cf : ∀ y, ∀ b ∈ liveG H (nextG ops L) y, 1 ≤ b.price := fun y b hb => (live_price h0 y b hb).1
  obtain ⟨out, e, hc, hes, hl⟩ := h.i.back cf hP
  rw [List.mem_singleton] at hes
  subst hes
  obtain ⟨r1, w1⟩ := h.i.chainF live_only hc hP
  exact ⟨p, out, hP, hc, hl, r1, w1, fun q y hr hy => by have := min_key hsh h0 hf ad h hx q y hr hy; omega⟩
/-- With the factor 1 it is best. -/
theorem least_one {q : List Nat} {x : Nat} (h0 : ∀ o ∈ ops, 0 ≤ o.cost ∧ o.cost ≤ 100) (hr : runOps ops st q = some x) (ha : acc x = true) (h : ∀ r y, runOps ops st r = some y → acc y = true → wayN 4096 1 ops q ≤ wayK 1 ops r) : 0 ≤ wayN 4096 1 ops q ∧ LeastOf 4096 1 ops st acc (wayN 4096 1 ops q) := by
  have hp := wayN_low (k := 4096) (st := 1) (by omega) (by omega) h0 q
  exact ⟨hp, .inr ⟨hp, ⟨_, _, hr, ha, rfl⟩, fun r y h1 h2 => by have := h r y h1 h2; rw [wayK_one] at this; exact this⟩⟩
/-- The expanded states when a goal state is first. -/
theorem exp_found (hsh : Shut ops L) (h0 : ∀ o ∈ ops, 0 ≤ o.cost ∧ o.cost ≤ 100) (ad : AdmF 1 ops L acc H) (h : AstI 1 ops L st acc H P par A s [] dn) {x : Nat} {k p : Int} (hx : U.firstMin (liftA H A) = some ((x : Int), k)) (ha : acc x = true) (hp : P x = some p) (hbig : p ≤ 4096000000000) {q : List Nat} {y : Nat} (hr : runOps ops st q = some y) (hy : acc y = true) (hw : wayN 4096 1 ops q = p) :
    ExpOk ops L st H p (fun z => (dn z).isSome) := by
  refine ⟨fun z _ hz => ?_, fun r z hrz hpre => ?_⟩
  · obtain ⟨u, hu⟩ := Option.isSome_iff_exists.1 hz
    obtain ⟨r, h1, h2⟩ := h.way z u hu
    exact ⟨r, h1, by have := h2 q y hr hy; rw [wayK_one] at this; omega⟩
  · have hm := U.firstMin_mem hx
    unfold liftA at hm
    obtain ⟨⟨x', p'⟩, hxp, he⟩ := List.mem_map.1 hm
    simp only [Prod.mk.injEq] at he
    obtain ⟨rfl, hk⟩ := he
    obtain ⟨x1, hx1, hP⟩ := h.i.key _ hxp
    have hx2 : x1 = x := by simp only at hx1; omega
    subst hx2
    simp only at hP
    rw [hp] at hP; cases hP
    have hHx : H x1 = 0 := by
      have h1 := (ad.low x1 (h.i.dom _ _ hp) [] x1 rfl ha).1
      have h2 := ad.lo x1 (h.i.dom _ _ hp)
      have h3 : costN ops [] = 0 := rfl
      omega
    rw [Int.toNat_natCast, hHx] at hk
    have hleast := U.firstMin_least hx
    simp only at hleast
    have out : ∀ y1 q1, P y1 = some q1 → q1 + 4096 * H y1 < p → ((y1 : Int), q1) ∉ A := fun y1 q1 _ hlt hm => by
      have := hleast _ (liftA_mem (H := H) hm)
      simp only at this; omega
    have key : ∀ n, n ≤ r.length → ∀ y1, runOps ops st (r.take n) = some y1 → ∃ q1, P y1 = some q1 ∧ q1 ≤ wayN 4096 1 ops (r.take n) := by
      intro n
      induction n with
      | zero =>
        intro _ y1 h1
        rw [List.take_zero] at h1
        cases h1
        exact ⟨0, (h.i.start st (List.mem_singleton.2 rfl)).1, by rw [List.take_zero, wayN_nil]; omega⟩
      | succ n ih =>
        intro hn y1 h1
        obtain ⟨a, hra⟩ : ∃ a, r[n]? = some a := ⟨_, List.getElem?_eq_getElem (by omega)⟩
        have het : r.take (n + 1) = r.take n ++ [a] := by
          rw [List.take_add_one, hra]; rfl
        have hcond := hpre (n + 1) y1 hn h1
        rw [het] at h1
        obtain ⟨y0, o, g1, g2, g3, g4⟩ := runOps_snoc h1
        obtain ⟨q0, hq0, hle0⟩ := ih (by omega) y0 g1
        have hc0 := hpre n y0 (by omega) g1
        have hL0 := h.i.dom y0 q0 hq0
        have hnL := hsh.2 y0 hL0 o (List.mem_of_getElem? g2) g3
        have hw1 : wayN 4096 1 ops (r.take (n + 1)) = wayN 4096 1 ops (r.take n) + (4096 * o.cost + 1) := by rw [het, wayN_append, wayN_one g2]
        have hc := h0 o (List.mem_of_getElem? g2)
        have hHn := ad.lo _ hnL
        have hlow := (h.i.lo y0 q0 hq0).1
        rcases h.i.pend y0 q0 hq0 with h2 | h2
        · exact absurd h2 (out y0 q0 hq0 (by omega))
        · subst g4
          rcases h2 _ (List.mem_filter.2 ⟨nextG_all y0 o a hL0 g2 g3, by
              have : H (o.next y0) < 1000000000 := by omega
              simpa using this⟩) with ⟨q', hq', hle⟩ | ⟨_, h3⟩
          · simp only at hq' hle
            exact ⟨q', hq', by omega⟩
          · simp at h3
    rw [← List.take_length (l := r)] at hrz
    obtain ⟨q1, hq1, hle1⟩ := key r.length (Nat.le_refl _) z hrz
    have hcz := hpre r.length z (Nat.le_refl _) hrz
    rcases h.seen z q1 hq1 with h2 | ⟨u, h2⟩
    · exact absurd h2 (out z q1 hq1 (by omega))
    · show (dn z).isSome = true
      rw [h2]; rfl
end

end Go.Proofs.YtjcgkmodmjckjaaGreat

namespace Go.Proofs.YtjcgkmodmjckjaaGreat
open Go.RowKit

/-- The three maps and the queue of a search, each apart from the others. -/
structure AstM (w : World) (base mp mr md q : Nat) (P : Nat → Option Int) (fp : Nat → Option SArc) (dn : Nat → Option Unit) (A : List (Int × Int)) (t : Int) (F : Nat → Prop) : Prop where
  price : FMap w mp intV P
  par_ : FMap w mr backV fp
  done : FMap w md unitV dn
  q : U.QRep w q A t F
  lF : ∀ k, F k → base ≤ k ∧ k < w.heap.size ∧ k ≠ mp ∧ k ≠ mr ∧ k ≠ md
  lp : base ≤ mp
  lr : base ≤ mr
  ld : base ≤ md
  n1 : mp ≠ mr
  n2 : mp ≠ md
  n3 : mr ≠ md

section
variable {w w' : World} {base mp mr md q : Nat} {P P' : Nat → Option Int} {fp fp' : Nat → Option SArc} {dn dn' : Nat → Option Unit} {A A' : List (Int × Int)} {t t' : Int} {F F' : Nat → Prop}
theorem AstM.priced (h : AstM w base mp mr md q P fp dn A t F) (hk : Keeps (fun k => k = mp) w w') (hp : FMap w' mp intV P') : AstM w' base mp mr md q P' fp dn A t F :=
  ⟨hp, h.par_.keeps hk (fun e => h.n1 e.symm), h.done.keeps hk (fun e => h.n2 e.symm), h.q.keeps hk (fun k hF e => (h.lF k hF).2.2.1 e),
   fun k hF => ⟨(h.lF k hF).1, Nat.lt_of_lt_of_le (h.lF k hF).2.1 hk.size, (h.lF k hF).2.2⟩, h.lp, h.lr, h.ld, h.n1, h.n2, h.n3⟩
theorem AstM.pard (h : AstM w base mp mr md q P fp dn A t F) (hk : Keeps (fun k => k = mr) w w') (hp : FMap w' mr backV fp') : AstM w' base mp mr md q P fp' dn A t F :=
  ⟨h.price.keeps hk (fun e => h.n1 e), hp, h.done.keeps hk (fun e => h.n3 e.symm), h.q.keeps hk (fun k hF e => (h.lF k hF).2.2.2.1 e),
   fun k hF => ⟨(h.lF k hF).1, Nat.lt_of_lt_of_le (h.lF k hF).2.1 hk.size, (h.lF k hF).2.2⟩, h.lp, h.lr, h.ld, h.n1, h.n2, h.n3⟩
theorem AstM.doned (h : AstM w base mp mr md q P fp dn A t F) (hk : Keeps (fun k => k = md) w w') (hp : FMap w' md unitV dn') : AstM w' base mp mr md q P fp dn' A t F :=
  ⟨h.price.keeps hk (fun e => h.n2 e), h.par_.keeps hk (fun e => h.n3 e), hp, h.q.keeps hk (fun k hF e => (h.lF k hF).2.2.2.2 e),
   fun k hF => ⟨(h.lF k hF).1, Nat.lt_of_lt_of_le (h.lF k hF).2.1 hk.size, (h.lF k hF).2.2⟩, h.lp, h.lr, h.ld, h.n1, h.n2, h.n3⟩
theorem AstM.queued (h : AstM w base mp mr md q P fp dn A t F) (hk : Keeps F w w') (hq : U.QRep w' q A' t' F') (hF : ∀ k, F' k → F k ∨ w.heap.size ≤ k) (hb : base ≤ w.heap.size) : AstM w' base mp mr md q P fp dn A' t' (fun k => F' k ∧ k < w'.heap.size) := by
  have lp := h.price.lt
  have lr := h.par_.lt
  have ld := h.done.lt
  refine ⟨h.price.keeps hk (fun e => (h.lF mp e).2.2.1 rfl), h.par_.keeps hk (fun e => (h.lF mr e).2.2.2.1 rfl), h.done.keeps hk (fun e => (h.lF md e).2.2.2.2 rfl),
    U.QRep.mono hq (fun k hk' hF' => ⟨hF', hk'⟩), fun k hF' => ?_, h.lp, h.lr, h.ld, h.n1, h.n2, h.n3⟩
  rcases hF k hF'.1 with h1 | h1
  · exact ⟨(h.lF k h1).1, hF'.2, (h.lF k h1).2.2⟩
  · exact ⟨by omega, hF'.2, by omega, by omega, by omega⟩
theorem AstM.keeps {S : Nat → Prop} (h : AstM w base mp mr md q P fp dn A t F) (hk : Keeps S w w') (h1 : ¬ S mp) (h2 : ¬ S mr) (h3 : ¬ S md) (hF : ∀ k, F k → ¬ S k) : AstM w' base mp mr md q P fp dn A t F :=
  ⟨h.price.keeps hk h1, h.par_.keeps hk h2, h.done.keeps hk h3, h.q.keeps hk hF, fun k hF => ⟨(h.lF k hF).1, Nat.lt_of_lt_of_le (h.lF k hF).2.1 hk.size, (h.lF k hF).2.2⟩, h.lp, h.lr, h.ld, h.n1, h.n2, h.n3⟩
theorem AstM.low {S : Nat → Prop} (h : AstM w base mp mr md q P fp dn A t F) (hk : Keeps S w w') (hS : ∀ k, S k → k < base) : AstM w' base mp mr md q P fp dn A t F :=
  h.keeps hk (fun e => by have := hS _ e; have := h.lp; omega) (fun e => by have := hS _ e; have := h.lr; omega) (fun e => by have := hS _ e; have := h.ld; omega) (fun k hF e => by have := hS _ e; have := (h.lF k hF).1; omega)
theorem AstM.live (h : AstM w base mp mr md q P fp dn A t F) : AstM w base mp mr md q P fp dn A t (fun k => F k ∧ k < w.heap.size ∧ w.heap[k]? ≠ some (.deferred (some []))) :=
  { h with q := h.q.live, lF := fun k hk => h.lF k hk.1 }
end

/-- A heuristic as a function value: H is what it says of the states of L; it keeps its own memory between n0 and B, of which it changes the blocks FH. -/
structure Heur (g : Nat) (pa cb : Array Value) (L : List Nat) (H : Nat → Int) (n0 B : Nat) (FH : Nat → Prop) (I : World → Prop) : Prop where
  enters : ∀ args w, (callFunc g args).run Tryz.prog w = .ok (.enter g args) w
  answers : ∀ W x, I W → x ∈ L → Calls Tryz.prog g (pa.push (.int .u32 (x : Int)) ++ cb) W fun e W' => e = .returned (.int .i64 (H x)) ∧ I W' ∧ Keeps FH W W'
  steady : ∀ {S : Nat → Prop} {W W' : World}, I W → Keeps S W W' → (∀ k, S k → B ≤ k) → I W'
  nd : ∀ {W : World} {k : Nat}, I W → FH k → W.heap[k]? ≠ some (.deferred (some []))
  lo : ∀ k, FH k → n0 ≤ k ∧ k < B

/-- The map of the parents: the start has itself, the others what the search says. -/
def parF (st : Nat) (par : Nat → Option SArc) : Nat → Option SArc := fun x => if x = st then some ⟨0, 0, st⟩ else par x
theorem parF_put {st : Nat} {par : Nat → Option SArc} {x : Nat} {a : SArc} (h : x ≠ st) : putP (parF st par) x a = parF st (putP par x a) := by
  funext y
  unfold putP parF
  by_cases h1 : y = x
  · subst h1; simp [h]
  · simp [h1]
theorem parF_of {st : Nat} {par : Nat → Option SArc} (h0 : par st = none) : ∀ y a, par y = some a → parF st par y = some a := fun y a h => by
  unfold parF
  rw [if_neg (fun e => by subst e; rw [h0] at h; cases h)]
  exact h
theorem parF_start (st : Nat) : putP (fun _ => none) st (⟨0, 0, st⟩ : SArc) = parF st (fun _ => none) := by
  funext y
  unfold putP parF
  rfl

end Go.Proofs.YtjcgkmodmjckjaaGreat
