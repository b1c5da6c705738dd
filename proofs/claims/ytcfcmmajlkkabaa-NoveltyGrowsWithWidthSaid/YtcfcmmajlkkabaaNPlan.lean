/- novelty.Plan. -/
import Derived.Test.YtcfcmmajlkkabaaSearch
import Derived.Test.YtcfcmmajlkkabaaResult
namespace Go.Proofs.Ytcfcmmajlkkabaa
open Go.RowKit

/-! ### the plans of a search -/
theorem runOps_lt {ops : List Wop} : ∀ {p : List Nat} {x y : Nat}, runOps ops x p = some y → ∀ o ∈ p, o < ops.length
  | [], _, _, _, _, h => by cases h
  | o :: r, x, y, h, k, hk => by
    rw [runOps] at h
    cases ho : ops[o]? with
    | none => rw [ho] at h; cases h
    | some op =>
      rw [ho] at h; simp only at h
      split at h
      · rcases List.mem_cons.1 hk with rfl | hk
        · exact (List.getElem?_eq_some_iff.1 ho).1
        · exact runOps_lt h k hk
      · cases h

theorem novL_mem {acc : Nat → Bool} {cov : Nat → List Nat → Bool} {e f : Ent} : ∀ {xs : List Stp} {T : List Ent}, (novL acc cov e T xs).2 = some f → f ∈ (novL acc cov e T xs).1 ∧ acc f.to = true
  | [], T, h => by cases h
  | x :: r, T, h => by
    rw [novL] at h ⊢
    by_cases h1 : x.to ∈ keysT T
    · rw [if_pos h1] at h ⊢; exact novL_mem h
    · rw [if_neg h1] at h ⊢
      by_cases h2 : acc x.to = true
      · rw [if_pos h2] at h ⊢; cases h; exact ⟨by simp, h2⟩
      · rw [if_neg h2] at h ⊢
        by_cases h3 : cov x.to (keysT T) = true
        · rw [if_pos h3] at h ⊢; exact novL_mem h
        · rw [if_neg h3] at h ⊢; exact novL_mem h

theorem NovRes.run {acc : Nat → Bool} {cov : Nat → List Nat → Bool} {ops : List Wop} {s n : Nat} {p : List Nat} (h : NovRes acc cov ops s (some p) n) : ∃ y, runOps ops s p = some y ∧ acc y = true := by
  cases h with
  | start h => exact ⟨s, rfl, h⟩
  | found i e f _ _ he hf =>
    obtain ⟨h1, h2⟩ := novL_mem hf
    exact ⟨f.to, (novL_ok (novT_ok acc cov ops s i) (List.mem_of_getElem? he) (fun _ h => h)).run f h1, h2⟩

theorem planIn_run {t : Tsk} {p : List Nat} {x y : Nat} (h : runOps (wordsOf t.ops) x p = some y) : PlanIn t (intsP p) := by
  intro z hz
  unfold intsP at hz
  obtain ⟨o, ho, rfl⟩ := List.mem_map.1 hz
  have := runOps_lt h o ho
  unfold wordsOf at this
  rw [List.length_map] at this
  omega

/-! ### two blocks of results -/
structure RFl (w w1 : World) (R F : Nat) : Prop where
  res : w1.heap[R]? = some (.cells #[.bool false, .slice none 0 0, .int .i64 0, .int .i64 0] 52 (0, 0))
  flt : Flt w w1 F 29
  base : w.heap.size ≤ R
  ne : R ≠ F
theorem RFl.keeps0 {w w1 w2 : World} {R F : Nat} (h : RFl w w1 R F) (hk : Keeps (fun _ => False) w1 w2) : RFl w w2 R F := ⟨hk.heap h.res (fun h => h), h.flt.keeps0 hk, h.base, h.ne⟩
theorem RFl.cells {w w1 : World} {R F : Nat} (h : RFl w w1 R F) : w1.cell? ⟨R, 0, none⟩ = some (.bool false) ∧ w1.cell? ⟨R, 1, none⟩ = some (.slice none 0 0) ∧ w1.cell? ⟨R, 2, none⟩ = some (.int .i64 0) ∧ w1.cell? ⟨R, 3, none⟩ = some (.int .i64 0) ∧
    w1.frozen? ⟨R, 0, none⟩ = false ∧ w1.frozen? ⟨R, 1, none⟩ = false ∧ w1.frozen? ⟨R, 2, none⟩ = false ∧ w1.frozen? ⟨R, 3, none⟩ = false ∧ R < w1.heap.size :=
  ⟨by rw [cell_of_blk h.res]; rfl, by rw [cell_of_blk h.res]; rfl, by rw [cell_of_blk h.res]; rfl, by rw [cell_of_blk h.res]; rfl, frozen_of_blk h.res, frozen_of_blk h.res, frozen_of_blk h.res, frozen_of_blk h.res, lt_of_heap h.res⟩
theorem RFl.set {w w1 : World} {R F : Nat} (h : RFl w w1 R F) (a b c d x y : Value) :
    ((((((w1.setCell ⟨R, 0, none⟩ a).setCell ⟨R, 1, none⟩ b).setCell ⟨R, 2, none⟩ c).setCell ⟨R, 3, none⟩ d).setCell ⟨F, 0, none⟩ x).setCell ⟨F, 1, none⟩ y).heap[R]? = some (.cells #[a, b, c, d] 52 (0, 0)) ∧
    ((((((w1.setCell ⟨R, 0, none⟩ a).setCell ⟨R, 1, none⟩ b).setCell ⟨R, 2, none⟩ c).setCell ⟨R, 3, none⟩ d).setCell ⟨F, 0, none⟩ x).setCell ⟨F, 1, none⟩ y).heap[F]? = some (.cells #[x, y] 29 (0, 0)) ∧
    Keeps (fun _ => False) w ((((((w1.setCell ⟨R, 0, none⟩ a).setCell ⟨R, 1, none⟩ b).setCell ⟨R, 2, none⟩ c).setCell ⟨R, 3, none⟩ d).setCell ⟨F, 0, none⟩ x).setCell ⟨F, 1, none⟩ y) ∧
    Keeps (fun k => k = R ∨ k = F) w1 ((((((w1.setCell ⟨R, 0, none⟩ a).setCell ⟨R, 1, none⟩ b).setCell ⟨R, 2, none⟩ c).setCell ⟨R, 3, none⟩ d).setCell ⟨F, 0, none⟩ x).setCell ⟨F, 1, none⟩ y) := by
  have kq := keeps_quad (w := w1) R a b c d
  have hq := quad_set h.res a b c d
  have hf := h.flt.keepsS kq (fun e => h.ne e.symm) (fun i hi => by subst hi; exact h.base)
  have hs := hf.set x y
  exact ⟨(keeps_pair F x y).heap hq h.ne, hs.1, hs.2, (kq.mono (fun _ _ h => .inl h)).trans ((keeps_pair F x y).mono (fun _ _ h => .inr h))⟩

/-- The zero result stays as it is. -/
theorem RFl.ids {w w1 : World} {R F : Nat} (h : RFl w w1 R F) : w1.setCell ⟨R, 0, none⟩ (.bool false) = w1 ∧ w1.setCell ⟨R, 1, none⟩ (.slice none 0 0) = w1 ∧ w1.setCell ⟨R, 2, none⟩ (.int .i64 0) = w1 ∧ w1.setCell ⟨R, 3, none⟩ (.int .i64 0) = w1 :=
  ⟨setCell_id h.cells.1, setCell_id h.cells.2.1, setCell_id h.cells.2.2.1, setCell_id h.cells.2.2.2.1⟩
theorem RFl.fin {w w1 : World} {R F : Nat} (h : RFl w w1 R F) (x y : Value) : ((w1.setCell ⟨F, 0, none⟩ x).setCell ⟨F, 1, none⟩ y).drew.heap[R]? = some (.cells #[.bool false, .slice none 0 0, .int .i64 0, .int .i64 0] 52 (0, 0)) ∧
    ((w1.setCell ⟨F, 0, none⟩ x).setCell ⟨F, 1, none⟩ y).drew.heap[F]? = some (.cells #[x, y] 29 (0, 0)) ∧ Keeps (fun _ => False) w ((w1.setCell ⟨F, 0, none⟩ x).setCell ⟨F, 1, none⟩ y).drew :=
  ⟨(keeps_pair F x y).drew.heap h.res h.ne, (h.flt.set x y).1, (h.flt.set x y).2.drew⟩

/-! ### what Plan hands back -/
def nplanF (t : Tsk) (k : Int) : Int × Int := if (taskFault t).1 ≠ 0 then taskFault t else if k < 0 ∨ 4 < k then (3, -8) else match explored t with | none => (10, -7) | some _ => (0, 0)

structure NPlanRes (t : Tsk) (k : Int) (o : Option (List Nat)) (m : Nat) (fnd : Bool) (lp : List Int) (c n fc fi : Int) : Prop where
  res : NovRes (accW (wd t.goal)) (covW k.toNat) (wordsOf t.ops) (wd t.init) o m
  fault : wayF (o.getD []).length (0, 0) = (fc, fi)
  bad : fc ≠ 0 → fnd = false ∧ lp = [] ∧ c = 0 ∧ n = 0
  good : fc = 0 → fnd = o.isSome ∧ lp = intsP (o.getD []) ∧ c = costL t lp ∧ n = (m : Int)

def NPlanPost (t : Tsk) (k : Int) (w : World) (e : Ending) (w' : World) : Prop := Keeps (fun _ => False) w w' ∧ ∃ fnd vp lp c n fc fi, e = .returned (.tuple #[resV fnd vp c n, fltV fc fi]) ∧ Ints w' vp lp ∧
  ((nplanF t k = (fc, fi) ∧ fc ≠ 0 ∧ fnd = false ∧ lp = [] ∧ c = 0 ∧ n = 0) ∨
   (nplanF t k = (0, 0) ∧ t.Ok ∧ 0 ≤ k ∧ k ≤ 4 ∧ ∃ l o m, explored t = some l ∧ NPlanRes t k o m fnd lp c n fc fi))

set_option maxRecDepth 100000 in
set_option maxHeartbeats 4000000 in
theorem nplan_any (w : World) (vi vg vo : Value) (t : Tsk) (k : Int) (h : TaskAt w vi vg vo t) :
    Calls Try.prog 34 #[.agg #[.int .i64 t.n, vi, vg, vo], .int .i64 k] w (NPlanPost t k w) := by
  obtain ⟨ai, ci, h1, _⟩ := h.init.form
  obtain ⟨ag, cg, h2, _⟩ := h.goal.form
  obtain ⟨ao, co, h3, hmo⟩ := h.ops.form
  have K1 := (Keeps.refl (fun _ => False) w).alloc (.cells #[.int .i64 t.n, vi, vg, vo] 25)
  have KA := (Keeps.refl (fun _ => False) (w.alloc (.cells #[.int .i64 t.n, vi, vg, vo] 25))).alloc (.cells #[.bool false, .slice none 0 0, .int .i64 0, .int .i64 0] 52)
  have KB := (Keeps.refl (fun _ => False) ((w.alloc (.cells #[.int .i64 t.n, vi, vg, vo] 25)).alloc (.cells #[.bool false, .slice none 0 0, .int .i64 0, .int .i64 0] 52))).alloc (.cells #[.int .i64 0, .int .i64 0] 29)
  have HB := Lib.hid ((Four.new w (.int .i64 t.n) vi vg vo 25).keeps0 (KA.trans KB))
  have hr := KB.heap (heap_alloc_new (w.alloc (.cells #[.int .i64 t.n, vi, vg, vo] 25)) (.cells #[.bool false, .slice none 0 0, .int .i64 0, .int .i64 0] 52)) (fun h => h)
  have hf : Flt w _ _ 29 := ⟨heap_alloc_new ((w.alloc (.cells #[.int .i64 t.n, vi, vg, vo] 25)).alloc (.cells #[.bool false, .slice none 0 0, .int .i64 0, .int .i64 0] 52)) (.cells #[.int .i64 0, .int .i64 0] 29), by simp; omega, K1.trans (KA.trans KB)⟩
  have HT := Lib.hid (h.keeps0 (K1.trans (KA.trans KB)))
  rw [World.size_alloc] at hr hf
  rw [World.size_alloc] at hf
  have HR := Lib.hid (show RFl w _ (w.heap.size + 1) (w.heap.size + 1 + 1) from ⟨hr, hf, by omega, by omega⟩)
  subst h1 h2 h3
  clear h K1 KA KB hr hf
  go_enter Try.func34, Try.ntmps34
  go_upto_region 1 with fail
  generalize ((w.alloc (.cells #[.int .i64 t.n, .slice ai t.init.length ci, .slice ag t.goal.length cg, .slice ao t.ops.length co] 25)).alloc (.cells #[.bool false, .slice none 0 0, .int .i64 0, .int .i64 0] 52)).alloc (.cells #[.int .i64 0, .int .i64 0] 29) = w1 at HB HR HT ⊢
  have hbx := HB.out.lt
  obtain ⟨d0, d1, d2, d3⟩ := HB.out
  go_wp2_with fail
  refine (validate_any _ _ _ _ t HT.out).mono ?_; rintro e w2 ⟨rfl, hk⟩
  have HB2 := Lib.hid (HB.out.keeps0 hk); have HT2 := Lib.hid (HT.out.keeps0 hk); have HR2 := Lib.hid (HR.out.keeps0 hk)
  clear d0 d1 d2 d3 hk hbx HB HT HR
  by_cases hc : (taskFault t).1 = 0
  · have hok := taskFault_zero.1 hc
    have hft := taskFault_ok hok
    have NF : Hid (nplanF t k = if k < 0 ∨ 4 < k then ((3, -8) : Int × Int) else match explored t with | none => (10, -7) | some _ => (0, 0)) := by
      unfold Hid nplanF; rw [if_neg (by simpa using hc)]
    have OK := Lib.hid hok
    rw [hft]
    clear hc hft hok
    have KA := (Keeps.refl (fun _ => False) w2).alloc (.cells #[.int .i64 0, .int .i64 0] 29)
    have HB3 := Lib.hid (HB2.out.keeps0 KA); have HT3 := Lib.hid (HT2.out.keeps0 KA); have HR3 := Lib.hid (HR2.out.keeps0 KA)
    have F0 := heap_alloc_new w2 (.cells #[.int .i64 0, .int .i64 0] 29)
    clear KA
    go_upto_region 2 with fail
    generalize w2.alloc (.cells #[.int .i64 0, .int .i64 0] 29) = w3 at HB3 HT3 HR3 F0 ⊢
    have f0 : w3.cell? ⟨w2.heap.size, 0, none⟩ = some (.int .i64 0) := by rw [cell_of_blk F0]; rfl
    have f1 : w3.cell? ⟨w2.heap.size, 1, none⟩ = some (.int .i64 0) := by rw [cell_of_blk F0]; rfl
    clear F0
    by_cases hk : k < 0 ∨ 4 < k
    · have NF2 : Hid (nplanF t k = (3, -8)) := by unfold Hid; rw [NF.out, if_pos hk]
      have q : (decide (k < 0) = true) ∨ (decide (k < 0) = false ∧ decide (4 < k) = true) := by
        by_cases h0 : k < 0
        · exact .inl (by simpa using h0)
        · exact .inr ⟨by simpa using h0, by simpa using hk.resolve_left h0⟩
      have HFIN := Lib.hid (HR3.out.set (.bool false) (.slice none 0 0) (.int .i64 0) (.int .i64 0) (.int .i64 3) (.int .i64 (-8)))
      obtain ⟨r0, r1, r2, r3, y0, y1, y2, y3, hlR⟩ := HR3.out.cells
      obtain ⟨e0, e1, z0, z1, hF⟩ := HR3.out.flt.cells
      clear hk
      rcases q with q | ⟨q, q2⟩
      all_goals
        go_wp2_with fail
        refine bodyPost_ret (results_cell_cell _ _ (w.heap.size + 1 + 1) 29 #[.int .i64 3, .int .i64 (-8)] (0, 0) _ rfl rfl HFIN.out.2.1 Try.underlying29 rfl (by kernel_rfl) rfl HFIN.out.1 Try.underlying52 rfl (by kernel_rfl)) rfl ?_
        exact ⟨HFIN.out.2.2.1, false, _, [], 0, 0, 3, -8, rfl, Ints.nil _, .inl ⟨NF2.out, by decide, rfl, rfl, rfl, rfl⟩⟩
    · have q1 : decide (k < 0) = false := by simp; omega
      have q2 : decide (4 < k) = false := by simp; omega
      have hk2 : 0 ≤ k ∧ k ≤ 4 := by omega
      have NF2 : Hid (nplanF t k = match explored t with | none => (10, -7) | some _ => (0, 0)) := by unfold Hid; rw [NF.out, if_neg hk]
      obtain ⟨d0, d1, d2, d3⟩ := HB3.out
      have hbx := HB3.out.lt
      clear hk NF
      go_wp2_with fail
      refine (checked_any _ _ _ _ t HT3.out).mono ?_; rintro e w4 ⟨hk, hr⟩
      have HB4 := Lib.hid (HB3.out.keeps0 hk); have HT4 := Lib.hid (HT3.out.keeps0 hk); have HR4 := Lib.hid (HR3.out.keeps0 hk)
      clear d0 d1 d2 d3 hk hbx f0 f1
      rcases hr with ⟨hc, rfl⟩ | ⟨hok, hx, rfl⟩ | ⟨hok, l, hx, b, v, vl, ws, rfl, hw, _, _, _⟩
      · exact absurd (taskFault_zero.2 OK.out) hc
      · have NF3 : Hid (nplanF t k = (10, -7)) := by unfold Hid; rw [NF2.out, hx]
        have HR5 := Lib.hid (HR4.out.keeps0 ((Keeps.refl _ _).alloc (.cells #[.int .i64 10, .int .i64 (-7)] 29)))
        have F0 := heap_alloc_new w4 (.cells #[.int .i64 10, .int .i64 (-7)] 29)
        clear hok hx
        go_upto_region 7 with fail
        generalize w4.alloc (.cells #[.int .i64 10, .int .i64 (-7)] 29) = w5 at HR5 F0 ⊢
        have f0 : w5.cell? ⟨w4.heap.size, 0, none⟩ = some (.int .i64 10) := by rw [cell_of_blk F0]; rfl
        have f1 : w5.cell? ⟨w4.heap.size, 1, none⟩ = some (.int .i64 (-7)) := by rw [cell_of_blk F0]; rfl
        have HFIN := Lib.hid (HR5.out.fin (.int .i64 10) (.int .i64 (-7)))
        obtain ⟨r0, r1, r2, r3, y0, y1, y2, y3, hlR⟩ := HR5.out.cells
        obtain ⟨e0, e1, z0, z1, hF⟩ := HR5.out.flt.cells
        obtain ⟨s0, s1, s2, s3⟩ := HR5.out.ids
        clear F0
        go_wp2_with fail
        go_region
        all_goals
          go_wp2
          refine bodyPost_ret (results_cell_cell _ _ (w.heap.size + 1 + 1) 29 #[.int .i64 10, .int .i64 (-7)] (0, 0) _ rfl rfl HFIN.out.2.1 Try.underlying29 rfl (by kernel_rfl) rfl HFIN.out.1 Try.underlying52 rfl (by kernel_rfl)) rfl ?_
          exact ⟨HFIN.out.2.2, false, _, [], 0, 0, 10, -7, rfl, Ints.nil _, .inl ⟨NF3.out, by decide, rfl, rfl, rfl, rfl⟩⟩
      · have NF3 : Hid (nplanF t k = (0, 0)) := by unfold Hid; rw [NF2.out, hx]
        have HX := Lib.hid hx
        have KA := (Keeps.refl (fun _ => False) w4).alloc (.cells #[.int .i64 0, .int .i64 0] 29)
        have HW := Lib.hid (hw.keeps0 KA)
        have HB5 := Lib.hid (HB4.out.keeps0 KA); have HT5 := Lib.hid (HT4.out.keeps0 KA); have HR5 := Lib.hid (HR4.out.keeps0 KA)
        have F0 := heap_alloc_new w4 (.cells #[.int .i64 0, .int .i64 0] 29)
        clear hok hx hw KA
        go_upto_region 7 with fail
        generalize w4.alloc (.cells #[.int .i64 0, .int .i64 0] 29) = w5 at HW HB5 HT5 HR5 F0 ⊢
        have f0 : w5.cell? ⟨w4.heap.size, 0, none⟩ = some (.int .i64 0) := by rw [cell_of_blk F0]; rfl
        have f1 : w5.cell? ⟨w4.heap.size, 1, none⟩ = some (.int .i64 0) := by rw [cell_of_blk F0]; rfl
        clear F0
        obtain ⟨kn, rfl⟩ : ∃ kn : Nat, k = (kn : Int) := ⟨k.toNat, by omega⟩
        have hs32 : wd t.init < 4294967296 := wd_lt32 (by have := OK.out.n1; omega : t.n ≤ 32) OK.out.init
        go_wp2_with fail
        refine (search_any w5 b (wd t.init) (wd t.goal) _ v (wordsOf t.ops) HW.out (wops_ok OK.out) (by unfold wordsOf; rw [List.length_map]; exact OK.out.few) hs32 l HX.out kn (by omega)).mono ?_
        rintro e w6 ⟨hk6, hr⟩
        have HB6 := Lib.hid (HB5.out.keeps0 hk6); have HT6 := Lib.hid (HT5.out.keeps0 hk6); have HR6 := Lib.hid (HR5.out.keeps0 hk6)
        have hr2 : ∃ (o : Option (List Nat)) (m : Nat) (vp : Value), e = .returned (.tuple #[vp, .int .i64 (m : Int), .bool o.isSome]) ∧ Ints w6 vp (intsP (o.getD [])) ∧ NovRes (accW (wd t.goal)) (covW kn) (wordsOf t.ops) (wd t.init) o m ∧ PlanIn t (intsP (o.getD [])) ∧ (∀ j, vp.ownBlock = some j → w5.heap.size ≤ j) := by
          rcases hr with ⟨m, hn, rfl⟩ | ⟨p, m, hn, v', rfl, hi, hlo⟩
          · exact ⟨none, m, _, rfl, Ints.nil _, hn, fun z hz => by simp [intsP] at hz, fun j hj => by simp [Value.ownBlock] at hj⟩
          · obtain ⟨y, hy, _⟩ := hn.run
            exact ⟨some p, m, v', rfl, hi, hn, planIn_run hy, hlo⟩
        obtain ⟨o, m, vp, rfl, hvp, hnv, hin, hlo⟩ := hr2
        have HLO := Lib.hid (show (w.heap.size + 1 < w5.heap.size ∧ w.heap.size + 1 + 1 < w5.heap.size) ∧ ∀ j, vp.ownBlock = some j → w5.heap.size ≤ j from ⟨⟨lt_of_heap HR5.out.res, lt_of_heap HR5.out.flt.blk⟩, hlo⟩)
        obtain ⟨ap, cp, hpv, _⟩ := hvp.form
        subst hpv
        have HVP := Lib.hid hvp; have HNV := Lib.hid hnv; have HIN := Lib.hid hin
        obtain ⟨d0, d1, d2, d3⟩ := HB6.out
        have hbx := HB6.out.lt
        clear hk6 hr hvp hnv hin hlo f0 f1
        go_wp2_with fail
        refine (result_any w6 _ _ _ _ t _ o.isSome (m : Int) HT6.out OK.out HVP.out HIN.out).mono ?_
        rintro e w7 ⟨hk7, hr7⟩
        have HR7 := Lib.hid (HR6.out.keeps0 hk7)
        have HVP7 := Lib.hid (HVP.out.keeps0 hk7)
        obtain ⟨r0, r1, r2, r3, y0, y1, y2, y3, hlR⟩ := HR7.out.cells
        obtain ⟨e0, e1, z0, z1, hF⟩ := HR7.out.flt.cells
        have HLQ : Hid ((intsP (o.getD [])).length = (o.getD []).length) := by unfold Hid intsP; rw [List.length_map]
        have hlow6 := HR6.out.flt.keep.size
        clear d0 d1 d2 d3 hbx hk7
        rcases hr7 with ⟨h60, rfl⟩ | ⟨h60, rfl⟩
        · have HFIN := Lib.hid (HR7.out.set (.bool false) (.slice none 0 0) (.int .i64 0) (.int .i64 0) (.int .i64 10) (.int .i64 (-9)))
          have HWF : Hid (wayF (o.getD []).length (0, 0) = (10, -9)) := by unfold Hid wayF; rw [if_pos ⟨rfl, by rw [← HLQ.out]; exact h60⟩]
          clear h60
          simp only [resV, fltV]
          go_wp2_with fail
          refine bodyPost_ret (results_cell_cell _ _ (w.heap.size + 1 + 1) 29 #[.int .i64 10, .int .i64 (-9)] (0, 0) _ rfl rfl HFIN.out.2.1 Try.underlying29 rfl (by kernel_rfl) rfl HFIN.out.1 Try.underlying52 rfl (by kernel_rfl)) rfl ?_
          exact ⟨HFIN.out.2.2.1, false, _, [], 0, 0, 10, -9, rfl, Ints.nil _, .inr ⟨NF3.out, OK.out, hk2.1, hk2.2, l, o, m, HX.out, HNV.out, HWF.out, fun _ => ⟨rfl, rfl, rfl, rfl⟩, fun h => by simp at h⟩⟩
        · have HFIN := Lib.hid (HR7.out.set (.bool o.isSome) (.slice ap (intsP (o.getD [])).length cp) (.int .i64 (costL t (intsP (o.getD [])))) (.int .i64 (m : Int)) (.int .i64 0) (.int .i64 0))
          have HWF : Hid (wayF (o.getD []).length (0, 0) = (0, 0)) := by unfold Hid wayF; rw [if_neg (fun h => by have h2 := h.2; rw [← HLQ.out] at h2; omega)]
          clear h60
          simp only [resV, fltV]
          go_wp2_with fail
          refine bodyPost_ret (results_cell_cell _ _ (w.heap.size + 1 + 1) 29 #[.int .i64 0, .int .i64 0] (0, 0) _ rfl rfl HFIN.out.2.1 Try.underlying29 rfl (by kernel_rfl) rfl HFIN.out.1 Try.underlying52 rfl (by kernel_rfl)) rfl ?_
          refine ⟨HFIN.out.2.2.1, o.isSome, _, intsP (o.getD []), costL t (intsP (o.getD [])), (m : Int), 0, 0, rfl, ?_, .inr ⟨NF3.out, OK.out, hk2.1, hk2.2, l, o, m, HX.out, HNV.out, HWF.out, fun h => absurd rfl h, fun _ => ⟨rfl, rfl, rfl, rfl⟩⟩⟩
          refine HVP7.out.keepsS HFIN.out.2.2.2 (fun h0 j hj e' => ?_)
          have h1 := HLO.out.2 j hj
          have h2 := HLO.out.1
          omega
  · have hc2 : ((taskFault t).1 == 0) = false := by simpa using hc
    have NF2 : Hid (nplanF t k = taskFault t) := by unfold Hid nplanF; rw [if_pos hc]
    have HC := Lib.hid hc
    clear hc
    generalize hfe : taskFault t = f at hc2 NF2 HC ⊢
    clear hfe
    have HR3 := Lib.hid (HR2.out.keeps0 ((Keeps.refl _ _).alloc (.cells #[.int .i64 f.1, .int .i64 f.2] 29)))
    have F0 := heap_alloc_new w2 (.cells #[.int .i64 f.1, .int .i64 f.2] 29)
    go_upto_region 2 with fail
    generalize w2.alloc (.cells #[.int .i64 f.1, .int .i64 f.2] 29) = w3 at HR3 F0 ⊢
    have f0 : w3.cell? ⟨w2.heap.size, 0, none⟩ = some (.int .i64 f.1) := by rw [cell_of_blk F0]; rfl
    have f1 : w3.cell? ⟨w2.heap.size, 1, none⟩ = some (.int .i64 f.2) := by rw [cell_of_blk F0]; rfl
    have HFIN := Lib.hid (HR3.out.fin (.int .i64 f.1) (.int .i64 f.2))
    obtain ⟨r0, r1, r2, r3, y0, y1, y2, y3, hlR⟩ := HR3.out.cells
    obtain ⟨e0, e1, z0, z1, hF⟩ := HR3.out.flt.cells
    obtain ⟨s0, s1, s2, s3⟩ := HR3.out.ids
    clear F0
    go_wp2_with fail
    go_region
    all_goals
      go_wp2
      refine bodyPost_ret (results_cell_cell _ _ (w.heap.size + 1 + 1) 29 #[.int .i64 f.1, .int .i64 f.2] (0, 0) _ rfl rfl HFIN.out.2.1 Try.underlying29 rfl (by kernel_rfl) rfl HFIN.out.1 Try.underlying52 rfl (by kernel_rfl)) rfl ?_
      exact ⟨HFIN.out.2.2, false, _, [], 0, 0, f.1, f.2, rfl, Ints.nil _, .inl ⟨NF2.out, HC.out, rfl, rfl, rfl, rfl⟩⟩

end Go.Proofs.Ytcfcmmajlkkabaa
