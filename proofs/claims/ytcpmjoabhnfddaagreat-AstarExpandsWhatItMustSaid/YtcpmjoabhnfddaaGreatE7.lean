/- CostOf: the cost of a plan. novelty.Plan. A search by novelty of a width that no state exceeds finds a plan if there is one, in plain words. The reference's BestPlans and BestFault. The reference's BestFault. bothends: what meet's two sides say of the task's plans (plain), and what a search for best plans hands back. A map with words as keys, as a function that is not defined everywhere. bothends: a side in memory, and (*side).back. bothends: the closure that notes where the sides meet (meet$1). bothends: newSide. space.Path along a chain of parents that may have changed on the way. The queue's First: the least key, and whether there is one. astar: what a best-first search with an admissible heuristic finds, in plain Lean. bothends: the rows of arcs of both sides, as they grow; the cells of a row of arcs. bothends: both sides in memory, apart from each other, and what one call of advance leaves of them. bothends: both sides in memory as meet has made them. astar: what a best-first search has in memory, and a heuristic as a function value. astar.Best: what the search has in memory between its steps. astar.Heuristic: a function value that remembers what it has said; astar.Value at the kind that says nothing. astar.Checked, for a kind that is permitted; astar.Heuristic; astar.Admissible. No condition beyond what each theorem says. -/
import Derived.Test.YtcpmjoabhnfddaaGreatE4
import Derived.BigQuiet
import Derived.Test.YtcpmjoabhnfddaaGreatE6
import Derived.Test.YtcpmjoabhnfddaaGreatE3
import Derived.Test.YtcpmjoabhnfddaaGreatE5

namespace Go.Proofs.YtcpmjoabhnfddaaGreat
open Go.RowKit

def costAt (t : Tsk) (x : Int) : Int := ((t.ops[x.toNat]?).map Opr.cost).getD 0
def costL (t : Tsk) : List Int → Int
  | [] => 0
  | x :: r => costAt t x + costL t r
def PlanIn (t : Tsk) (p : List Int) : Prop := ∀ x ∈ p, 0 ≤ x ∧ x < (t.ops.length : Int)

theorem costL_append (t : Tsk) : ∀ (a b : List Int), costL t (a ++ b) = costL t a + costL t b
  | [], b => by simp [costL]
  | x :: a, b => by
    show costAt t x + costL t (a ++ b) = (costAt t x + costL t a) + costL t b
    rw [costL_append t a b]; omega
theorem costAt_bound {t : Tsk} (ok : t.Ok) (x : Int) : 0 ≤ costAt t x ∧ costAt t x ≤ 100 := by
  unfold costAt
  cases h : t.ops[x.toNat]? with
  | none => simp
  | some o =>
    have := ok.ops o (List.mem_of_getElem? h)
    simp; exact ⟨this.cost0, this.cost1⟩
theorem costL_bound {t : Tsk} (ok : t.Ok) : ∀ p : List Int, 0 ≤ costL t p ∧ costL t p ≤ 100 * (p.length : Int)
  | [] => by simp [costL]
  | x :: r => by
    have h1 := costAt_bound ok x
    have h2 := costL_bound ok r
    unfold costL
    rw [List.length_cons]
    omega

end Go.Proofs.YtcpmjoabhnfddaaGreat

/- space.Result. -/
namespace Go.Proofs.YtcpmjoabhnfddaaGreat
open Go.RowKit

/-- A SearchResult. -/
def resV (found : Bool) (vp : Value) (c n : Int) : Value := .agg #[.bool found, vp, .int .i64 c, .int .i64 n]

theorem quad_set {w : World} {B : Nat} {x0 x1 x2 x3 : Value} {T : TypeId} (h : w.heap[B]? = some (.cells #[x0, x1, x2, x3] T (0, 0))) (a b c d : Value) :
    ((((w.setCell ⟨B, 0, none⟩ a).setCell ⟨B, 1, none⟩ b).setCell ⟨B, 2, none⟩ c).setCell ⟨B, 3, none⟩ d).heap[B]? = some (.cells #[a, b, c, d] T (0, 0)) := by
  rw [blk_set_same (blk_set_same (blk_set_same (blk_set_same h a) b) c) d]; rfl
theorem keeps_quad {w : World} (B : Nat) (a b c d : Value) : Keeps (fun k => k = B) w ((((w.setCell ⟨B, 0, none⟩ a).setCell ⟨B, 1, none⟩ b).setCell ⟨B, 2, none⟩ c).setCell ⟨B, 3, none⟩ d) :=
  ((((Keeps.refl (fun k => k = B) w).setCell (p := ⟨B, 0, none⟩) (.inl rfl) _).setCell (p := ⟨B, 1, none⟩) (.inl rfl) _).setCell (p := ⟨B, 2, none⟩) (.inl rfl) _).setCell (p := ⟨B, 3, none⟩) (.inl rfl) _

def ResultPost (t : Tsk) (vp : Value) (p : List Int) (found : Bool) (n : Int) (w : World) (e : Ending) (w' : World) : Prop := Keeps (fun _ => False) w w' ∧
  ((60 < p.length ∧ e = .returned (.tuple #[resV false (.slice none 0 0) 0 0, fltV 10 (-9)])) ∨
   (p.length ≤ 60 ∧ e = .returned (.tuple #[resV found vp (costL t p) n, fltV 0 0])))

set_option maxRecDepth 100000 in
set_option maxHeartbeats 2000000 in
theorem result_any (w : World) (vi vg vo vp : Value) (t : Tsk) (p : List Int) (found : Bool) (n : Int) (h : TaskAt w vi vg vo t) (ok : t.Ok) (hp : Ints w vp p) (hin : PlanIn t p) :
    Calls Tryz.prog 49 #[.agg #[.int .i64 t.n, vi, vg, vo], vp, .bool found, .int .i64 n] w (ResultPost t vp p found n w) := by
  obtain ⟨ai, ci, h1, _⟩ := h.init.form
  obtain ⟨ag, cg, h2, _⟩ := h.goal.form
  obtain ⟨ao, co, h3, hmo⟩ := h.ops.form
  obtain ⟨ap, cp, h4, _⟩ := hp.form
  have K1 := (Keeps.refl (fun _ => False) w).alloc (.cells #[.int .i64 t.n, vi, vg, vo] 25)
  have KA := (Keeps.refl (fun _ => False) (w.alloc (.cells #[.int .i64 t.n, vi, vg, vo] 25))).alloc (.cells #[.bool false, .slice none 0 0, .int .i64 0, .int .i64 0] 29)
  have KB := (Keeps.refl (fun _ => False) ((w.alloc (.cells #[.int .i64 t.n, vi, vg, vo] 25)).alloc (.cells #[.bool false, .slice none 0 0, .int .i64 0, .int .i64 0] 29))).alloc (.cells #[.int .i64 0, .int .i64 0] 31)
  have HB := Lib.hid ((Four.new w (.int .i64 t.n) vi vg vo 25).keeps0 (KA.trans KB))
  have HR := Lib.hid (KB.heap (heap_alloc_new (w.alloc (.cells #[.int .i64 t.n, vi, vg, vo] 25)) (.cells #[.bool false, .slice none 0 0, .int .i64 0, .int .i64 0] 29)) (fun h => h))
  have HF : Flt w _ _ 31 := ⟨heap_alloc_new ((w.alloc (.cells #[.int .i64 t.n, vi, vg, vo] 25)).alloc (.cells #[.bool false, .slice none 0 0, .int .i64 0, .int .i64 0] 29)) (.cells #[.int .i64 0, .int .i64 0] 31), by simp; omega, K1.trans (KA.trans KB)⟩
  replace HF := Lib.hid HF
  have HT := Lib.hid (h.keeps0 (K1.trans (KA.trans KB))); have HP := Lib.hid (show Ints _ vp p from hp.keeps0 (K1.trans (KA.trans KB)))
  have OK := Lib.hid ok; have HIN := Lib.hid hin
  rw [World.size_alloc] at HR HF
  rw [World.size_alloc] at HF
  subst h1 h2 h3 h4
  clear h hp hin ok K1 KA KB
  go_enter Tryz.func49, Tryz.ntmps49
  go_upto_region 1 with fail
  generalize ((w.alloc (.cells #[.int .i64 t.n, .slice ai t.init.length ci, .slice ag t.goal.length cg, .slice ao t.ops.length co] 25)).alloc (.cells #[.bool false, .slice none 0 0, .int .i64 0, .int .i64 0] 29)).alloc (.cells #[.int .i64 0, .int .i64 0] 31) = w1 at HB HR HF HT HP ⊢
  have r0 : w1.cell? ⟨w.heap.size + 1, 0, none⟩ = some (.bool false) := by rw [cell_of_blk HR.out]; rfl
  have r1 : w1.cell? ⟨w.heap.size + 1, 1, none⟩ = some (.slice none 0 0) := by rw [cell_of_blk HR.out]; rfl
  have r2 : w1.cell? ⟨w.heap.size + 1, 2, none⟩ = some (.int .i64 0) := by rw [cell_of_blk HR.out]; rfl
  have r3 : w1.cell? ⟨w.heap.size + 1, 3, none⟩ = some (.int .i64 0) := by rw [cell_of_blk HR.out]; rfl
  have y0 := frozen_of_blk (o := 0) HR.out
  have y1 := frozen_of_blk (o := 1) HR.out
  have y2 := frozen_of_blk (o := 2) HR.out
  have y3 := frozen_of_blk (o := 3) HR.out
  have hlR := lt_of_heap HR.out
  obtain ⟨e0, e1, z0, z1, hF⟩ := HF.out.cells
  by_cases hlen : 60 < p.length
  · have q1 : decide ((60 : Int) < (p.length : Int)) = true := by simp; omega
    have HLEN := Lib.hid hlen
    have kq := keeps_quad (w := w1) (w.heap.size + 1) (.bool false) (.slice none 0 0) (.int .i64 0) (.int .i64 0)
    have HQ := Lib.hid (quad_set HR.out (.bool false) (.slice none 0 0) (.int .i64 0) (.int .i64 0))
    have HF2 := Lib.hid (HF.out.keepsS kq (by omega) (fun i hi => by omega))
    clear hlen kq
    go_wp2_with fail
    refine bodyPost_ret (results_cell_cell _ _ (w.heap.size + 1 + 1) 31 #[.int .i64 10, .int .i64 (-9)] (0, 0) _ rfl rfl (HF2.out.set (.int .i64 10) (.int .i64 (-9))).1 Tryz.underlying31 rfl (by kernel_rfl) rfl ((keeps_pair (w.heap.size + 1 + 1) _ _).heap HQ.out (by omega)) Tryz.underlying29 rfl (by kernel_rfl)) rfl ?_
    exact ⟨(HF2.out.set _ _).2, .inl ⟨HLEN.out, rfl⟩⟩
  · have q1 : decide ((60 : Int) < (p.length : Int)) = false := by simp; omega
    have hlen2 : p.length ≤ 60 := by omega
    have HLEN := Lib.hid hlen2
    have hs1 := HF.out.keep.size
    have HOC := Lib.hid (HT.out.ops.cell rfl)
    have CP := Lib.hid (HP.out.cell rfl)
    have K3 := Lib.hid ((Keeps.refl (fun _ => False) w1).alloc (.cells #[.bool found, .slice ap p.length cp, .int .i64 0, .int .i64 n] 29))
    have HX3 := Lib.hid (heap_alloc_new w1 (.cells #[.bool found, .slice ap p.length cp, .int .i64 0, .int .i64 n] 29))
    have hbw := HB.out.lt
    clear hlen HT HP r0 r1 r2 r3 y0 y1 y2 y3 e0 e1 z0 z1
    go_upto_region 5 with fail
    generalize w1.alloc (.cells #[.bool found, .slice ap p.length cp, .int .i64 0, .int .i64 n] 29) = w3 at K3 HX3 ⊢
    obtain ⟨bx, hbx⟩ : ∃ bx, w1.heap.size = bx := ⟨_, rfl⟩
    have HBX := Lib.hid hbx
    rw [hbx] at hF hlR hs1 hbw
    rw [show w1.heap.size = bx from hbx] at HX3
    rw [hbx]
    clear hbx
    go_loopw [24] (fun v24 wr => ∃ i : Nat, i ≤ p.length ∧ v24 = .int .i64 (i : Int) ∧ wr.heap[bx]? = some (.cells #[.bool found, .slice ap p.length cp, .int .i64 (costL t (p.take i)), .int .i64 n] 29 (0, 0)) ∧ Keeps (fun _ => False) w1 wr) (fun v24 _ => p.length - (intOf v24).toNat)
    case atStart => exact ⟨0, Nat.zero_le _, rfl, HX3.out, K3.out⟩
    case round =>
      obtain ⟨i, hi, rfl, hx, hkr⟩ := hrel
      have HX := Lib.hid hx
      have HKR := Lib.hid hkr
      have HB2 := Lib.hid (HB.out.keeps0 hkr)
      have HF2 := Lib.hid (HF.out.keeps0 hkr)
      have HR2 := Lib.hid (hkr.heap HR.out (fun h => h))
      have s0 : wr.cell? ⟨bx, 0, none⟩ = some (.bool found) := by rw [cell_of_blk hx]; rfl
      have s1 : wr.cell? ⟨bx, 1, none⟩ = some (.slice ap p.length cp) := by rw [cell_of_blk hx]; rfl
      have s2 : wr.cell? ⟨bx, 2, none⟩ = some (.int .i64 (costL t (p.take i))) := by rw [cell_of_blk hx]; rfl
      have s3 : wr.cell? ⟨bx, 3, none⟩ = some (.int .i64 n) := by rw [cell_of_blk hx]; rfl
      have v2 := frozen_of_blk (o := 2) hx
      have hlx := lt_of_heap hx
      clear hkr hx
      by_cases hlt : i < p.length
      · obtain ⟨d0, d1, d2, d3⟩ := HB2.out
        have hbl2 := HB2.out.lt
        obtain ⟨bp, op, rfl, hx'⟩ := CP.out (by omega)
        obtain ⟨x, hx⟩ : ∃ x, p[i]? = some x := ⟨_, List.getElem?_eq_getElem hlt⟩
        have hu := HKR.out.cell (hx' i x hx) (fun h => h)
        have hxi := HIN.out x (List.mem_of_getElem? hx)
        obtain ⟨xn, rfl⟩ : ∃ xn : Nat, x = (xn : Int) := ⟨x.toNat, by omega⟩
        obtain ⟨bo, oo, rfl, ho'⟩ := HOC.out (by omega)
        obtain ⟨o, ho⟩ : ∃ o, t.ops[xn]? = some o := ⟨_, List.getElem?_eq_getElem (by omega)⟩
        obtain ⟨va, vb, vc, _, _, _, c3, _⟩ := ho' xn o ho
        have c3' := HKR.out.cell c3 (fun h => h)
        have HTK : Hid (costL t (p.take (i + 1)) = costL t (p.take i) + o.cost) := by
          unfold Hid
          rw [take_getS hx, costL_append]
          simp [costL, costAt, ho]
        have hbd := costL_bound OK.out (p.take i)
        have hbl : ((p.take i).length : Int) ≤ 1000000 := by rw [List.length_take]; omega
        have hoc := OK.out.ops o (List.mem_of_getElem? ho)
        have ho0 := hoc.cost0
        have ho1 := hoc.cost1
        have q1 : IntKind.i64.wrap (costL t (p.take i) + o.cost) = costL t (p.take i) + o.cost := IntWalk.i64_in _ (by omega)
        have q2 : ((xn : Int)).toNat = xn := by omega
        have q3 : (0 : Int) ≤ (xn : Int) := by omega
        have q4 : (xn : Int) < (t.ops.length : Int) := hxi.2
        clear hx' hx ho' ho c3 hxi hoc hbl hbd
        go_upto_region 7 with fail
        go_still_tail 10, (by kernel_rfl)
        change wpList _ _ _ _ _ wr.drew
        have KD := (Keeps.refl (fun _ => False) wr).drew
        have HXD := Lib.hid (KD.heap HX.out (fun h => h))
        have HKD := Lib.hid (HKR.out.trans KD)
        clear KD d0 d1 d2 d3 hbl2 hu c3' s0 s1 s2 s3 v2 hlx
        generalize wr.drew = w5 at HXD HKD ⊢
        have s2 : w5.cell? ⟨bx, 2, none⟩ = some (.int .i64 (costL t (p.take i))) := by rw [cell_of_blk HXD.out]; rfl
        have v2 := frozen_of_blk (o := 2) HXD.out
        have hlx := lt_of_heap HXD.out
        have HN := Lib.hid (blk_set_same HXD.out (o := 2) (.int .i64 (costL t (p.take i) + o.cost)))
        have HKN := Lib.hid (HKD.out.trans' ((Keeps.refl (fun k => k = bx) w5).setCell (p := ⟨bx, 2, none⟩) (.inl rfl) (.int .i64 (costL t (p.take i) + o.cost))) (fun k hk => .inr (by have := HBX.out; omega)))
        go_wp2_with fail
        go_roundw
        case rel => exact ⟨i + 1, by omega, by go_num, by rw [HTK.out]; exact HN.out, HKN.out⟩
        case measure => simp only [intOf]; omega
      · have hie : i = p.length := by omega
        subst hie
        have r0 : wr.cell? ⟨w.heap.size + 1, 0, none⟩ = some (.bool false) := by rw [cell_of_blk HR2.out]; rfl
        have r1 : wr.cell? ⟨w.heap.size + 1, 1, none⟩ = some (.slice none 0 0) := by rw [cell_of_blk HR2.out]; rfl
        have r2 : wr.cell? ⟨w.heap.size + 1, 2, none⟩ = some (.int .i64 0) := by rw [cell_of_blk HR2.out]; rfl
        have r3 : wr.cell? ⟨w.heap.size + 1, 3, none⟩ = some (.int .i64 0) := by rw [cell_of_blk HR2.out]; rfl
        have y0 := frozen_of_blk (o := 0) HR2.out
        have y1 := frozen_of_blk (o := 1) HR2.out
        have y2 := frozen_of_blk (o := 2) HR2.out
        have y3 := frozen_of_blk (o := 3) HR2.out
        have hlR2 := lt_of_heap HR2.out
        obtain ⟨e0, e1, z0, z1, hF2⟩ := HF2.out.cells
        have HCE : Hid (costL t (p.take p.length) = costL t p) := by unfold Hid; rw [List.take_length]
        have kq := keeps_quad (w := wr) (w.heap.size + 1) (.bool found) (.slice ap p.length cp) (.int .i64 (costL t p)) (.int .i64 n)
        have HQ := Lib.hid (quad_set HR2.out (.bool found) (.slice ap p.length cp) (.int .i64 (costL t p)) (.int .i64 n))
        have HF4 := Lib.hid (HF2.out.keepsS kq (by omega) (fun i hi => by omega))
        rw [HCE.out] at s2
        clear kq HX
        go_wp2_with fail
        refine bodyPost_ret (results_cell_cell _ _ (w.heap.size + 1 + 1) 31 #[.int .i64 0, .int .i64 0] (0, 0) _ rfl rfl (HF4.out.set (.int .i64 0) (.int .i64 0)).1 Tryz.underlying31 rfl (by kernel_rfl) rfl ((keeps_pair (w.heap.size + 1 + 1) _ _).heap HQ.out (by omega)) Tryz.underlying29 rfl (by kernel_rfl)) rfl ?_
        exact ⟨(HF4.out.set _ _).2, .inr ⟨HLEN.out, rfl⟩⟩

end Go.Proofs.YtcpmjoabhnfddaaGreat

namespace Go.Proofs.YtcpmjoabhnfddaaGreat
open Go.RowKit

/-! ### the plans of a search -/
theorem runOps_lt {ops : List Wop} : ∀ {p : List Nat} {x y : Nat}, runOps ops x p = some y → ∀ o ∈ p, o < ops.length
  | [], _, _, _, _, h => by cases h
  | o :: r, x, y, h, k, hk => by
    rw [runOps] at h
    cases ho : ops[o]? with
    | none => rw [ho] at h; cases h
    | some op =>
      rw [ho] at h; simp only at h
      split at h
      · rcases List.mem_cons.1 hk with rfl | hk
        · exact (List.getElem?_eq_some_iff.1 ho).1
        · exact runOps_lt h k hk
      · cases h

theorem planIn_run {t : Tsk} {p : List Nat} {x y : Nat} (h : runOps (wordsOf t.ops) x p = some y) : PlanIn t (intsP p) := by
  intro z hz
  unfold intsP at hz
  obtain ⟨o, ho, rfl⟩ := List.mem_map.1 hz
  have := runOps_lt h o ho
  unfold wordsOf at this
  rw [List.length_map] at this
  omega

/-! ### two blocks of results -/
structure RFl (w w1 : World) (R F : Nat) : Prop where
  res : w1.heap[R]? = some (.cells #[.bool false, .slice none 0 0, .int .i64 0, .int .i64 0] 29 (0, 0))
  flt : Flt w w1 F 31
  base : w.heap.size ≤ R
  ne : R ≠ F
theorem RFl.keeps0 {w w1 w2 : World} {R F : Nat} (h : RFl w w1 R F) (hk : Keeps (fun _ => False) w1 w2) : RFl w w2 R F := ⟨hk.heap h.res (fun h => h), h.flt.keeps0 hk, h.base, h.ne⟩
theorem RFl.cells {w w1 : World} {R F : Nat} (h : RFl w w1 R F) : w1.cell? ⟨R, 0, none⟩ = some (.bool false) ∧ w1.cell? ⟨R, 1, none⟩ = some (.slice none 0 0) ∧ w1.cell? ⟨R, 2, none⟩ = some (.int .i64 0) ∧ w1.cell? ⟨R, 3, none⟩ = some (.int .i64 0) ∧
    w1.frozen? ⟨R, 0, none⟩ = false ∧ w1.frozen? ⟨R, 1, none⟩ = false ∧ w1.frozen? ⟨R, 2, none⟩ = false ∧ w1.frozen? ⟨R, 3, none⟩ = false ∧ R < w1.heap.size :=
  ⟨by rw [cell_of_blk h.res]; rfl, by rw [cell_of_blk h.res]; rfl, by rw [cell_of_blk h.res]; rfl, by rw [cell_of_blk h.res]; rfl, frozen_of_blk h.res, frozen_of_blk h.res, frozen_of_blk h.res, frozen_of_blk h.res, lt_of_heap h.res⟩
theorem RFl.set {w w1 : World} {R F : Nat} (h : RFl w w1 R F) (a b c d x y : Value) :
    ((((((w1.setCell ⟨R, 0, none⟩ a).setCell ⟨R, 1, none⟩ b).setCell ⟨R, 2, none⟩ c).setCell ⟨R, 3, none⟩ d).setCell ⟨F, 0, none⟩ x).setCell ⟨F, 1, none⟩ y).heap[R]? = some (.cells #[a, b, c, d] 29 (0, 0)) ∧
    ((((((w1.setCell ⟨R, 0, none⟩ a).setCell ⟨R, 1, none⟩ b).setCell ⟨R, 2, none⟩ c).setCell ⟨R, 3, none⟩ d).setCell ⟨F, 0, none⟩ x).setCell ⟨F, 1, none⟩ y).heap[F]? = some (.cells #[x, y] 31 (0, 0)) ∧
    Keeps (fun _ => False) w ((((((w1.setCell ⟨R, 0, none⟩ a).setCell ⟨R, 1, none⟩ b).setCell ⟨R, 2, none⟩ c).setCell ⟨R, 3, none⟩ d).setCell ⟨F, 0, none⟩ x).setCell ⟨F, 1, none⟩ y) ∧
    Keeps (fun k => k = R ∨ k = F) w1 ((((((w1.setCell ⟨R, 0, none⟩ a).setCell ⟨R, 1, none⟩ b).setCell ⟨R, 2, none⟩ c).setCell ⟨R, 3, none⟩ d).setCell ⟨F, 0, none⟩ x).setCell ⟨F, 1, none⟩ y) := by
  have kq := keeps_quad (w := w1) R a b c d
  have hq := quad_set h.res a b c d
  have hf := h.flt.keepsS kq (fun e => h.ne e.symm) (fun i hi => by subst hi; exact h.base)
  have hs := hf.set x y
  exact ⟨(keeps_pair F x y).heap hq h.ne, hs.1, hs.2, (kq.mono (fun _ _ h => .inl h)).trans ((keeps_pair F x y).mono (fun _ _ h => .inr h))⟩

/-- The zero result stays as it is. -/
theorem RFl.ids {w w1 : World} {R F : Nat} (h : RFl w w1 R F) : w1.setCell ⟨R, 0, none⟩ (.bool false) = w1 ∧ w1.setCell ⟨R, 1, none⟩ (.slice none 0 0) = w1 ∧ w1.setCell ⟨R, 2, none⟩ (.int .i64 0) = w1 ∧ w1.setCell ⟨R, 3, none⟩ (.int .i64 0) = w1 :=
  ⟨setCell_id h.cells.1, setCell_id h.cells.2.1, setCell_id h.cells.2.2.1, setCell_id h.cells.2.2.2.1⟩
theorem RFl.fin {w w1 : World} {R F : Nat} (h : RFl w w1 R F) (x y : Value) : ((w1.setCell ⟨F, 0, none⟩ x).setCell ⟨F, 1, none⟩ y).drew.heap[R]? = some (.cells #[.bool false, .slice none 0 0, .int .i64 0, .int .i64 0] 29 (0, 0)) ∧
    ((w1.setCell ⟨F, 0, none⟩ x).setCell ⟨F, 1, none⟩ y).drew.heap[F]? = some (.cells #[x, y] 31 (0, 0)) ∧ Keeps (fun _ => False) w ((w1.setCell ⟨F, 0, none⟩ x).setCell ⟨F, 1, none⟩ y).drew :=
  ⟨(keeps_pair F x y).drew.heap h.res h.ne, (h.flt.set x y).1, (h.flt.set x y).2.drew⟩

theorem quad_cells {w : World} {B : Nat} {a b c d : Value} {T : TypeId} (h : w.heap[B]? = some (.cells #[a, b, c, d] T (0, 0))) : w.cell? ⟨B, 0, none⟩ = some a ∧ w.cell? ⟨B, 1, none⟩ = some b ∧ w.cell? ⟨B, 2, none⟩ = some c ∧ w.cell? ⟨B, 3, none⟩ = some d ∧ B < w.heap.size :=
  ⟨by rw [cell_of_blk h]; rfl, by rw [cell_of_blk h]; rfl, by rw [cell_of_blk h]; rfl, by rw [cell_of_blk h]; rfl, lt_of_heap h⟩

/-! ### what Plan hands back -/
end Go.Proofs.YtcpmjoabhnfddaaGreat

namespace Go.Proofs.YtcpmjoabhnfddaaGreat

/-! ### greater states -/
theorem goalB_iff {g x : Nat} : goalB g x = true ↔ under g x := by
  unfold goalB
  rw [beq_iff_eq]
  constructor
  · intro h i hi
    have := congrArg (fun z => z.testBit i) h
    simp only [Nat.testBit_and, hi, Bool.and_true] at this
    exact this
  · intro h
    refine Nat.eq_of_testBit_eq fun i => ?_
    rw [Nat.testBit_and]
    cases hg : g.testBit i with
    | false => simp
    | true => rw [h i hg]; rfl
theorem can_iff {o : Wop} {x : Nat} : o.can x = true ↔ under o.pre x := goalB_iff (g := o.pre) (x := x)
theorem reach_run {ops : List Wop} {s : Nat} : ∀ (q : List Nat) {x y : Nat}, Reach ops s x → runOps ops x q = some y → Reach ops s y
  | [], x, y, hx, hy => by cases hy; exact hx
  | a :: q, x, y, hx, hy => by
    rw [runOps] at hy
    cases ho : ops[a]? with
    | none => rw [ho] at hy; cases hy
    | some o =>
      rw [ho] at hy; simp only at hy
      by_cases hc : o.can x = true
      · rw [if_pos hc] at hy
        exact reach_run q (.step hx (List.mem_map.2 ⟨o, List.mem_filter.2 ⟨List.mem_of_getElem? ho, hc⟩, rfl⟩)) hy
      · rw [if_neg hc] at hy; cases hy

/-! ### the search that finds nothing -/
section
variable {acc : Nat → Bool} {cov : Nat → List Nat → Bool}
end

theorem ops_cost {t : Tsk} (ok : t.Ok) : ∀ o ∈ wordsOf t.ops, 0 ≤ o.cost ∧ o.cost ≤ 100 := fun o ho => by
  unfold wordsOf at ho
  obtain ⟨o', ho', rfl⟩ := List.mem_map.1 ho
  exact ⟨(ok.ops o' ho').cost0, (ok.ops o' ho').cost1⟩

end Go.Proofs.YtcpmjoabhnfddaaGreat

namespace Go.Proofs.YtcpmjoabhnfddaaGreat
open Go.RowKit

/-- The least price of a plan of the task. -/
def BestT (t : Tsk) (b : Int) : Prop := LeastOf 4096 1 (wordsOf t.ops) (wd t.init) (goalB (wd t.goal)) b
end Go.Proofs.YtcpmjoabhnfddaaGreat

namespace Go.Proofs.YtcpmjoabhnfddaaGreat
open Go.RowKit

/-- The steps of a best plan with the least price b. -/
def stepsB (b : Int) : Int := if b < 0 then 0 else b % 4096
end Go.Proofs.YtcpmjoabhnfddaaGreat

namespace Go.Proofs.YtcpmjoabhnfddaaGreat
open Go.RowKit

/-- What a search hands back whose plans are best, where b is the least price. -/
structure BPlanG (t : Tsk) (l : List Nat) (b : Int) (fnd : Bool) (lp : List Int) (c n : Int) : Prop where
  n : 0 ≤ n ∧ n ≤ (l.length : Int)
  none_ : b < 0 → fnd = false ∧ lp = [] ∧ c = 0
  some_ : 0 ≤ b → fnd = true ∧ ∃ q y, lp = intsP q ∧ runOps (wordsOf t.ops) (wd t.init) q = some y ∧ goalB (wd t.goal) y = true ∧ (q.length : Int) = b % 4096 ∧ costN (wordsOf t.ops) q = b / 4096 ∧ c = costL t lp

def BPlanIs (t : Tsk) (fnd : Bool) (lp : List Int) (c n fc fi : Int) : Prop :=
  (fc ≠ 0 ∧ expF t = (fc, fi) ∧ fnd = false ∧ lp = [] ∧ c = 0 ∧ n = 0) ∨
  (expF t = (0, 0) ∧ t.Ok ∧ ∃ l b, explored t = some l ∧ BestT t b ∧ ((60 < stepsB b ∧ fc = 10 ∧ fi = -9 ∧ fnd = false ∧ lp = [] ∧ c = 0 ∧ n = 0) ∨ (stepsB b ≤ 60 ∧ fc = 0 ∧ fi = 0 ∧ BPlanG t l b fnd lp c n)))
theorem expF_bad {t : Tsk} (h : (taskFault t).1 ≠ 0) : expF t = taskFault t := by unfold expF; rw [if_neg h]
theorem expF_many {t : Tsk} (ok : t.Ok) (h : explored t = none) : expF t = (10, -7) := by unfold expF; rw [if_pos (taskFault_zero.2 ok), h]
theorem expF_ok {t : Tsk} (ok : t.Ok) {l : List Nat} (h : explored t = some l) : expF t = (0, 0) := by unfold expF; rw [if_pos (taskFault_zero.2 ok), h]

/-- No plan is found. -/
theorem bplan_none {t : Tsk} (ok : t.Ok) {l : List Nat} (hx : explored t = some l) (hb : BestT t (-1)) {n : Int} (hn : 0 ≤ n ∧ n ≤ (l.length : Int)) : BPlanIs t false [] 0 n 0 0 :=
  .inr ⟨expF_ok ok hx, ok, l, -1, hx, hb, .inr ⟨by decide, rfl, rfl, hn, fun _ => ⟨rfl, rfl, rfl⟩, fun h => absurd h (by decide)⟩⟩
/-- A plan q is found. -/
theorem bplan_short {t : Tsk} (ok : t.Ok) {l : List Nat} (hx : explored t = some l) {b : Int} (hb : BestT t b) (h0 : 0 ≤ b) {q : List Nat} {y : Nat} (hr : runOps (wordsOf t.ops) (wd t.init) q = some y) (ha : goalB (wd t.goal) y = true) (hl : (q.length : Int) = b % 4096) (hc : costN (wordsOf t.ops) q = b / 4096) (h60 : q.length ≤ 60) {n : Int} (hn : 0 ≤ n ∧ n ≤ (l.length : Int)) :
    BPlanIs t true (intsP q) (costL t (intsP q)) n 0 0 :=
  .inr ⟨expF_ok ok hx, ok, l, b, hx, hb, .inr ⟨by unfold stepsB; rw [if_neg (by omega)]; omega, rfl, rfl, hn, fun h => absurd h (by omega), fun _ => ⟨rfl, q, y, rfl, hr, ha, hl, hc, rfl⟩⟩⟩
theorem bplan_long {t : Tsk} (ok : t.Ok) {l : List Nat} (hx : explored t = some l) {b : Int} (hb : BestT t b) (h0 : 0 ≤ b) {q : List Nat} (hl : (q.length : Int) = b % 4096) (h60 : 60 < q.length) : BPlanIs t false [] 0 0 10 (-9) :=
  .inr ⟨expF_ok ok hx, ok, l, b, hx, hb, .inl ⟨by unfold stepsB; rw [if_neg (by omega)]; omega, rfl, rfl, rfl, rfl, rfl, rfl⟩⟩

end Go.Proofs.YtcpmjoabhnfddaaGreat

namespace Go.Proofs.YtcpmjoabhnfddaaGreat
open Go.RowKit

def FMap {α : Type} (w : World) (b : Nat) (enc : α → Value) (f : Nat → Option α) : Prop :=
  ∃ l : List (Nat × α), IMap w b .u32 (l.map fun p => ((p.1 : Int), enc p.2)) ∧ (l.map Prod.fst).Nodup ∧ ∀ x v, f x = some v ↔ (x, v) ∈ l

section
variable {α : Type} {w : World} {b : Nat} {enc : α → Value} {f : Nat → Option α}
theorem FMap.keeps {S : Nat → Prop} {w' : World} (h : FMap w b enc f) (hk : Keeps S w w') (hs : ¬ S b) : FMap w' b enc f := by
  obtain ⟨l, h1, h2⟩ := h; exact ⟨l, h1.keeps hk hs, h2⟩
theorem FMap.lt (h : FMap w b enc f) : b < w.heap.size := by obtain ⟨l, h1, _⟩ := h; exact h1.lt
theorem FMap.map_block (h : FMap w b enc f) : ∃ es c, w.heap[b]? = some (.map es c) := by obtain ⟨l, ⟨es, c, hb, _⟩, _⟩ := h; exact ⟨es, c, hb⟩
theorem FMap.ne_cells (h : FMap w b enc f) {g : Nat} {cs : Array Value} {T : TypeId} {fr : Nat × Nat} (hg : w.heap[g]? = some (.cells cs T fr)) : b ≠ g := fun e => by
  obtain ⟨es, c, hb⟩ := h.map_block
  rw [e, hg] at hb; cases hb
theorem FMap.made (w : World) (enc : α → Value) : FMap (w.alloc (.map #[] 0)) w.heap.size enc (fun _ => none) :=
  ⟨[], IMap.made w .u32, by simp, fun x v => by simp⟩
theorem fkeys_nodup {l : List (Nat × α)} (h : (l.map Prod.fst).Nodup) : ((l.map fun p => ((p.1 : Int), enc p.2)).map Prod.fst).Nodup := by
  rw [List.map_map]
  have : (l.map ((Prod.fst : Int × Value → Int) ∘ fun p => ((p.1 : Int), enc p.2))) = (l.map Prod.fst).map fun x : Nat => (x : Int) := by rw [List.map_map]; rfl
  rw [this]
  unfold List.Nodup at h ⊢
  rw [List.pairwise_map]
  exact h.imp fun hne e => hne (by omega)
theorem fkeys_miss {l : List (Nat × α)} (hl : ∀ x v, f x = some v ↔ (x, v) ∈ l) {x : Nat} (hx : f x = none) : ∀ p ∈ l.map (fun p => ((p.1 : Int), enc p.2)), p.1 ≠ (x : Int) := fun p hp e => by
  obtain ⟨q, hq, rfl⟩ := List.mem_map.1 hp
  have : q.1 = x := by simp only at e; omega
  have h2 := (hl q.1 q.2).2 hq
  rw [this, hx] at h2; cases h2
variable {P : Program} {t k e : TypeId}
theorem FMap.look_some (h : FMap w b enc f) (ht : P.underlying t = some (.map k e)) (hk : P.underlying k = some (.int .u32)) {x : Nat} {v : α} (hx : f x = some v) :
    (Instr.lookup t (.map (some b)) (.int .u32 (x : Int)) true).run P w = .ok (.tuple #[enc v, .bool true]) w ∧ (Instr.lookup t (.map (some b)) (.int .u32 (x : Int)) false).run P w = .ok (enc v) w := by
  obtain ⟨l, h1, h2, h3⟩ := h
  exact h1.run_lookup_hit ht hk (fkeys_nodup h2) (List.mem_map.2 ⟨(x, v), (h3 x v).1 hx, rfl⟩)
theorem FMap.look_none (h : FMap w b enc f) (ht : P.underlying t = some (.map k e)) (hk : P.underlying k = some (.int .u32)) {z : Value} (hz : (zeroValue e).run P w = .ok z w) {x : Nat} (hx : f x = none) :
    (Instr.lookup t (.map (some b)) (.int .u32 (x : Int)) true).run P w = .ok (.tuple #[z, .bool false]) w ∧ (Instr.lookup t (.map (some b)) (.int .u32 (x : Int)) false).run P w = .ok z w := by
  obtain ⟨l, h1, _, h3⟩ := h
  exact h1.run_lookup_miss ht hk hz (fkeys_miss h3 hx)
/-- A store. -/
theorem FMap.put (h : FMap w b enc f) (ht : P.underlying t = some (.map k e)) (hk : P.underlying k = some (.int .u32)) (x : Nat) (v : α) :
    ∃ w', (Instr.mapUpdate t (.map (some b)) (.int .u32 (x : Int)) (enc v)).run P w = .ok () w' ∧ FMap w' b enc (putP f x v) ∧ Keeps (fun j => j = b) w w' := by
  obtain ⟨l, h1, h2, h3⟩ := h
  cases hx : f x with
  | none =>
    obtain ⟨w', hr, hi, hk'⟩ := h1.run_update_new ht hk (fkeys_miss h3 hx) (enc v)
    refine ⟨w', hr, ⟨l ++ [(x, v)], by rw [List.map_append]; exact hi, ?_, fun y u => ?_⟩, hk'⟩
    · rw [List.map_append, List.nodup_append]
      refine ⟨h2, by simp, fun a ha c hc hac => ?_⟩
      simp only [List.map_cons, List.map_nil, List.mem_singleton] at hc
      obtain ⟨q, hq, rfl⟩ := List.mem_map.1 ha
      have h4 := (h3 q.1 q.2).2 hq
      rw [hac, hc, hx] at h4; cases h4
    · by_cases hy : y = x
      · subst hy
        rw [putP_same, List.mem_append]
        constructor
        · intro h; cases h; exact .inr (by simp)
        · rintro (h | h)
          · have := (h3 y u).2 h; rw [hx] at this; cases this
          · simp at h; rw [h]
      · rw [putP_other f v hy, h3 y u, List.mem_append]
        constructor
        · exact .inl
        · rintro (h | h)
          · exact h
          · simp at h; exact absurd h.1 hy
  | some u0 =>
    obtain ⟨j, hj⟩ := List.mem_iff_getElem?.1 ((h3 x u0).1 hx)
    obtain ⟨w', hr, hi, hk'⟩ := h1.run_update_old ht hk (fkeys_nodup h2) (x := (x : Int)) (u := enc u0) (j := j) (by rw [List.getElem?_map, hj]; rfl) (enc v)
    have hjl := (List.getElem?_eq_some_iff.1 hj).1
    have hkeys : (l.set j (x, v)).map Prod.fst = l.map Prod.fst := by
      apply List.ext_getElem?
      intro n
      rw [List.getElem?_map, List.getElem?_map]
      by_cases hn : n = j
      · subst hn; rw [List.getElem?_set_self hjl, hj]; rfl
      · rw [List.getElem?_set_ne (fun e => hn e.symm)]
    refine ⟨w', hr, ⟨l.set j (x, v), by rw [List.map_set]; exact hi, by rw [hkeys]; exact h2, fun y u => ?_⟩, hk'⟩
    have uniq : ∀ n q, l[n]? = some q → q.1 = x → n = j := fun n q hq hqx => by
      have e1 : (l.map Prod.fst)[n]? = some x := by rw [List.getElem?_map, hq]; simp [hqx]
      have e2 : (l.map Prod.fst)[j]? = some x := by rw [List.getElem?_map, hj]; rfl
      exact nodup_ix h2 e1 e2
    by_cases hy : y = x
    · subst hy
      rw [putP_same]
      constructor
      · intro h; cases h
        exact List.mem_of_getElem? (List.getElem?_set_self hjl)
      · intro h
        obtain ⟨n, hn⟩ := List.mem_iff_getElem?.1 h
        by_cases hnj : n = j
        · subst hnj; rw [List.getElem?_set_self hjl] at hn; cases hn; rfl
        · rw [List.getElem?_set_ne (fun e => hnj e.symm)] at hn
          exact absurd (uniq n _ hn rfl) hnj
    · rw [putP_other f v hy, h3 y u]
      constructor
      · intro h
        obtain ⟨n, hn⟩ := List.mem_iff_getElem?.1 h
        have hnj : n ≠ j := fun e => by subst e; rw [hj] at hn; cases hn; exact hy rfl
        exact List.mem_of_getElem? (i := n) (by rw [List.getElem?_set_ne (fun e => hnj e.symm)]; exact hn)
      · intro h
        obtain ⟨n, hn⟩ := List.mem_iff_getElem?.1 h
        by_cases hnj : n = j
        · subst hnj; rw [List.getElem?_set_self hjl] at hn; cases hn; exact absurd rfl hy
        · rw [List.getElem?_set_ne (fun e => hnj e.symm)] at hn
          exact List.mem_of_getElem? hn
end

end Go.Proofs.YtcpmjoabhnfddaaGreat

namespace Go.Proofs.YtcpmjoabhnfddaaGreat
open Go.RowKit

def lenV : Value → Nat
  | .slice _ n _ => n
  | _ => 0
end Go.Proofs.YtcpmjoabhnfddaaGreat

namespace Go.Proofs.YtcpmjoabhnfddaaGreat
open Go.RowKit

def intV (p : Int) : Value := .int .i64 p
end Go.Proofs.YtcpmjoabhnfddaaGreat

namespace Go.Proofs.YtcpmjoabhnfddaaGreat
open Go.RowKit

def unitV (_ : Unit) : Value := .agg #[]

section
variable {w w' : World} {base b m0 mp mpar md q : Nat} {P P' : Nat → Option Int} {par : Nat → Option SArc} {dn : Nat → Option Unit} {A A' : List (Int × Int)} {t t' : Int} {F F' : Nat → Prop}
end
end Go.Proofs.YtcpmjoabhnfddaaGreat

namespace Go.Proofs.YtcpmjoabhnfddaaGreat
open Go.RowKit Go.Sort Go.Proofs

def backV (a : SArc) : Value := .agg #[.int .u32 (a.to : Int), .int .i64 (a.op : Int)]

theorem Chain.at_end {par : Nat → Option SArc} {x e : Nat} {out : List Nat} (h : Chain par x out e) (hx : par x = none) : out = [] ∧ x = e := by
  cases h with
  | nil _ => exact ⟨rfl, rfl⟩
  | cons ha _ => rw [hx] at ha; cases ha
theorem Chain.more {par : Nat → Option SArc} {x e : Nat} {out : List Nat} (h : Chain par x out e) (hx : x ≠ e) : ∃ a r, par x = some a ∧ out = a.op :: r ∧ Chain par a.to r e := by
  cases h with
  | nil _ => exact absurd rfl hx
  | cons ha hc => exact ⟨_, _, ha, rfl, hc⟩

set_option maxRecDepth 100000 in
set_option maxHeartbeats 1000000 in
theorem pathC_any (w : World) (m s x : Nat) (par f : Nat → Option SArc) (out : List Nat) (hm : FMap w m backV f) (hf : ∀ y a, par y = some a → f y = some a) (h0 : par s = none) (hc : Chain par x out s) (few : out.length ≤ 100000) :
    Calls Tryz.prog 50 #[.map (some m), .int .u32 (s : Int), .int .u32 (x : Int)] w fun en w' => ∃ v, en = .returned v ∧ w'.ownsRow w.heap.size 3 1 v out.length ((intsP out.reverse).map (Value.int .i64)) ∧ Keeps (fun _ => False) w w' := by
  obtain ⟨i0, hi0, hz0, hz1, hz2⟩ := info_parts Tryz.info3
  have HM := Lib.hid hm; have HF := Lib.hid hf; have H0 := Lib.hid h0; have HC := Lib.hid hc
  clear hm hf h0 hc
  go_enter Tryz.func50, Tryz.ntmps50
  go_wp2_with fail
  go_loopw [2, 7] (fun z v wr => ∃ (dn rest : List Nat) (y : Nat), out = dn ++ rest ∧ Chain par y rest s ∧ z = .int .u32 (y : Int) ∧ lenV v = dn.length ∧ wr.ownsRow w.heap.size 3 1 v (intsP dn).length ((intsP dn).map (Value.int .i64)) ∧ Keeps (fun _ => False) w wr)
    (fun _ v _ => out.length - lenV v)
  case atStart => exact ⟨[], out, x, rfl, HC.out, rfl, rfl, World.ownsRow_nil _ _ _ _, Keeps.refl _ _⟩
  case round =>
    obtain ⟨dn, rest, y, hout, hch, rfl, hlv, hown, hkw⟩ := hrel
    have HO := Lib.hid hown; have KW := Lib.hid hkw; have HOUT := Lib.hid hout; have HCH := Lib.hid hch; have HLV := Lib.hid hlv
    have hmw := HM.out.keeps hkw (fun h => h)
    clear hown hkw hout hch hlv
    obtain ⟨av, cv, hv⟩ := ownsRow_form1 HO.out
    subst hv
    by_cases hne : y = s
    · have hb : ((y : Int) != (s : Int)) = false := by simp [hne]
      have HPE := Lib.hid (show out = dn by
        have h1 := (HCH.out.at_end (by rw [hne]; exact H0.out)).1
        rw [HOUT.out, h1, List.append_nil])
      clear hne
      go_wp2_with fail
      refine (reverse_any _ _ _ _ (intsP dn) HO.out (by have h1 := HPE.out; subst h1; simp [intsP]; omega)).mono ?_
      rintro e' w5 ⟨rfl, hown2, hk5⟩
      have HO5 := Lib.hid hown2
      have K5 := Lib.hid (KW.out.trans' hk5 (fun b hb => .inr (World.ownsRow.lt HO.out b hb).1))
      clear hown2 hk5
      go_wp2_with fail
      go_ret
      refine ⟨_, rfl, ?_, K5.out⟩
      have h1 := HO5.out
      have h2 : (intsP dn).length = out.length := by rw [HPE.out]; simp [intsP]
      have h3 : (intsP dn).reverse = intsP out.reverse := by rw [HPE.out]; simp [intsP]
      rw [h3] at h1
      generalize (Value.slice av (intsP dn).length cv) = v at h1
      rw [h2] at h1
      exact h1
    · have hb : ((y : Int) != (s : Int)) = true := by simp; omega
      obtain ⟨a, r, hpa, hro, hcr⟩ := HCH.out.more hne
      have HCR := Lib.hid hcr
      have HOR := Lib.hid (show out = (dn ++ [a.op]) ++ r by rw [HOUT.out, hro, List.append_assoc]; rfl)
      have hlk := (hmw.look_some (P := Tryz.prog) Tryz.underlying76 Tryz.underlying77 (HF.out _ _ hpa)).2
      unfold backV at hlk
      clear hne hpa hro hcr
      have HB := Lib.hid (heap_alloc_new wr (.cells #[.int .u32 (a.to : Int), .int .i64 (a.op : Int)] 132))
      have KA := Lib.hid ((Keeps.refl (fun _ => False) wr).alloc (.cells #[.int .u32 (a.to : Int), .int .i64 (a.op : Int)] 132))
      go_upto_region 4 with fail
      generalize wr.alloc (.cells #[.int .u32 (a.to : Int), .int .i64 (a.op : Int)] 132) = w3 at KA HB ⊢
      have c0 : w3.cell? ⟨wr.heap.size, 0, none⟩ = some (.int .u32 (a.to : Int)) := by rw [cell_of_blk HB.out]; rfl
      have c1 : w3.cell? ⟨wr.heap.size, 1, none⟩ = some (.int .i64 (a.op : Int)) := by rw [cell_of_blk HB.out]; rfl
      have hO3 := KA.out.ownsRow HO.out (fun _ _ h => h)
      have hdl : (intsP dn).length < out.length := by rw [HOR.out]; simp [intsP]
      have hs3 := KA.out.size; have hsw := KW.out.size
      go_wp2_with (at_builtin; refine wpList_append_d rfl _ _ _ rfl w.heap.size 3 i0 _ 1 8 Tryz.underlying22 hi0 hz0 hz1 hz2 rfl (by omega) _ (intsP dn).length ((intsP dn).map (Value.int .i64)) (by rfl) (World.ownsRow.alloc hO3 (.cells #[.int .i64 (a.op : Int)] 3)) ⟨w3.heap.size, 0, none⟩ 1 1 [.int .i64 (a.op : Int)] (by rfl) (by rfl) ?hnews ?hone (by omega) (by unfold maxLen; omega) (by omega) (by simp; omega) (w3.heap.size + 1) (by simp) ?_)
      case hnews => exact World.news_of_block (cs := #[.int .i64 (a.op : Int)]) (t := 3) (fr := (0, 0)) (heap_alloc_new _ _)
      case hone => simp [Value.oneCell']
      intro gg cap2 w4 hown hgrow hat hlt4 hd4
      have HN := Lib.hid (show w4.ownsRow w.heap.size 3 1 (.slice (some ⟨gg, 0, none⟩) ((intsP dn).length + 1) cap2) (intsP (dn ++ [a.op])).length ((intsP (dn ++ [a.op])).map (Value.int .i64)) by
        have e1 : (intsP (dn ++ [a.op])) = intsP dn ++ [(a.op : Int)] := by simp [intsP]
        rw [e1, List.map_append, List.length_append]; exact hown)
      have HKN := Lib.hid (own_grown HO.out KW.out (KA.out.alloc (.cells #[.int .i64 (a.op : Int)] 3)) hgrow)
      have d0 : w4.cell? ⟨wr.heap.size, 0, none⟩ = some (.int .u32 (a.to : Int)) := by
        have hb4 : w4.heap[wr.heap.size]? = _ := (steady_keeps hgrow).heap ((Below.heap_alloc w3 (.cells #[.int .i64 (a.op : Int)] 3) wr.heap.size (lt_of_heap HB.out)).trans HB.out) (fun e' => by have := (World.ownsRow.lt HO.out _ e').2; omega)
        rw [cell_of_blk hb4]; rfl
      clear hown hgrow hat hd4 c0 c1 hO3 hmw
      go_wp2_with fail
      go_roundw
      case rel =>
        exact ⟨dn ++ [a.op], r, a.to, HOR.out, HCR.out, rfl, by simp [lenV, intsP], HN.out, HKN.out⟩
      case measure =>
        simp only [lenV] at *
        have h1 : (intsP dn).length = dn.length := by simp [intsP]
        omega

end Go.Proofs.YtcpmjoabhnfddaaGreat

namespace Go.Proofs.YtcpmjoabhnfddaaGreat.U
open Go.RowKit

theorem firstMin_least {A : List (Int × Int)} : ∀ {p : Int × Int}, firstMin A = some p → ∀ a ∈ A, p.2 ≤ a.2 := by
  induction A with
  | nil => intro p h; cases h
  | cons q r ih =>
    intro p h a ha
    simp only [firstMin] at h
    split at h
    · rename_i hr
      simp at h; subst h
      rw [firstMin_none.1 hr] at ha
      simp at ha; subst ha; exact Int.le_refl _
    · rename_i q' hq'
      have hi := ih hq'
      split at h
      · simp at h; subst h
        rcases List.mem_cons.1 ha with rfl | h2
        · omega
        · exact hi a h2
      · simp at h; subst h
        rcases List.mem_cons.1 ha with rfl | h2
        · exact Int.le_refl _
        · have := hi a h2; omega

end Go.Proofs.YtcpmjoabhnfddaaGreat.U

namespace Go.Proofs.YtcpmjoabhnfddaaGreat

/-- A heuristic that never says more than a way to a goal costs, and says 'infinite' only where there is none. -/
structure Adm (ops : List Wop) (L : List Nat) (acc : Nat → Bool) (H : Nat → Int) : Prop where
  lo : ∀ x ∈ L, 0 ≤ H x ∧ H x ≤ 1000000000
  low : ∀ x ∈ L, ∀ p y, runOps ops x p = some y → acc y = true → H x ≤ costN ops p ∧ H x < 1000000000

/-- The arcs that do not lead to a state without a plan. -/
def liveG (H : Nat → Int) (G : Nat → List SArc) : Nat → List SArc := fun x => (G x).filter fun a => decide (H a.to < 1000000000)
/-- The queue's keys: price and heuristic. -/
def liftA (H : Nat → Int) (A : List (Int × Int)) : List (Int × Int) := A.map fun z => (z.1, z.2 + 4096 * H z.1.toNat)

theorem liftA_drop (H : Nat → Int) (A : List (Int × Int)) (x : Int) : liftA H (A.filter fun z => z.1 != x) = (liftA H A).filter fun z => z.1 != x := by
  unfold liftA
  rw [List.filter_map]
  rfl
theorem liftA_put (H : Nat → Int) (A : List (Int × Int)) (x : Nat) (k : Int) : liftA H (putA A (x : Int) k) = putA (liftA H A) (x : Int) (k + 4096 * H x) := by
  unfold putA
  rw [← liftA_drop]
  unfold liftA
  rw [List.map_append]
  simp
theorem liftA_len (H : Nat → Int) (A : List (Int × Int)) : (liftA H A).length = A.length := by unfold liftA; rw [List.length_map]
theorem liftA_mem {H : Nat → Int} {A : List (Int × Int)} {x : Nat} {p : Int} (h : ((x : Int), p) ∈ A) : ((x : Int), p + 4096 * H x) ∈ liftA H A := by
  unfold liftA
  exact List.mem_map.2 ⟨_, h, by simp⟩

/-- What stays of a search while the arcs of the state s are looked at: the arcs in R are still to do; a goal state with a price waits. -/
structure AstI (ops : List Wop) (L : List Nat) (st : Nat) (acc : Nat → Bool) (H : Nat → Int) (P : Nat → Option Int) (par : Nat → Option SArc) (A : List (Int × Int)) (s : Nat) (R : List SArc) (dn : Nat → Option Unit) : Prop where
  i : SideI (liveG H (nextG ops L)) (fun x => x ∈ [st]) L 409601 P par A s R
  g : ∀ x p, P x = some p → acc x = true → ((x : Int), p) ∈ A
  dIn : ∀ x u, dn x = some u → x ∈ L
  way : ∀ x u, dn x = some u → ∃ r, runOps ops st r = some x ∧ ∀ q y, runOps ops st q = some y → acc y = true → wayN 4096 1 ops r + 4096 * H x ≤ wayN 4096 1 ops q
  seen : ∀ x q, P x = some q → ((x : Int), q) ∈ A ∨ ∃ u, dn x = some u

section
variable {ops : List Wop} {L : List Nat} {st : Nat} {acc : Nat → Bool} {H : Nat → Int} {P : Nat → Option Int} {par : Nat → Option SArc} {A : List (Int × Int)} {s : Nat} {R : List SArc} {dn : Nat → Option Unit}
theorem live_only : ∀ y, ∀ b ∈ liveG H (nextG ops L) y, ∃ o, ops[b.op]? = some o ∧ o.can y = true ∧ b.to = o.next y ∧ b.price = 4096 * o.cost + 1 := fun y b hb => nextG_only y b (List.mem_filter.1 hb).1
theorem live_price (h0 : ∀ o ∈ ops, 0 ≤ o.cost ∧ o.cost ≤ 100) : ∀ y, ∀ b ∈ liveG H (nextG ops L) y, 1 ≤ b.price ∧ b.price ≤ 409601 := fun y b hb => nextG_price h0 y b (List.mem_filter.1 hb).1
theorem live_in (hsh : Shut ops L) : ∀ y, ∀ b ∈ liveG H (nextG ops L) y, b.to ∈ L := fun y b hb => nextG_in hsh y b (List.mem_filter.1 hb).1

theorem AstI.start (hst : st ∈ L) (acc : Nat → Bool) : AstI ops L st acc H (startP [st]) (fun _ => none) (startA [st]) 0 [] (fun _ => none) := by
  have hi := SideI.init (G := liveG H (nextG ops L)) (L := L) (S := [st]) (C := 409601) (by decide) (fun x hx => by rw [List.mem_singleton] at hx; subst hx; exact hst) 0
  have hs : ∀ x p, startP [st] x = some p → ((x : Int), p) ∈ startA [st] := fun x p hp => by
    refine (startA_mem [st] _).2 ?_
    unfold startP at hp
    split at hp
    · rename_i hm; cases hp; exact ⟨x, hm, rfl⟩
    · cases hp
  exact ⟨hi, fun x p hp _ => hs x p hp, (fun x u h => by cases h), (fun x u h => by cases h), fun x q h => .inl (hs x q h)⟩

theorem AstI.skip {a : SArc} (h : AstI ops L st acc H P par A s (a :: R) dn) {p q : Int} (hp : P s = some p) (hq : P a.to = some q) (hle : q ≤ p + a.price) : AstI ops L st acc H P par A s R dn := ⟨h.i.skip hp hq hle, h.g, h.dIn, h.way, h.seen⟩
theorem AstI.fall {a : SArc} (h : AstI ops L st acc H P par A s (a :: R) dn) (hn : L.Nodup) (hsh : Shut ops L) (h0 : ∀ o ∈ ops, 0 ≤ o.cost ∧ o.cost ≤ 100) (ha : a ∈ liveG H (nextG ops L) s) {p : Int} (hp : P s = some p) (hlt : ∀ q, P a.to = some q → p + a.price < q) :
    AstI ops L st acc H (putP P a.to (p + a.price)) (putP par a.to ⟨a.op, a.price, s⟩) (putA A (a.to : Int) (p + a.price)) s R dn :=
  ⟨h.i.fall hn (live_price h0) (live_in hsh _ _ ha) ha hp hlt, fun y q hq hy => mem_putA.2 (by
    by_cases hya : y = a.to
    · subst hya
      rw [putP_same] at hq; cases hq
      exact .inr rfl
    · rw [putP_other _ _ hya] at hq
      exact .inl ⟨h.g y q hq hy, by simp; omega⟩), h.dIn, h.way, fun y q hq => by
    by_cases hya : y = a.to
    · subst hya
      rw [putP_same] at hq; cases hq
      exact .inl (mem_putA.2 (.inr rfl))
    · rw [putP_other _ _ hya] at hq
      rcases h.seen y q hq with h1 | h1
      · exact .inl (mem_putA.2 (.inl ⟨h1, by simp; omega⟩))
      · exact .inr h1⟩
theorem AstI.anyS {s' : Nat} (h : AstI ops L st acc H P par A s [] dn) : AstI ops L st acc H P par A s' [] dn := ⟨h.i.anyS, h.g, h.dIn, h.way, h.seen⟩

/-- On the way to a goal state: a state waits, or the goal state has its price. -/
theorem frontH (hsh : Shut ops L) (ad : Adm ops L acc H) (h : AstI ops L st acc H P par A s [] dn) : ∀ {p : List Nat} {x y : Nat} {q c : Int}, P x = some q → q ≤ c → runOps ops x p = some y → acc y = true →
    (∃ p1 p2 z k, p = p1 ++ p2 ∧ runOps ops z p2 = some y ∧ z ∈ L ∧ ((z : Int), k) ∈ A ∧ k ≤ c + wayN 4096 1 ops p1) ∨ (∃ k, P y = some k ∧ k ≤ c + wayN 4096 1 ops p)
  | [], x, y, q, c, hq, hc, hr, _ => by cases hr; exact .inr ⟨q, hq, by rw [wayN_nil]; omega⟩
  | a :: p, x, y, q, c, hq, hc, hr, hy => by
    have hxL := h.i.dom x q hq
    rcases h.i.pend x q hq with h1 | h1
    · exact .inl ⟨[], a :: p, x, q, rfl, hr, hxL, h1, by rw [wayN_nil]; omega⟩
    · rw [runOps] at hr
      cases ho : ops[a]? with
      | none => rw [ho] at hr; cases hr
      | some o =>
        rw [ho] at hr; simp only at hr
        by_cases hcan : o.can x = true
        · rw [if_pos hcan] at hr
          have hnL := hsh.2 x hxL o (List.mem_of_getElem? ho) hcan
          have hlive := (ad.low _ hnL p y hr hy).2
          rcases h1 _ (List.mem_filter.2 ⟨nextG_all x o a hxL ho hcan, by simpa using hlive⟩) with ⟨q', hq', hle⟩ | ⟨_, h2⟩
          · have e1 : ∀ r, wayN 4096 1 ops (a :: r) = (4096 * o.cost + 1) + wayN 4096 1 ops r := fun r => by
              rw [show a :: r = [a] ++ r from rfl, wayN_append, wayN_one ho]
            simp only at hq' hle
            rcases frontH hsh ad h (c := c + (4096 * o.cost + 1)) hq' (by omega) hr hy with ⟨p1, p2, z, k, e, g1, g2, g3, g4⟩ | ⟨k, g1, g2⟩
            · exact .inl ⟨a :: p1, p2, z, k, by rw [e]; rfl, g1, g2, g3, by rw [e1]; omega⟩
            · exact .inr ⟨k, g1, by rw [e1]; omega⟩
          · simp at h2
        · rw [if_neg hcan] at hr; cases hr

/-- What is taken is worth no more than any plan. -/
theorem min_key (hsh : Shut ops L) (ad : Adm ops L acc H) (h : AstI ops L st acc H P par A s [] dn) {x : Nat} {k : Int} (hx : U.firstMin (liftA H A) = some ((x : Int), k)) : ∀ q y, runOps ops st q = some y → acc y = true → k ≤ wayN 4096 1 ops q := fun q y hr hy => by
  have hleast := U.firstMin_least hx
  simp only at hleast
  rcases frontH hsh ad h (h.i.start st (List.mem_singleton.2 rfl)).1 (Int.le_refl _) hr hy with ⟨p1, p2, z, k', e, g1, g2, g3, g4⟩ | ⟨k', g1, g2⟩
  · have h1 := hleast _ (liftA_mem (H := H) g3)
    simp only at h1
    have h2 := (ad.low z g2 p2 y g1 hy).1
    rw [e, wayN_append]
    have h3 : wayN 4096 1 ops p2 = 4096 * costN ops p2 + (p2.length : Int) := wayN_split ops p2
    omega
  · have h1 := hleast _ (liftA_mem (H := H) (h.g y k' g1 hy))
    simp only at h1
    have h2 := (ad.low y (h.i.dom _ _ g1) [] y rfl hy).1
    have h3 : costN ops [] = 0 := rfl
    omega
theorem AstI.take (hsh : Shut ops L) (h0 : ∀ o ∈ ops, 0 ≤ o.cost ∧ o.cost ≤ 100) (ad : Adm ops L acc H) (h : AstI ops L st acc H P par A s [] dn) {x : Nat} {p : Int} (hx : U.firstMin (liftA H A) = some ((x : Int), p + 4096 * H x)) (hp : P x = some p) (ha : acc x = false) :
    AstI ops L st acc H P par (A.filter fun z => z.1 != (x : Int)) x (liveG H (nextG ops L) x) (putP dn x ()) := by
  have hne : ∀ y, y ≠ x → ∀ q, ((y : Int), q) ∈ A → ((y : Int), q) ∈ A.filter fun z => z.1 != (x : Int) := fun y hy q hq => List.mem_filter.2 ⟨hq, by simp; omega⟩
  refine ⟨h.i.take hp, fun y q hq hy => hne y (fun e => by subst e; rw [ha] at hy; cases hy) q (h.g y q hq hy), fun y u hy => ?_, fun y u hy => ?_, fun y q hq => ?_⟩
  · by_cases e : y = x
    · rw [e]; exact h.i.dom x p hp
    · rw [putP_other _ _ e] at hy; exact h.dIn y u hy
  · by_cases e : y = x
    · subst e
      have cf : ∀ y, ∀ b ∈ liveG H (nextG ops L) y, 1 ≤ b.price := fun y b hb => (live_price h0 y b hb).1
      obtain ⟨out, e, hc, hes, hl⟩ := h.i.back cf hp
      rw [List.mem_singleton] at hes
      subst hes
      obtain ⟨r1, w1⟩ := h.i.chainF live_only hc hp
      exact ⟨_, r1, fun q z hr hz => by have := min_key hsh ad h hx q z hr hz; omega⟩
    · rw [putP_other _ _ e] at hy; exact h.way y u hy
  · by_cases e : y = x
    · exact .inr ⟨(), by rw [e, putP_same]⟩
    · rcases h.seen y q hq with h1 | ⟨u, h1⟩
      · exact .inl (hne y e q h1)
      · exact .inr ⟨u, by rw [putP_other _ _ e]; exact h1⟩

/-- What the expanded states D of a search must be, when a plan of price p is found: none is worth more, and those on cheaper ways are all there. -/
def ExpOk (ops : List Wop) (L : List Nat) (st : Nat) (H : Nat → Int) (p : Int) (D : Nat → Bool) : Prop :=
  (∀ x ∈ L, D x = true → ∃ r, runOps ops st r = some x ∧ wayN 4096 1 ops r + 4096 * H x ≤ p) ∧
  (∀ r x, runOps ops st r = some x → (∀ k y, k ≤ r.length → runOps ops st (r.take k) = some y → wayN 4096 1 ops (r.take k) + 4096 * H y < p) → D x = true)

/-- Nothing waits any more: there is no plan. -/
theorem ast_none (hsh : Shut ops L) (ad : Adm ops L acc H) (h : AstI ops L st acc H P par [] s [] dn) : LeastOf 4096 1 ops st acc (-1) := by
  refine .inl ⟨rfl, fun p y hr => ?_⟩
  cases hy : acc y with
  | false => rfl
  | true =>
    have h0 := (h.i.start st (List.mem_singleton.2 rfl)).1
    rcases frontH hsh ad h h0 (Int.le_refl _) hr hy with ⟨_, _, _, _, _, _, _, h1, _⟩ | ⟨k, hk, _⟩
    · simp at h1
    · have := h.g y k hk hy; simp at this
/-- The start is without a plan. -/
theorem ast_dead (ad : Adm ops L acc H) (hst : st ∈ L) (h : 1000000000 ≤ H st) : LeastOf 4096 1 ops st acc (-1) := by
  refine .inl ⟨rfl, fun p y hr => ?_⟩
  cases hy : acc y with
  | false => rfl
  | true => have := (ad.low st hst p y hr hy).2; omega

/-- A goal state is first: the way to it is best. -/
theorem ast_found (hsh : Shut ops L) (h0 : ∀ o ∈ ops, 0 ≤ o.cost ∧ o.cost ≤ 100) (ad : Adm ops L acc H) (h : AstI ops L st acc H P par A s [] dn) {x : Nat} {k : Int} (hx : U.firstMin (liftA H A) = some ((x : Int), k)) (ha : acc x = true) :
    ∃ p out, P x = some p ∧ Chain par x out st ∧ out.length ≤ L.length ∧ runOps ops st out.reverse = some x ∧ wayN 4096 1 ops out.reverse = p ∧ LeastOf 4096 1 ops st acc p := by
  have hm := U.firstMin_mem hx
  unfold liftA at hm
  obtain ⟨⟨x', p⟩, hxp, he⟩ := List.mem_map.1 hm
  simp only [Prod.mk.injEq] at he
  obtain ⟨rfl, hk⟩ := he
  obtain ⟨x1, hx1, hP⟩ := h.i.key _ hxp
  have hx2 : x1 = x := by simp only at hx1; omega
  subst hx2
  simp only at hP
  have hxL := h.i.dom _ _ hP
  have goal0 : ∀ y ∈ L, acc y = true → H y = 0 := fun y hy hay => by
    have h1 := (ad.low y hy [] y rfl hay).1
    have h2 := (ad.lo y hy).1
    have h3 : costN ops [] = 0 := rfl
    omega
  have hHx := goal0 _ hxL ha
  rw [Int.toNat_natCast, hHx] at hk
  have hleast := U.firstMin_least hx
  simp only at hleast
  have low : ∀ q y, runOps ops st q = some y → acc y = true → p ≤ wayN 4096 1 ops q := fun q y hr hy => by
    rcases frontH hsh ad h (h.i.start st (List.mem_singleton.2 rfl)).1 (Int.le_refl _) hr hy with ⟨p1, p2, z, k', e, g1, g2, g3, g4⟩ | ⟨k', g1, g2⟩
    · have h1 := hleast _ (liftA_mem (H := H) g3)
      simp only at h1
      have h2 := (ad.low z g2 p2 y g1 hy).1
      rw [e, wayN_append]
      have h3 : wayN 4096 1 ops p2 = 4096 * costN ops p2 + (p2.length : Int) := wayN_split ops p2
      omega
    · have h1 := hleast _ (liftA_mem (H := H) (h.g y k' g1 hy))
      simp only at h1
      have h2 := goal0 y (h.i.dom _ _ g1) hy
      rw [h2] at h1
      omega
  have cf : ∀ y, ∀ b ∈ liveG H (nextG ops L) y, 1 ≤ b.price := fun y b hb => (live_price h0 y b hb).1
  obtain ⟨out, e, hc, hes, hl⟩ := h.i.back cf hP
  rw [List.mem_singleton] at hes
  subst hes
  obtain ⟨r1, w1⟩ := h.i.chainF live_only hc hP
  have hp0 := (h.i.lo _ _ hP).1
  have heq : wayN 4096 1 ops out.reverse = p := by have := low _ _ r1 ha; omega
  exact ⟨p, out, hP, hc, hl, r1, heq, .inr ⟨hp0, ⟨_, _, r1, ha, heq⟩, fun q y hr hy => low q y hr hy⟩⟩
/-- The expanded states when a goal state is first. -/
theorem exp_found (hsh : Shut ops L) (h0 : ∀ o ∈ ops, 0 ≤ o.cost ∧ o.cost ≤ 100) (ad : Adm ops L acc H) (h : AstI ops L st acc H P par A s [] dn) {x : Nat} {k p : Int} (hx : U.firstMin (liftA H A) = some ((x : Int), k)) (ha : acc x = true) (hp : P x = some p) (hbig : p ≤ 4096000000000) {q : List Nat} {y : Nat} (hr : runOps ops st q = some y) (hy : acc y = true) (hw : wayN 4096 1 ops q = p) :
    ExpOk ops L st H p (fun z => (dn z).isSome) := by
  refine ⟨fun z _ hz => ?_, fun r z hrz hpre => ?_⟩
  · obtain ⟨u, hu⟩ := Option.isSome_iff_exists.1 hz
    obtain ⟨r, h1, h2⟩ := h.way z u hu
    exact ⟨r, h1, by have := h2 q y hr hy; omega⟩
  · have hm := U.firstMin_mem hx
    unfold liftA at hm
    obtain ⟨⟨x', p'⟩, hxp, he⟩ := List.mem_map.1 hm
    simp only [Prod.mk.injEq] at he
    obtain ⟨rfl, hk⟩ := he
    obtain ⟨x1, hx1, hP⟩ := h.i.key _ hxp
    have hx2 : x1 = x := by simp only at hx1; omega
    subst hx2
    simp only at hP
    rw [hp] at hP; cases hP
    have hHx : H x1 = 0 := by
      have h1 := (ad.low x1 (h.i.dom _ _ hp) [] x1 rfl ha).1
      have h2 := (ad.lo x1 (h.i.dom _ _ hp)).1
      have h3 : costN ops [] = 0 := rfl
      omega
    rw [Int.toNat_natCast, hHx] at hk
    have hleast := U.firstMin_least hx
    simp only at hleast
    have out : ∀ y1 q1, P y1 = some q1 → q1 + 4096 * H y1 < p → ((y1 : Int), q1) ∉ A := fun y1 q1 _ hlt hm => by
      have := hleast _ (liftA_mem (H := H) hm)
      simp only at this; omega
    have key : ∀ n, n ≤ r.length → ∀ y1, runOps ops st (r.take n) = some y1 → ∃ q1, P y1 = some q1 ∧ q1 ≤ wayN 4096 1 ops (r.take n) := by
      intro n
      induction n with
      | zero =>
        intro _ y1 h1
        rw [List.take_zero] at h1
        cases h1
        exact ⟨0, (h.i.start st (List.mem_singleton.2 rfl)).1, by rw [List.take_zero, wayN_nil]; omega⟩
      | succ n ih =>
        intro hn y1 h1
        obtain ⟨a, hra⟩ : ∃ a, r[n]? = some a := ⟨_, List.getElem?_eq_getElem (by omega)⟩
        have het : r.take (n + 1) = r.take n ++ [a] := by
          rw [List.take_add_one, hra]; rfl
        have hcond := hpre (n + 1) y1 hn h1
        rw [het] at h1
        obtain ⟨y0, o, g1, g2, g3, g4⟩ := runOps_snoc h1
        obtain ⟨q0, hq0, hle0⟩ := ih (by omega) y0 g1
        have hc0 := hpre n y0 (by omega) g1
        have hL0 := h.i.dom y0 q0 hq0
        have hnL := hsh.2 y0 hL0 o (List.mem_of_getElem? g2) g3
        have hw1 : wayN 4096 1 ops (r.take (n + 1)) = wayN 4096 1 ops (r.take n) + (4096 * o.cost + 1) := by rw [het, wayN_append, wayN_one g2]
        have hc := h0 o (List.mem_of_getElem? g2)
        have hHn := ad.lo _ hnL
        have hlow := (h.i.lo y0 q0 hq0).1
        rcases h.i.pend y0 q0 hq0 with h2 | h2
        · exact absurd h2 (out y0 q0 hq0 (by omega))
        · subst g4
          rcases h2 _ (List.mem_filter.2 ⟨nextG_all y0 o a hL0 g2 g3, by
              have : H (o.next y0) < 1000000000 := by omega
              simpa using this⟩) with ⟨q', hq', hle⟩ | ⟨_, h3⟩
          · simp only at hq' hle
            exact ⟨q', hq', by omega⟩
          · simp at h3
    rw [← List.take_length (l := r)] at hrz
    obtain ⟨q1, hq1, hle1⟩ := key r.length (Nat.le_refl _) z hrz
    have hcz := hpre r.length z (Nat.le_refl _) hrz
    rcases h.seen z q1 hq1 with h2 | ⟨u, h2⟩
    · exact absurd h2 (out z q1 hq1 (by omega))
    · show (dn z).isSome = true
      rw [h2]; rfl
end

end Go.Proofs.YtcpmjoabhnfddaaGreat

namespace Go.Proofs.YtcpmjoabhnfddaaGreat
open Go.RowKit

theorem SideI.few {G : Nat → List SArc} {S0 : Nat → Prop} {L : List Nat} {C : Int} {P : Nat → Option Int} {par : Nat → Option SArc} {A : List (Int × Int)} {s : Nat} {R : List SArc} (h : SideI G S0 L C P par A s R) (hn : (A.map Prod.fst).Nodup) : A.length ≤ L.length := by
  have h1 : (A.map fun p => p.1.toNat).Nodup := by
    unfold List.Nodup at hn ⊢
    rw [List.pairwise_map] at hn ⊢
    refine hn.imp_of_mem (fun {a b} ha hb hab e => hab ?_)
    obtain ⟨x, hx, _⟩ := h.key a ha
    obtain ⟨y, hy, _⟩ := h.key b hb
    rw [hx, hy] at e ⊢
    have e' : x = y := by simpa using e
    rw [e']
  have h2 := nodup_sub_length h1 (b := L) (fun x hx => by
    obtain ⟨p, hp, rfl⟩ := List.mem_map.1 hx
    obtain ⟨y, hy, hP⟩ := h.key p hp
    rw [hy]
    exact h.dom _ _ hP)
  simpa using h2

end Go.Proofs.YtcpmjoabhnfddaaGreat

namespace Go.Proofs.YtcpmjoabhnfddaaGreat
open Go.RowKit Go.Shelf

theorem FMap.not_deferred {α : Type} {w : World} {b : Nat} {enc : α → Value} {f : Nat → Option α} (h : FMap w b enc f) : w.heap[b]? ≠ some (.deferred (some [])) := by
  obtain ⟨es, c, hb⟩ := h.map_block
  rw [hb]; intro e; cases e

section
variable {fl : Bool} {B bf bb bfo bbe bat : Nat} {W W1 : World} {b m0 mp mr md q : Nat} {G : Nat → List SArc} {FG : Nat → Prop} {P : Nat → Option Int} {par : Nat → Option SArc} {dn : Nat → Option Unit} {A : List (Int × Int)} {t : Int} {F : Nat → Prop}
    {b' m0' mp' mr' md' q' : Nat} {G' : Nat → List SArc} {FG' : Nat → Prop} {P' : Nat → Option Int} {par' : Nat → Option SArc} {dn' : Nat → Option Unit} {A' : List (Int × Int)} {t' : Int} {F' : Nat → Prop} {found : Bool} {best : Int} {at_ : Nat}
end

end Go.Proofs.YtcpmjoabhnfddaaGreat

namespace Go.Proofs.YtcpmjoabhnfddaaGreat
open Go.RowKit Go.Shelf

theorem startW (L gs : List Nat) (m : Nat) : weightB L m (startP gs) ≤ L.length * m := by
  unfold weightB
  induction L with
  | nil => simp
  | cons x r ih =>
    rw [List.map_cons, List.sum_cons, List.length_cons, Nat.add_mul, Nat.one_mul, Nat.add_comm]
    refine Nat.add_le_add ih ?_
    unfold startP
    by_cases h : x ∈ gs
    · rw [if_pos h]; exact Nat.zero_le _
    · rw [if_neg h]; exact Nat.le_refl _
end Go.Proofs.YtcpmjoabhnfddaaGreat

namespace Go.Proofs.YtcpmjoabhnfddaaGreat
open Go.RowKit

/-- The three maps and the queue of a search, each apart from the others. -/
structure AstM (w : World) (base mp mr md q : Nat) (P : Nat → Option Int) (fp : Nat → Option SArc) (dn : Nat → Option Unit) (A : List (Int × Int)) (t : Int) (F : Nat → Prop) : Prop where
  price : FMap w mp intV P
  par_ : FMap w mr backV fp
  done : FMap w md unitV dn
  q : U.QRep w q A t F
  lF : ∀ k, F k → base ≤ k ∧ k < w.heap.size ∧ k ≠ mp ∧ k ≠ mr ∧ k ≠ md
  lp : base ≤ mp
  lr : base ≤ mr
  ld : base ≤ md
  n1 : mp ≠ mr
  n2 : mp ≠ md
  n3 : mr ≠ md

section
variable {w w' : World} {base mp mr md q : Nat} {P P' : Nat → Option Int} {fp fp' : Nat → Option SArc} {dn dn' : Nat → Option Unit} {A A' : List (Int × Int)} {t t' : Int} {F F' : Nat → Prop}
theorem AstM.priced (h : AstM w base mp mr md q P fp dn A t F) (hk : Keeps (fun k => k = mp) w w') (hp : FMap w' mp intV P') : AstM w' base mp mr md q P' fp dn A t F :=
  ⟨hp, h.par_.keeps hk (fun e => h.n1 e.symm), h.done.keeps hk (fun e => h.n2 e.symm), h.q.keeps hk (fun k hF e => (h.lF k hF).2.2.1 e),
   fun k hF => ⟨(h.lF k hF).1, Nat.lt_of_lt_of_le (h.lF k hF).2.1 hk.size, (h.lF k hF).2.2⟩, h.lp, h.lr, h.ld, h.n1, h.n2, h.n3⟩
theorem AstM.pard (h : AstM w base mp mr md q P fp dn A t F) (hk : Keeps (fun k => k = mr) w w') (hp : FMap w' mr backV fp') : AstM w' base mp mr md q P fp' dn A t F :=
  ⟨h.price.keeps hk (fun e => h.n1 e), hp, h.done.keeps hk (fun e => h.n3 e.symm), h.q.keeps hk (fun k hF e => (h.lF k hF).2.2.2.1 e),
   fun k hF => ⟨(h.lF k hF).1, Nat.lt_of_lt_of_le (h.lF k hF).2.1 hk.size, (h.lF k hF).2.2⟩, h.lp, h.lr, h.ld, h.n1, h.n2, h.n3⟩
theorem AstM.doned (h : AstM w base mp mr md q P fp dn A t F) (hk : Keeps (fun k => k = md) w w') (hp : FMap w' md unitV dn') : AstM w' base mp mr md q P fp dn' A t F :=
  ⟨h.price.keeps hk (fun e => h.n2 e), h.par_.keeps hk (fun e => h.n3 e), hp, h.q.keeps hk (fun k hF e => (h.lF k hF).2.2.2.2 e),
   fun k hF => ⟨(h.lF k hF).1, Nat.lt_of_lt_of_le (h.lF k hF).2.1 hk.size, (h.lF k hF).2.2⟩, h.lp, h.lr, h.ld, h.n1, h.n2, h.n3⟩
theorem AstM.queued (h : AstM w base mp mr md q P fp dn A t F) (hk : Keeps F w w') (hq : U.QRep w' q A' t' F') (hF : ∀ k, F' k → F k ∨ w.heap.size ≤ k) (hb : base ≤ w.heap.size) : AstM w' base mp mr md q P fp dn A' t' (fun k => F' k ∧ k < w'.heap.size) := by
  have lp := h.price.lt
  have lr := h.par_.lt
  have ld := h.done.lt
  refine ⟨h.price.keeps hk (fun e => (h.lF mp e).2.2.1 rfl), h.par_.keeps hk (fun e => (h.lF mr e).2.2.2.1 rfl), h.done.keeps hk (fun e => (h.lF md e).2.2.2.2 rfl),
    U.QRep.mono hq (fun k hk' hF' => ⟨hF', hk'⟩), fun k hF' => ?_, h.lp, h.lr, h.ld, h.n1, h.n2, h.n3⟩
  rcases hF k hF'.1 with h1 | h1
  · exact ⟨(h.lF k h1).1, hF'.2, (h.lF k h1).2.2⟩
  · exact ⟨by omega, hF'.2, by omega, by omega, by omega⟩
theorem AstM.keeps {S : Nat → Prop} (h : AstM w base mp mr md q P fp dn A t F) (hk : Keeps S w w') (h1 : ¬ S mp) (h2 : ¬ S mr) (h3 : ¬ S md) (hF : ∀ k, F k → ¬ S k) : AstM w' base mp mr md q P fp dn A t F :=
  ⟨h.price.keeps hk h1, h.par_.keeps hk h2, h.done.keeps hk h3, h.q.keeps hk hF, fun k hF => ⟨(h.lF k hF).1, Nat.lt_of_lt_of_le (h.lF k hF).2.1 hk.size, (h.lF k hF).2.2⟩, h.lp, h.lr, h.ld, h.n1, h.n2, h.n3⟩
theorem AstM.keeps0 (h : AstM w base mp mr md q P fp dn A t F) (hk : Keeps (fun _ => False) w w') : AstM w' base mp mr md q P fp dn A t F :=
  h.keeps hk (fun h => h) (fun h => h) (fun h => h) (fun _ _ h => h)
theorem AstM.low {S : Nat → Prop} (h : AstM w base mp mr md q P fp dn A t F) (hk : Keeps S w w') (hS : ∀ k, S k → k < base) : AstM w' base mp mr md q P fp dn A t F :=
  h.keeps hk (fun e => by have := hS _ e; have := h.lp; omega) (fun e => by have := hS _ e; have := h.lr; omega) (fun e => by have := hS _ e; have := h.ld; omega) (fun k hF e => by have := hS _ e; have := (h.lF k hF).1; omega)
theorem AstM.live (h : AstM w base mp mr md q P fp dn A t F) : AstM w base mp mr md q P fp dn A t (fun k => F k ∧ k < w.heap.size ∧ w.heap[k]? ≠ some (.deferred (some []))) :=
  { h with q := h.q.live, lF := fun k hk => h.lF k hk.1 }
end

/-- A heuristic as a function value: H is what it says of the states of L; it keeps its own memory between n0 and B, of which it changes the blocks FH. -/
structure Heur (g : Nat) (pa cb : Array Value) (L : List Nat) (H : Nat → Int) (n0 B : Nat) (FH : Nat → Prop) (I : World → Prop) : Prop where
  enters : ∀ args w, (callFunc g args).run Tryz.prog w = .ok (.enter g args) w
  answers : ∀ W x, I W → x ∈ L → Calls Tryz.prog g (pa.push (.int .u32 (x : Int)) ++ cb) W fun e W' => e = .returned (.int .i64 (H x)) ∧ I W' ∧ Keeps FH W W'
  steady : ∀ {S : Nat → Prop} {W W' : World}, I W → Keeps S W W' → (∀ k, S k → B ≤ k) → I W'
  nd : ∀ {W : World} {k : Nat}, I W → FH k → W.heap[k]? ≠ some (.deferred (some []))
  lo : ∀ k, FH k → n0 ≤ k ∧ k < B

/-- The map of the parents: the start has itself, the others what the search says. -/
def parF (st : Nat) (par : Nat → Option SArc) : Nat → Option SArc := fun x => if x = st then some ⟨0, 0, st⟩ else par x
theorem parF_put {st : Nat} {par : Nat → Option SArc} {x : Nat} {a : SArc} (h : x ≠ st) : putP (parF st par) x a = parF st (putP par x a) := by
  funext y
  unfold putP parF
  by_cases h1 : y = x
  · subst h1; simp [h]
  · simp [h1]
theorem parF_of {st : Nat} {par : Nat → Option SArc} (h0 : par st = none) : ∀ y a, par y = some a → parF st par y = some a := fun y a h => by
  unfold parF
  rw [if_neg (fun e => by subst e; rw [h0] at h; cases h)]
  exact h
theorem parF_start (st : Nat) : putP (fun _ => none) st (⟨0, 0, st⟩ : SArc) = parF st (fun _ => none) := by
  funext y
  unfold putP parF
  rfl

end Go.Proofs.YtcpmjoabhnfddaaGreat

namespace Go.Proofs.YtcpmjoabhnfddaaGreat
open Go.RowKit Go.Shelf

theorem method_Goal (a : Addr) (w : World) : (method 368 66 (.pointer (some a)) "Goal").run Tryz.prog w = .ok (111, .pointer (some a)) w := by kernel_rfl

theorem FMap.len {α : Type} {w : World} {b : Nat} {enc : α → Value} {f : Nat → Option α} (h : FMap w b enc f) {L : List Nat} (hL : ∀ x v, f x = some v → x ∈ L) {P : Program} {t k e : TypeId} (ht : P.underlying t = some (.map k e)) (ty : TypeId) :
    ∃ n : Nat, n ≤ L.length ∧ (Builtin.len_ #[t] ty #[.map (some b)]).run P w = .ok (.int .i64 (n : Int)) w := by
  obtain ⟨l, h1, h2, h3⟩ := h
  refine ⟨l.length, ?_, by have := h1.run_len (P := P) ht ty; rwa [List.length_map] at this⟩
  have := nodup_sub_length (b := L) h2 (fun x hx => by
    obtain ⟨p, hp, rfl⟩ := List.mem_map.1 hx
    exact hL p.1 p.2 ((h3 _ _).2 hp))
  rwa [List.length_map] at this

theorem FMap.lenN {w : World} {b : Nat} {f : Nat → Option Unit} (h : FMap w b unitV f) {L : List Nat} (hn : L.Nodup) (hL : ∀ x v, f x = some v → x ∈ L) {P : Program} {t k e : TypeId} (ht : P.underlying t = some (.map k e)) (ty : TypeId) :
    (Builtin.len_ #[t] ty #[.map (some b)]).run P w = .ok (.int .i64 (((L.filter fun x => (f x).isSome).length : Nat) : Int)) w := by
  obtain ⟨l, h1, h2, h3⟩ := h
  have hr := h1.run_len (P := P) ht ty
  rw [List.length_map] at hr
  have e1 := nodup_sub_length (b := L.filter fun x => (f x).isSome) h2 (fun x hx => by
    obtain ⟨p, hp, rfl⟩ := List.mem_map.1 hx
    have h4 := (h3 _ _).2 hp
    exact List.mem_filter.2 ⟨hL p.1 p.2 h4, by rw [h4]; rfl⟩)
  have e2 := nodup_sub_length (b := l.map Prod.fst) (hn.filter fun x => (f x).isSome) (fun x hx => by
    obtain ⟨_, h5⟩ := List.mem_filter.1 hx
    obtain ⟨u, hu⟩ := Option.isSome_iff_exists.1 h5
    exact List.mem_map.2 ⟨(x, u), (h3 _ _).1 hu, rfl⟩)
  rw [List.length_map] at e1 e2
  rw [show (L.filter fun x => (f x).isSome).length = l.length by omega]
  exact hr
theorem WordsAt.past {w00 W : World} {base b s g : Nat} {v : Value} {ops : List Wop} (h : WordsAt w00 base b s g v ops) (hk : Keeps (fun _ => False) w00 W) : WordsAt W base b s g v ops := h.keeps0 hk

/-- A block that is neither one of deferred calls nor a step's. -/
def Clean (W : World) (k : Nat) : Prop := W.heap[k]? ≠ some (.deferred (some [])) ∧ ∀ cs fr, W.heap[k]? ≠ some (.cells cs 156 fr)
theorem Clean.keeps {S : Nat → Prop} {W W' : World} {k : Nat} (h : Clean W k) (hk : Keeps S W W') (hl : k < W.heap.size) (hs : ¬ S k) : Clean W' k := by
  have e := hk.block k hl hs
  exact ⟨by rw [e]; exact h.1, fun cs fr => by rw [e]; exact h.2 cs fr⟩
theorem U.QRep.clean {w : World} {Q : Nat} {A : List (Int × Int)} {t : Int} {F : Nat → Prop} (h : U.QRep w Q A t F) : U.QRep w Q A t (fun b => F b ∧ b < w.heap.size ∧ Clean w b) := by
  obtain ⟨v, Mb, l, L, E, h⟩ := h
  refine ⟨v, Mb, l, L, E, { h with fQ := ⟨h.fQ, h.lt.1, cells_not_deferred h.q, fun cs fr e => ?_⟩, fM := ⟨h.fM, h.lt.2.1, map_not_deferred h.mp, fun cs fr e => ?_⟩, fH := fun b hb => ⟨h.fH b hb, h.lt.2.2 b hb, ?_⟩ }⟩
  · have hq := h.q
    unfold U.QBlk at hq
    rw [hq] at e; simp at e
  · obtain ⟨es, c, hb, _⟩ := h.mp
    rw [hb] at e; cases e
  · rcases hb with hb | ⟨e, he, rfl⟩
    · refine ⟨row_not_deferred h.rep.row b hb, fun cs fr e => ?_⟩
      rcases h.rep.row.2 with ⟨hv, _⟩ | ⟨g, cap, cur, hv, _, hg, _⟩
      · rw [hv] at hb; simp [Value.ownBlock] at hb
      · rw [hv] at hb; simp [Value.ownBlock] at hb
        subst hb; rw [hg] at e; simp at e
    · obtain ⟨j, hj⟩ := List.mem_iff_getElem?.1 he
      refine ⟨cells_not_deferred (h.rep.ent j e hj), fun cs fr e' => ?_⟩
      rw [h.rep.ent j e hj] at e'; simp at e'

/-- What Best holds: the heuristic's own memory, the three maps and the queue, and the boxes of the variables that the loop's body names. -/
structure BestM (w : World) (FH : Nat → Prop) (I : World → Prop) (fn : Value) (b3 b8 b9 b10 mp mr md q : Nat) (P : Nat → Option Int) (fp : Nat → Option SArc) (dn : Nat → Option Unit) (A : List (Int × Int)) (t : Int) (F : Nat → Prop) (W : World) : Prop where
  keep : Keeps FH w W
  hI : I W
  m : AstM W w.heap.size mp mr md q P fp dn A t F
  x3 : Boxed W b3 72 fn
  x8 : Boxed W b8 75 (.map (some mp))
  x9 : Boxed W b9 76 (.map (some mr))
  x10 : Boxed W b10 122 (.pointer (some ⟨q, 0, none⟩))
  l3 : w.heap.size ≤ b3
  l8 : w.heap.size ≤ b8
  l9 : w.heap.size ≤ b9
  l10 : w.heap.size ≤ b10
  fb : ∀ k, F k → k ≠ b3 ∧ k ≠ b8 ∧ k ≠ b9 ∧ k ≠ b10

section
variable {w W W' : World} {L : List Nat} {H : Nat → Int} {gh n0 : Nat} {pa cb : Array Value} {FH : Nat → Prop} {I : World → Prop} {fn : Value} {b3 b8 b9 b10 mp mr md q : Nat} {P P' : Nat → Option Int} {fp fp' : Nat → Option SArc} {dn dn' : Nat → Option Unit} {A A' : List (Int × Int)} {t t' : Int} {F F' : Nat → Prop}
theorem BestM.by {S : Nat → Prop} (hh : Heur gh pa cb L H n0 w.heap.size FH I) (h : BestM w FH I fn b3 b8 b9 b10 mp mr md q P fp dn A t F W) (hk : Keeps S W W') (hS : ∀ k, S k → w.heap.size ≤ k) (c3 : ¬ S b3) (c8 : ¬ S b8) (c9 : ¬ S b9) (c10 : ¬ S b10) (e1 : ¬ S mp) (e2 : ¬ S mr) (e3 : ¬ S md) (e4 : ∀ k, F k → ¬ S k) :
    BestM w FH I fn b3 b8 b9 b10 mp mr md q P fp dn A t F W' :=
  ⟨h.keep.trans' hk (fun i hi => .inr (hS i hi)), hh.steady h.hI hk hS, h.m.keeps hk e1 e2 e3 e4, hk.heap h.x3 c3, hk.heap h.x8 c8, hk.heap h.x9 c9, hk.heap h.x10 c10, h.l3, h.l8, h.l9, h.l10, h.fb⟩
theorem BestM.keeps0 (hh : Heur gh pa cb L H n0 w.heap.size FH I) (h : BestM w FH I fn b3 b8 b9 b10 mp mr md q P fp dn A t F W) (hk : Keeps (fun _ => False) W W') : BestM w FH I fn b3 b8 b9 b10 mp mr md q P fp dn A t F W' :=
  h.by hh hk (fun _ h => h.elim) (fun h => h) (fun h => h) (fun h => h) (fun h => h) (fun h => h) (fun h => h) (fun h => h) (fun _ _ h => h)
/-- The heuristic has been asked. -/
theorem BestM.asked (hh : Heur gh pa cb L H n0 w.heap.size FH I) (h : BestM w FH I fn b3 b8 b9 b10 mp mr md q P fp dn A t F W) (hk : Keeps FH W W') (hI : I W') : BestM w FH I fn b3 b8 b9 b10 mp mr md q P fp dn A t F W' := by
  have no : ∀ k, w.heap.size ≤ k → ¬ FH k := fun k hk h => by have := (hh.lo k h).2; omega
  exact ⟨h.keep.trans hk, hI, h.m.low hk (fun k h => (hh.lo k h).2), hk.heap h.x3 (no _ h.l3), hk.heap h.x8 (no _ h.l8), hk.heap h.x9 (no _ h.l9), hk.heap h.x10 (no _ h.l10), h.l3, h.l8, h.l9, h.l10, h.fb⟩
theorem BestM.boxes (h : BestM w FH I fn b3 b8 b9 b10 mp mr md q P fp dn A t F W) {j : Nat} (hj : ∀ {g : Nat} {cs : Array Value} {T : TypeId} {fr : Nat × Nat}, W.heap[g]? = some (.cells cs T fr) → j ≠ g) : b3 ≠ j ∧ b8 ≠ j ∧ b9 ≠ j ∧ b10 ≠ j :=
  ⟨(hj h.x3).symm, (hj h.x8).symm, (hj h.x9).symm, (hj h.x10).symm⟩
theorem BestM.priced (hh : Heur gh pa cb L H n0 w.heap.size FH I) (h : BestM w FH I fn b3 b8 b9 b10 mp mr md q P fp dn A t F W) (hk : Keeps (fun k => k = mp) W W') (hp : FMap W' mp intV P') : BestM w FH I fn b3 b8 b9 b10 mp mr md q P' fp dn A t F W' := by
  have hb := h.boxes (fun hg => h.m.price.ne_cells hg)
  have lo : ∀ k, k = mp → w.heap.size ≤ k := fun k e => by rw [e]; exact h.m.lp
  exact ⟨h.keep.trans' hk (fun i hi => .inr (lo i hi)), hh.steady h.hI hk lo, h.m.priced hk hp, hk.heap h.x3 hb.1, hk.heap h.x8 hb.2.1, hk.heap h.x9 hb.2.2.1, hk.heap h.x10 hb.2.2.2, h.l3, h.l8, h.l9, h.l10, h.fb⟩
theorem BestM.pard (hh : Heur gh pa cb L H n0 w.heap.size FH I) (h : BestM w FH I fn b3 b8 b9 b10 mp mr md q P fp dn A t F W) (hk : Keeps (fun k => k = mr) W W') (hp : FMap W' mr backV fp') : BestM w FH I fn b3 b8 b9 b10 mp mr md q P fp' dn A t F W' := by
  have hb := h.boxes (fun hg => h.m.par_.ne_cells hg)
  have lo : ∀ k, k = mr → w.heap.size ≤ k := fun k e => by rw [e]; exact h.m.lr
  exact ⟨h.keep.trans' hk (fun i hi => .inr (lo i hi)), hh.steady h.hI hk lo, h.m.pard hk hp, hk.heap h.x3 hb.1, hk.heap h.x8 hb.2.1, hk.heap h.x9 hb.2.2.1, hk.heap h.x10 hb.2.2.2, h.l3, h.l8, h.l9, h.l10, h.fb⟩
theorem BestM.doned (hh : Heur gh pa cb L H n0 w.heap.size FH I) (h : BestM w FH I fn b3 b8 b9 b10 mp mr md q P fp dn A t F W) (hk : Keeps (fun k => k = md) W W') (hp : FMap W' md unitV dn') : BestM w FH I fn b3 b8 b9 b10 mp mr md q P fp dn' A t F W' := by
  have hb := h.boxes (fun hg => h.m.done.ne_cells hg)
  have lo : ∀ k, k = md → w.heap.size ≤ k := fun k e => by rw [e]; exact h.m.ld
  exact ⟨h.keep.trans' hk (fun i hi => .inr (lo i hi)), hh.steady h.hI hk lo, h.m.doned hk hp, hk.heap h.x3 hb.1, hk.heap h.x8 hb.2.1, hk.heap h.x9 hb.2.2.1, hk.heap h.x10 hb.2.2.2, h.l3, h.l8, h.l9, h.l10, h.fb⟩
theorem BestM.queued (hh : Heur gh pa cb L H n0 w.heap.size FH I) (h : BestM w FH I fn b3 b8 b9 b10 mp mr md q P fp dn A t F W) (hk : Keeps F W W') (hq : U.QRep W' q A' t' F') (hF : ∀ k, F' k → F k ∨ W.heap.size ≤ k) : BestM w FH I fn b3 b8 b9 b10 mp mr md q P fp dn A' t' (fun k => F' k ∧ k < W'.heap.size) W' := by
  have lo : ∀ k, F k → w.heap.size ≤ k := fun k e => (h.m.lF k e).1
  have z3 := h.x3.lt; have z8 := h.x8.lt; have z9 := h.x9.lt; have z10 := h.x10.lt
  refine ⟨h.keep.trans' hk (fun i hi => .inr (lo i hi)), hh.steady h.hI hk lo, h.m.queued hk hq hF h.keep.size, hk.heap h.x3 (fun e => (h.fb _ e).1 rfl), hk.heap h.x8 (fun e => (h.fb _ e).2.1 rfl), hk.heap h.x9 (fun e => (h.fb _ e).2.2.1 rfl), hk.heap h.x10 (fun e => (h.fb _ e).2.2.2 rfl), h.l3, h.l8, h.l9, h.l10, fun k hk' => ?_⟩
  rcases hF k hk'.1 with h1 | h1
  · exact h.fb k h1
  · omega
theorem BestM.live (h : BestM w FH I fn b3 b8 b9 b10 mp mr md q P fp dn A t F W) : BestM w FH I fn b3 b8 b9 b10 mp mr md q P fp dn A t (fun k => F k ∧ k < W.heap.size ∧ W.heap[k]? ≠ some (.deferred (some []))) W :=
  { h with m := h.m.live, fb := fun k hk => h.fb k hk.1 }
theorem BestM.clean (h : BestM w FH I fn b3 b8 b9 b10 mp mr md q P fp dn A t F W) : BestM w FH I fn b3 b8 b9 b10 mp mr md q P fp dn A t (fun k => F k ∧ k < W.heap.size ∧ Clean W k) W :=
  { h with m := { h.m with q := h.m.q.clean, lF := fun k hk => h.m.lF k hk.1 }, fb := fun k hk => h.fb k hk.1 }
theorem BestM.steady {row : Option Nat} {B : Nat} (hh : Heur gh pa cb L H n0 w.heap.size FH I) (h : BestM w FH I fn b3 b8 b9 b10 mp mr md q P fp dn A t F W) (hg : W.grownBy W' row) (hr : ∀ r, row = some r → B ≤ r ∧ ∃ o : Obj, W.heap[r]? = some o ∧ o.isCells = false) (hB : w.heap.size ≤ B) (m1 : mp < B) (m2 : mr < B) (m3 : md < B)
    (hF : ∀ k, F k → k < B ∨ ∃ cs T fr, W.heap[k]? = some (.cells cs T fr)) : BestM w FH I fn b3 b8 b9 b10 mp mr md q P fp dn A t F W' := by
  have cell : ∀ {k : Nat}, (∃ cs T fr, W.heap[k]? = some (.cells cs T fr)) → ¬ row = some k := fun hc e => by
    obtain ⟨cs, T, fr, hc⟩ := hc
    obtain ⟨_, o, ho, hn⟩ := hr _ e
    rw [hc] at ho; cases ho; cases hn
  have lt : ∀ {k : Nat}, k < B → ¬ row = some k := fun hk e => by have := (hr _ e).1; omega
  exact h.by hh (steady_keeps hg) (fun k e => by have := (hr k e).1; omega) (cell ⟨_, _, _, h.x3⟩) (cell ⟨_, _, _, h.x8⟩) (cell ⟨_, _, _, h.x9⟩) (cell ⟨_, _, _, h.x10⟩) (lt m1) (lt m2) (lt m3) (fun k hk => (hF k hk).elim lt cell)
/-- No block of it is one of deferred calls. -/
theorem BestM.nd (h : BestM w FH I fn b3 b8 b9 b10 mp mr md q P fp dn A t F W) : W.heap[mp]? ≠ some (.deferred (some [])) ∧ W.heap[mr]? ≠ some (.deferred (some [])) ∧ W.heap[md]? ≠ some (.deferred (some [])) :=
  ⟨h.m.price.not_deferred, h.m.par_.not_deferred, h.m.done.not_deferred⟩
end

/-- The same before the map of the expanded states is made. -/
structure PreM (w : World) (FH : Nat → Prop) (I : World → Prop) (fn : Value) (b3 b8 b9 b10 mp mr q : Nat) (P : Nat → Option Int) (fp : Nat → Option SArc) (A : List (Int × Int)) (t : Int) (F : Nat → Prop) (W : World) : Prop where
  keep : Keeps FH w W
  hI : I W
  price : FMap W mp intV P
  par_ : FMap W mr backV fp
  que : U.QRep W q A t F
  x3 : Boxed W b3 72 fn
  x8 : Boxed W b8 75 (.map (some mp))
  x9 : Boxed W b9 76 (.map (some mr))
  x10 : Boxed W b10 122 (.pointer (some ⟨q, 0, none⟩))
  lF : ∀ k, F k → w.heap.size ≤ k ∧ k < W.heap.size ∧ k ≠ mp ∧ k ≠ mr
  fb : ∀ k, F k → k ≠ b3 ∧ k ≠ b8 ∧ k ≠ b9 ∧ k ≠ b10
  l3 : w.heap.size ≤ b3
  l8 : w.heap.size ≤ b8
  l9 : w.heap.size ≤ b9
  l10 : w.heap.size ≤ b10
  lp : w.heap.size ≤ mp
  lr : w.heap.size ≤ mr
  n1 : mp ≠ mr
section
variable {w W W' : World} {L : List Nat} {H : Nat → Int} {gh n0 : Nat} {pa cb : Array Value} {FH : Nat → Prop} {I : World → Prop} {fn : Value} {b3 b8 b9 b10 mp mr q : Nat} {P : Nat → Option Int} {fp : Nat → Option SArc} {A A' : List (Int × Int)} {t t' : Int} {F F' : Nat → Prop}
theorem PreM.keeps0 (hh : Heur gh pa cb L H n0 w.heap.size FH I) (h : PreM w FH I fn b3 b8 b9 b10 mp mr q P fp A t F W) (hk : Keeps (fun _ => False) W W') : PreM w FH I fn b3 b8 b9 b10 mp mr q P fp A t F W' :=
  ⟨h.keep.trans (hk.mono (fun _ _ h => h.elim)), hh.steady h.hI hk (fun _ h => h.elim), h.price.keeps hk (fun h => h), h.par_.keeps hk (fun h => h), h.que.keeps hk (fun _ _ h => h), hk.heap h.x3 (fun h => h), hk.heap h.x8 (fun h => h), hk.heap h.x9 (fun h => h), hk.heap h.x10 (fun h => h),
   fun k hk' => ⟨(h.lF k hk').1, Nat.lt_of_lt_of_le (h.lF k hk').2.1 hk.size, (h.lF k hk').2.2⟩, h.fb, h.l3, h.l8, h.l9, h.l10, h.lp, h.lr, h.n1⟩
theorem PreM.asked (hh : Heur gh pa cb L H n0 w.heap.size FH I) (h : PreM w FH I fn b3 b8 b9 b10 mp mr q P fp A t F W) (hk : Keeps FH W W') (hI : I W') : PreM w FH I fn b3 b8 b9 b10 mp mr q P fp A t F W' := by
  have no : ∀ k, w.heap.size ≤ k → ¬ FH k := fun k hk h => by have := (hh.lo k h).2; omega
  exact ⟨h.keep.trans hk, hI, h.price.keeps hk (no _ h.lp), h.par_.keeps hk (no _ h.lr), h.que.keeps hk (fun k hF => no k (h.lF k hF).1), hk.heap h.x3 (no _ h.l3), hk.heap h.x8 (no _ h.l8), hk.heap h.x9 (no _ h.l9), hk.heap h.x10 (no _ h.l10),
   fun k hk' => ⟨(h.lF k hk').1, Nat.lt_of_lt_of_le (h.lF k hk').2.1 hk.size, (h.lF k hk').2.2⟩, h.fb, h.l3, h.l8, h.l9, h.l10, h.lp, h.lr, h.n1⟩
theorem PreM.queued (hh : Heur gh pa cb L H n0 w.heap.size FH I) (h : PreM w FH I fn b3 b8 b9 b10 mp mr q P fp A t F W) (hk : Keeps F W W') (hq : U.QRep W' q A' t' F') (hF : ∀ k, F' k → F k ∨ W.heap.size ≤ k) : PreM w FH I fn b3 b8 b9 b10 mp mr q P fp A' t' (fun k => F' k ∧ k < W'.heap.size) W' := by
  have lo : ∀ k, F k → w.heap.size ≤ k := fun k e => (h.lF k e).1
  have z3 := h.x3.lt; have z8 := h.x8.lt; have z9 := h.x9.lt; have z10 := h.x10.lt; have zp := h.price.lt; have zr := h.par_.lt; have zw := h.keep.size
  refine ⟨h.keep.trans' hk (fun i hi => .inr (lo i hi)), hh.steady h.hI hk lo, h.price.keeps hk (fun e => (h.lF _ e).2.2.1 rfl), h.par_.keeps hk (fun e => (h.lF _ e).2.2.2 rfl), U.QRep.mono hq (fun k hk' hF' => ⟨hF', hk'⟩), hk.heap h.x3 (fun e => (h.fb _ e).1 rfl), hk.heap h.x8 (fun e => (h.fb _ e).2.1 rfl), hk.heap h.x9 (fun e => (h.fb _ e).2.2.1 rfl), hk.heap h.x10 (fun e => (h.fb _ e).2.2.2 rfl), fun k hk' => ?_, fun k hk' => ?_, h.l3, h.l8, h.l9, h.l10, h.lp, h.lr, h.n1⟩
  · rcases hF k hk'.1 with h1 | h1
    · exact ⟨(h.lF k h1).1, hk'.2, (h.lF k h1).2.2⟩
    · exact ⟨by omega, hk'.2, by omega, by omega⟩
  · rcases hF k hk'.1 with h1 | h1
    · exact h.fb k h1
    · omega
theorem PreM.made (hh : Heur gh pa cb L H n0 w.heap.size FH I) (h : PreM w FH I fn b3 b8 b9 b10 mp mr q P fp A t F W) : BestM w FH I fn b3 b8 b9 b10 mp mr W.heap.size q P fp (fun _ => none) A t F (W.alloc (.map #[] 0)) := by
  have hk := (Keeps.refl (fun _ => False) W).alloc (.map #[] 0)
  have h' := h.keeps0 hh hk
  have zp := h.price.lt; have zr := h.par_.lt; have zw := h.keep.size
  exact ⟨h'.keep, h'.hI, ⟨h'.price, h'.par_, FMap.made W unitV, h'.que, fun k hF => ⟨(h'.lF k hF).1, (h'.lF k hF).2.1, (h'.lF k hF).2.2.1, (h'.lF k hF).2.2.2, by have := (h.lF k hF).2.1; omega⟩, h.lp, h.lr, zw, h.n1, by omega, by omega⟩,
    h'.x3, h'.x8, h'.x9, h'.x10, h.l3, h.l8, h.l9, h.l10, h.fb⟩
end

/-- What Best hands back. -/
def AstPost (ops : List Wop) (L : List Nat) (st : Nat) (acc : Nat → Bool) (H : Nat → Int) (w : World) (FH : Nat → Prop) (e : Ending) (w' : World) : Prop := Keeps FH w w' ∧ ∃ n : Nat, n ≤ L.length ∧
  ((LeastOf 4096 1 ops st acc (-1) ∧ e = .returned (.tuple #[.slice none 0 0, .int .i64 (n : Int), .bool false])) ∨
   (∃ (q : List Nat) (y : Nat) (p : Int) (v : Value), e = .returned (.tuple #[v, .int .i64 (n : Int), .bool true]) ∧ w'.ownsRow w.heap.size 3 1 v q.length ((intsP q).map (Value.int .i64)) ∧ q.length ≤ L.length ∧
      runOps ops st q = some y ∧ acc y = true ∧ wayN 4096 1 ops q = p ∧ 0 ≤ p ∧ LeastOf 4096 1 ops st acc p ∧ ∃ D : Nat → Bool, n = (L.filter D).length ∧ ExpOk ops L st H p D))

/-- Arcs of s that have not come yet. -/
def ToDo (H : Nat → Int) (ops : List Wop) (s : Nat) (l : List Stp) (R : List SArc) : Prop := ∀ a ∈ R, H a.to < 1000000000 ∧ ∃ e ∈ wsteps ops s, a = arcOf e ∧ e ∉ l
theorem ToDo.start (H : Nat → Int) (ops : List Wop) (L : List Nat) (s : Nat) : ToDo H ops s [] (liveG H (nextG ops L) s) := fun a ha => by
  obtain ⟨h1, h2⟩ := List.mem_filter.1 ha
  refine ⟨by simpa using h2, ?_⟩
  unfold nextG at h1
  split at h1
  · obtain ⟨e, he, rfl⟩ := List.mem_map.1 h1
    exact ⟨e, he, rfl, by simp⟩
  · cases h1
theorem ToDo.done {H : Nat → Int} {ops : List Wop} {s : Nat} {R : List SArc} (h : ToDo H ops s (wsteps ops s) R) : R = [] := by
  cases R with
  | nil => rfl
  | cons a r => obtain ⟨_, e, h1, _, h2⟩ := h a (by simp); exact absurd h1 h2
theorem ToDo.dead {H : Nat → Int} {ops : List Wop} {s : Nat} {l : List Stp} {R : List SArc} (h : ToDo H ops s l R) {y : Stp} (hy : ¬ H y.to < 1000000000) : ToDo H ops s (l ++ [y]) R := fun a ha => by
  obtain ⟨h1, e, h2, h3, h4⟩ := h a ha
  refine ⟨h1, e, h2, h3, fun hm => ?_⟩
  rcases List.mem_append.1 hm with hm | hm
  · exact h4 hm
  · rw [List.mem_singleton] at hm; subst hm; rw [h3] at h1; exact hy h1
theorem SideI.more {G : Nat → List SArc} {S0 : Nat → Prop} {L : List Nat} {C : Int} {P : Nat → Option Int} {par : Nat → Option SArc} {A : List (Int × Int)} {s : Nat} {R R' : List SArc} (h : SideI G S0 L C P par A s R) (hR : ∀ b ∈ R, b ∈ R') : SideI G S0 L C P par A s R' :=
  ⟨h.dom, h.lo, h.start, h.from_, h.key, fun x p hp => (h.pend x p hp).imp (fun h => h) (fun h a ha => (h a ha).imp (fun h => h) (fun h => ⟨h.1, hR a h.2⟩))⟩
/-- The arc of y comes up. -/
theorem AstI.next {ops : List Wop} {L : List Nat} {st : Nat} {acc : Nat → Bool} {H : Nat → Int} {P : Nat → Option Int} {par : Nat → Option SArc} {A : List (Int × Int)} {s : Nat} {R : List SArc} {dn : Nat → Option Unit} (h : AstI ops L st acc H P par A s R dn) {l : List Stp} (ht : ToDo H ops s l R) (y : Stp) :
    ∃ R', AstI ops L st acc H P par A s (arcOf y :: R') dn ∧ ToDo H ops s (l ++ [y]) R' := by
  classical
  refine ⟨R.filter fun b => decide (b ≠ arcOf y), ⟨h.i.more (fun b hb => ?_), h.g, h.dIn, h.way, h.seen⟩, fun a ha => ?_⟩
  · by_cases e : b = arcOf y
    · rw [e]; simp
    · exact List.mem_cons_of_mem _ (List.mem_filter.2 ⟨hb, by simpa using e⟩)
  · obtain ⟨h1, h2⟩ := List.mem_filter.1 ha
    obtain ⟨g1, e, g2, g3, g4⟩ := ht a h1
    refine ⟨g1, e, g2, g3, fun hm => ?_⟩
    rcases List.mem_append.1 hm with hm | hm
    · exact g4 hm
    · rw [List.mem_singleton] at hm; subst hm
      have : a ≠ arcOf e := by simpa using h2
      exact this g3
theorem live_step {ops : List Wop} {L : List Nat} {H : Nat → Int} {s : Nat} (hs : s ∈ L) {y : Stp} (hy : y ∈ wsteps ops s) (h : H y.to < 1000000000) : arcOf y ∈ liveG H (nextG ops L) s := by
  unfold liveG nextG
  rw [if_pos hs]
  exact List.mem_filter.2 ⟨List.mem_map.2 ⟨y, hy, rfl⟩, decide_eq_true (show H (arcOf y).to < 1000000000 from h)⟩

/-- Within the loop over the steps of s, when the steps l have come; B: the heap's size ahead of the loop. -/
def AstBI (ops : List Wop) (L : List Nat) (st : Nat) (acc : Nat → Bool) (H : Nat → Int) (w : World) (FH : Nat → Prop) (I : World → Prop) (fn : Value) (b8 b9 b10 mp mr md q : Nat) (dn : Nat → Option Unit) (s : Nat) (ps T0 : Int) (M0 : Nat) (ds : List Deferred) (Bs b12 B : Nat) (l : List Stp) (W : World) : Prop :=
  ∃ (P : Nat → Option Int) (par : Nat → Option SArc) (A : List (Int × Int)) (t : Int) (F : Nat → Prop) (R : List SArc), BestM w FH I fn w.heap.size b8 b9 b10 mp mr md q P (parF st par) dn (liftA H A) t F W ∧ AstI ops L st acc H P par A s R dn ∧ ToDo H ops s l R ∧ P s = some ps ∧
    0 ≤ t ∧ t + (weightB L 1000000000 P : Int) ≤ T0 ∧ 2 * weightB L 1000000000 P + A.length < M0 ∧ Marks ds W w.heap.size ∧ W.heap[Bs]? = some (.cells #[.int .u32 (s : Int)] 77 (0, 0)) ∧ W.heap[b12]? = some (.cells #[.int .u32 (s : Int)] 77 (0, 0)) ∧
    (∀ k, F k → (k < B ∨ ∃ cs T fr, W.heap[k]? = some (.cells cs T fr)) ∧ k ≠ Bs ∧ k ≠ b12 ∧ Clean W k)
theorem others_of {S : Nat → Prop} {W W' : World} {B : Nat} (hk : Keeps S W W') (hS : ∀ k, S k → k < B ∨ ∃ cs T fr, W.heap[k]? = some (.cells cs T fr)) : ∀ k o, B ≤ k → W.heap[k]? = some o → o.isCells = false → W'.heap[k]? = some o := fun k o hB h0 hc =>
  hk.heap h0 (fun hs => by
    rcases hS k hs with h | ⟨cs, T, fr, h⟩
    · omega
    · rw [h] at h0; cases h0; cases hc)
theorem close_of {S : Nat → Prop} {W W' : World} {B n0 Bs : Nat} (hk : Keeps S W W') (hS : ∀ k, S k → n0 ≤ k ∧ (k < B ∨ ∃ cs T fr, W.heap[k]? = some (.cells cs T fr)) ∧ k ≠ Bs) (hn : n0 ≤ W.heap.size) (hB : Bs < W.heap.size) : KeepsFrom B W W' ∧ KpS n0 Bs W W' :=
  ⟨⟨hk.size, others_of hk (fun k h => (hS k h).2.1)⟩, KpS.ofKeeps hk hn (fun k hlt hs => by have := (hS k hs).1; omega) hB (fun hs => (hS _ hs).2.2 rfl)⟩
theorem costLook {w : World} {mb : Nat} {P : Nat → Option Int} (hm : FMap w mb intV P) {x : Nat} {a : Int} (hx : P x = some a) : (Instr.lookup 75 (.map (some mb)) (.int .u32 (x : Int)) false).run Tryz.prog w = .ok (.int .i64 a) w :=
  (hm.look_some (P := Tryz.prog) Tryz.underlying75 Tryz.underlying77 hx).2
theorem costLookT {w : World} {mb : Nat} {P : Nat → Option Int} (hm : FMap w mb intV P) (x : Nat) : ∃ (a : Int) (b : Bool), (Instr.lookup 75 (.map (some mb)) (.int .u32 (x : Int)) true).run Tryz.prog w = .ok (.tuple #[.int .i64 a, .bool b]) w ∧ (b = true → P x = some a) ∧ (b = false → P x = none) := by
  cases hx : P x with
  | none => exact ⟨0, false, (hm.look_none (P := Tryz.prog) Tryz.underlying75 Tryz.underlying77 (show (zeroValue 3).run Tryz.prog w = .ok (.int .i64 0) w by kernel_rfl) hx).1, (fun h => by cases h), fun _ => rfl⟩
  | some a => exact ⟨a, true, (hm.look_some (P := Tryz.prog) Tryz.underlying75 Tryz.underlying77 hx).1, fun _ => rfl, fun h => by cases h⟩
theorem f8_keeps {F S : Nat → Prop} {W W' : World} {B Bs b12 : Nat} (h : ∀ k, F k → (k < B ∨ ∃ cs T fr, W.heap[k]? = some (.cells cs T fr)) ∧ k ≠ Bs ∧ k ≠ b12 ∧ Clean W k) (hk : Keeps S W W') (hs : ∀ k, F k → ¬ S k) (hl : ∀ k, F k → k < W.heap.size) :
    ∀ k, F k → (k < B ∨ ∃ cs T fr, W'.heap[k]? = some (.cells cs T fr)) ∧ k ≠ Bs ∧ k ≠ b12 ∧ Clean W' k := fun k hF =>
  ⟨(h k hF).1.imp (fun h => h) (fun ⟨cs, T, fr, hc⟩ => ⟨cs, T, fr, hk.heap hc (hs k hF)⟩), (h k hF).2.1, (h k hF).2.2.1, (h k hF).2.2.2.keeps hk (hl k hF) (hs k hF)⟩

end Go.Proofs.YtcpmjoabhnfddaaGreat

namespace Go.Proofs.YtcpmjoabhnfddaaGreat
open Go.RowKit Go.Shelf

/-- What Value says of a task's states for a kind. -/
def ValC (t : Tsk) (kind : Int) (L : List Nat) (H : Nat → Int) : Prop := ∀ (W : World) (vi vg vo vs : Value) (x : Nat), TaskAt W vi vg vo t → x ∈ L → Ints W vs (facts x) →
  Calls Tryz.prog 83 #[.agg #[.int .i64 t.n, vi, vg, vo], .int .i64 kind, vs] W fun e W' => e = .returned (.int .i64 (H x)) ∧ Keeps (fun _ => False) W W'

set_option maxRecDepth 100000 in
set_option maxHeartbeats 2000000 in
theorem value0_any (t : Tsk) (L : List Nat) : ValC t 0 L (fun _ => 0) := by
  intro w vi vg vo vs x h hx hs
  obtain ⟨ai, ci, h1, _⟩ := h.init.form
  obtain ⟨ag, cg, h2, _⟩ := h.goal.form
  obtain ⟨ao, co, h3, hmo⟩ := h.ops.form
  subst h1 h2 h3
  have K1 := Lib.hid ((Keeps.refl (fun _ => False) w).alloc (.cells #[.int .i64 t.n, .slice ai t.init.length ci, .slice ag t.goal.length cg, .slice ao t.ops.length co] 25))
  clear h hs
  go_enter Tryz.func83, Tryz.ntmps83
  go_wp2_with fail
  go_ret
  exact ⟨rfl, K1.out⟩

/-- The function value's own memory: the map of what it has said, the task and the kind. -/
structure HeurM (t : Tsk) (kind : Int) (H : Nat → Int) (w0 : World) (kb tb qb mb : Nat) (vi vg vo : Value) (W : World) : Prop where
  kbox : W.heap[kb]? = some (.cells #[.map (some mb)] 75 (0, 0))
  tbox : W.heap[tb]? = some (.cells #[.int .i64 t.n, vi, vg, vo] 25 (0, 0))
  qbox : W.heap[qb]? = some (.cells #[.int .i64 kind] 3 (0, 0))
  known : ∃ K, FMap W mb intV K ∧ ∀ x v, K x = some v → v = H x
  task : Keeps (fun _ => False) w0 W

theorem HeurM.keeps {t : Tsk} {kind : Int} {H : Nat → Int} {w0 W W' : World} {kb tb qb mb : Nat} {vi vg vo : Value} {S : Nat → Prop} (h : HeurM t kind H w0 kb tb qb mb vi vg vo W) (hk : Keeps S W W') (s1 : ¬ S kb) (s2 : ¬ S tb) (s3 : ¬ S qb) (s4 : ¬ S mb) (hS : ∀ k, S k → w0.heap.size ≤ k) : HeurM t kind H w0 kb tb qb mb vi vg vo W' := by
  obtain ⟨K, h1, h2⟩ := h.known
  exact ⟨hk.heap h.kbox s1, hk.heap h.tbox s2, hk.heap h.qbox s3, ⟨K, h1.keeps hk s4, h2⟩, h.task.trans' hk (fun i hi => .inr (hS i hi))⟩

set_option maxRecDepth 100000 in
set_option maxHeartbeats 2000000 in
theorem heur1_any (t : Tsk) (kind : Int) (L : List Nat) (H : Nat → Int) (hv : ValC t kind L H) (w0 : World) (kb tb qb mb : Nat) (vi vg vo : Value) (h0 : TaskAt w0 vi vg vo t) (hmb : w0.heap.size ≤ mb) (W : World) (x : Nat) (h : HeurM t kind H w0 kb tb qb mb vi vg vo W) (hx : x ∈ L) :
    Calls Tryz.prog 82 #[.int .u32 (x : Int), .pointer (some ⟨kb, 0, none⟩), .pointer (some ⟨tb, 0, none⟩), .pointer (some ⟨qb, 0, none⟩)] W fun e W' => e = .returned (.int .i64 (H x)) ∧ HeurM t kind H w0 kb tb qb mb vi vg vo W' ∧ Keeps (fun k => k = mb) W W' := by
  obtain ⟨ai, ci, h1, _⟩ := h0.init.form
  obtain ⟨ag, cg, h2, _⟩ := h0.goal.form
  obtain ⟨ao, co, h3, hmo⟩ := h0.ops.form
  subst h1 h2 h3
  obtain ⟨K, hK, hKH⟩ := h.known
  have HH := Lib.hid h; have HK := Lib.hid hK; have HKH := Lib.hid hKH; have HX := Lib.hid hx; have HV := Lib.hid hv; have H0 := Lib.hid h0
  have c1 : W.cell? ⟨kb, 0, none⟩ = some (.map (some mb)) := (cell_of_blk h.kbox).trans rfl
  have l1 := lt_of_heap h.kbox
  have n1 : kb ≠ mb := fun e => hK.ne_cells h.kbox e.symm
  have n2 : tb ≠ mb := fun e => hK.ne_cells h.tbox e.symm
  have n3 : qb ≠ mb := fun e => hK.ne_cells h.qbox e.symm
  obtain ⟨qv, qb', hlk, hqt, hqf⟩ := costLookT hK x
  clear h hK hKH hx hv h0
  go_enter Tryz.func82, Tryz.ntmps82
  cases qb' with
  | true =>
    have he := HKH.out x qv (hqt rfl)
    subst he
    clear hqt hqf
    go_wp2_with fail
    go_ret
    exact ⟨rfl, HH.out, Keeps.refl _ _⟩
  | false =>
    clear hqt hqf
    have KD := (Keeps.refl (fun _ => False) W).drew
    have HD := Lib.hid (HH.out.keeps KD (fun h => h) (fun h => h) (fun h => h) (fun h => h) (fun _ h => h.elim))
    have KDD := Lib.hid KD
    obtain ⟨t0, t1, t2, t3, tl⟩ := quad_cells HD.out.tbox
    have q0 : W.drew.cell? ⟨qb, 0, none⟩ = some (.int .i64 kind) := (cell_of_blk HD.out.qbox).trans rfl
    have ql := lt_of_heap HD.out.qbox
    clear KD
    go_wp2_with fail
    go_region_held3 (fun w' => w'.cell? ⟨tb, 0, none⟩ = some (.int .i64 t.n) ∧ w'.cell? ⟨tb, 1, none⟩ = some (.slice ai t.init.length ci) ∧ w'.cell? ⟨tb, 2, none⟩ = some (.slice ag t.goal.length cg) ∧ w'.cell? ⟨tb, 3, none⟩ = some (.slice ao t.ops.length co) ∧ w'.cell? ⟨qb, 0, none⟩ = some (.int .i64 kind))
      (go_keep)
      (first
        | (go_at_call 61; refine (facts_any _ x).mono ?_; rintro en wa ⟨vx, rfl, hrow, hka, _⟩; have hia := Ints.of_own hrow; have HIA := Lib.hid hia; have ha0 := hka.cell t0 (fun h => h); have ha1 := hka.cell t1 (fun h => h); have ha2 := hka.cell t2 (fun h => h); have ha3 := hka.cell t3 (fun h => h); have ha4 := hka.cell q0 (fun h => h); have KA := Lib.hid (KDD.out.trans hka); clear hrow hka hia)
        | (go_at_call 83; refine (HV.out _ _ _ _ _ x (H0.out.keeps0 (HH.out.task.trans KA.out)) HX.out HIA.out).mono ?_; rintro en wb ⟨rfl, hkb⟩; have hb0 := hkb.cell ha0 (fun h => h); have hb1 := hkb.cell ha1 (fun h => h); have hb2 := hkb.cell ha2 (fun h => h); have hb3 := hkb.cell ha3 (fun h => h); have hb4 := hkb.cell ha4 (fun h => h); have KB := Lib.hid (KA.out.trans hkb); clear hkb))
    all_goals
      have HB := Lib.hid (HH.out.keeps KB.out (fun h => h) (fun h => h) (fun h => h) (fun h => h) (fun _ h => h.elim))
      have hKb := HK.out.keeps KB.out (fun h => h)
      obtain ⟨wc, hrc, hmc, hkc⟩ := hKb.put (P := Tryz.prog) Tryz.underlying75 Tryz.underlying77 x (H x)
      unfold intV at hrc
      have k1c : wb.cell? ⟨kb, 0, none⟩ = some (.map (some mb)) := (cell_of_blk HB.out.kbox).trans rfl
      have k1l := lt_of_heap HB.out.kbox
      have HC := Lib.hid (show HeurM t kind H w0 kb tb qb mb _ _ _ wc ∧ Keeps (fun k => k = mb) W wc from ⟨⟨hkc.heap HB.out.kbox n1, hkc.heap HB.out.tbox n2, hkc.heap HB.out.qbox n3, ⟨_, hmc, fun y v hy => by
        unfold putP at hy
        split at hy
        · rename_i e; cases hy; rw [e]
        · exact HKH.out y v hy⟩, HB.out.task.trans' hkc (fun i hi => .inr (by rw [hi]; exact hmb))⟩, (KB.out.mono (fun _ _ h => h.elim)).trans hkc⟩)
      clear hmc hkc hKb
      go_wp2_with fail
      go_ret
      exact ⟨rfl, HC.out.1, HC.out.2⟩

/-- The function value keeps the contract of a heuristic. -/
theorem heur_is (t : Tsk) (kind : Int) (L : List Nat) (H : Nat → Int) (hv : ValC t kind L H) (w0 : World) (kb tb qb mb n0 B : Nat) (vi vg vo : Value) (h0 : TaskAt w0 vi vg vo t) (hmb : w0.heap.size ≤ mb) (hn : n0 ≤ mb) (b1 : kb < B) (b2 : tb < B) (b3 : qb < B) (b4 : mb < B) :
    Heur 82 #[] #[.pointer (some ⟨kb, 0, none⟩), .pointer (some ⟨tb, 0, none⟩), .pointer (some ⟨qb, 0, none⟩)] L H n0 B (fun k => k = mb) (HeurM t kind H w0 kb tb qb mb vi vg vo) := by
  refine ⟨enters_of Tryz.func82 (by kernel_rfl) rfl, fun W x hI hx => ?_, fun {S W W'} hI hk hS => ?_, fun {W k} hI hk => ?_, fun k hk => ?_⟩
  · exact (heur1_any t kind L H hv w0 kb tb qb mb vi vg vo h0 hmb W x hI hx).mono fun e W' h => h
  · exact hI.keeps hk (fun h => by have := hS _ h; omega) (fun h => by have := hS _ h; omega) (fun h => by have := hS _ h; omega) (fun h => by have := hS _ h; omega) (fun k h => by have := hS k h; omega)
  · obtain ⟨K, h1, _⟩ := hI.known
    rw [hk]; exact h1.not_deferred
  · rw [hk]; exact ⟨hn, b4⟩

end Go.Proofs.YtcpmjoabhnfddaaGreat

namespace Go.Proofs.YtcpmjoabhnfddaaGreat
open Go.RowKit Go.Shelf

theorem CheckedPost.form {t : Tsk} {w w' : World} {e : Ending} (h : CheckedPost t w e w') : ∃ pv lv c i, e = .returned (.tuple #[pv, lv, .agg #[.int .i64 c, .int .i64 i]]) := by
  rcases h.2 with ⟨_, h⟩ | ⟨_, _, h⟩ | ⟨_, _, _, b, v, vl, ws, h, _⟩
  · exact ⟨_, _, _, _, h⟩
  · exact ⟨_, _, _, _, h⟩
  · exact ⟨_, _, _, _, h⟩
theorem CheckedPost.past {t : Tsk} {w w1 w2 w' : World} {e : Ending} {S : Nat → Prop} (h : CheckedPost t w1 e w2) (hz : w.heap.size ≤ w1.heap.size) (hk : Keeps S w2 w') (hS : ∀ k, S k → k < w1.heap.size) (k0 : Keeps (fun _ => False) w w') : CheckedPost t w e w' := by
  refine ⟨k0, ?_⟩
  rcases h.2 with h | h | ⟨ok, l, hx, b, v, vl, ws, he, hw, hp, hs, hown⟩
  · exact .inl h
  · exact .inr (.inl h)
  · exact .inr (.inr ⟨ok, l, hx, b, v, vl, ws, he, (hw.keepsS hk (fun h => by have := hS _ h; have := hw.low; omega) (fun k hk' h => by have := hS _ h; have := (hw.own.lt k hk').1; omega)).mono hz, hp, hs, ownsRow_mono (hk.ownsRow hown (fun k hk' h => by have := hS _ h; have := (hown.lt k hk').1; omega)) hz⟩)

set_option maxRecDepth 100000 in
set_option maxHeartbeats 2000000 in
theorem acheck_any (w : World) (vi vg vo : Value) (t : Tsk) (h : TaskAt w vi vg vo t) :
    Calls Tryz.prog 45 #[.agg #[.int .i64 t.n, vi, vg, vo], .bool true] w (CheckedPost t w) := by
  obtain ⟨ai, ci, h1, _⟩ := h.init.form
  obtain ⟨ag, cg, h2, _⟩ := h.goal.form
  obtain ⟨ao, co, h3, hmo⟩ := h.ops.form
  subst h1 h2 h3
  have K1 := (Keeps.refl (fun _ => False) w).alloc (.cells #[.int .i64 t.n, .slice ai t.init.length ci, .slice ag t.goal.length cg, .slice ao t.ops.length co] 25)
  have HT := h.keeps0 (K1.alloc (.cells #[.int .i64 0, .int .i64 0] 31))
  have HB := (Four.new w (.int .i64 t.n) (.slice ai t.init.length ci) (.slice ag t.goal.length cg) (.slice ao t.ops.length co) 25).keeps0 ((Keeps.refl _ _).alloc (.cells #[.int .i64 0, .int .i64 0] 31))
  have HF : Flt w ((w.alloc (.cells #[.int .i64 t.n, .slice ai t.init.length ci, .slice ag t.goal.length cg, .slice ao t.ops.length co] 25)).alloc (.cells #[.int .i64 0, .int .i64 0] 31)) (w.heap.size + 1) 31 :=
    ⟨by have := heap_alloc_new (w.alloc (.cells #[.int .i64 t.n, .slice ai t.init.length ci, .slice ag t.goal.length cg, .slice ao t.ops.length co] 25)) (.cells #[.int .i64 0, .int .i64 0] 31); rwa [World.size_alloc] at this, by omega, K1.alloc _⟩
  replace HT := Lib.hid HT; replace HB := Lib.hid HB; replace HF := Lib.hid HF
  clear h K1
  go_enter Tryz.func45, Tryz.ntmps45
  go_upto_region 1 with fail
  generalize ((w.alloc (.cells #[.int .i64 t.n, .slice ai t.init.length ci, .slice ag t.goal.length cg, .slice ao t.ops.length co] 25)).alloc (.cells #[.int .i64 0, .int .i64 0] 31)) = w1 at HT HB HF ⊢
  have hbx := HB.out.lt
  obtain ⟨d0, d1, d2, d3⟩ := HB.out
  go_wp2_with fail
  refine (checked_any _ _ _ _ t HT.out).mono ?_; rintro e w2 hr
  obtain ⟨pv, lv, c, i, rfl⟩ := hr.form
  have HR := Lib.hid hr
  have KA := (Keeps.refl (fun _ => False) w2).alloc (.cells #[.int .i64 c, .int .i64 i] 31)
  have HF3 := Lib.hid (HF.out.keeps0 (hr.1.trans KA))
  have F0 := Lib.hid (heap_alloc_new w2 (.cells #[.int .i64 c, .int .i64 i] 31))
  have HKA := Lib.hid KA
  have hw1 := HF.out.cells.2.2.2.2
  have hww : w.heap.size ≤ w1.heap.size := HF.out.keep.size
  clear d0 d1 d2 d3 hbx hr KA HT HB HF
  go_upto_region 2 with fail
  generalize w2.alloc (.cells #[.int .i64 c, .int .i64 i] 31) = w3 at HF3 F0 HKA ⊢
  generalize w2.heap.size = b3 at F0 ⊢
  obtain ⟨f0, f1, _, _, fl⟩ := pair_cells F0.out
  obtain ⟨e0, e1, z0, z1, hF⟩ := HF3.out.cells
  go_wp2_with fail
  go_region
  all_goals
    go_wp2
    refine bodyPost_ret (results_tmp2_cell _ _ (w.heap.size + 1) 31 #[.int .i64 c, .int .i64 i] (0, 0) _ rfl rfl (((Keeps.refl (fun _ => False) _).drew).heap (HF3.out.set (.int .i64 c) (.int .i64 i)).1 (fun h => h)) Tryz.underlying31 rfl (by kernel_rfl)) rfl ?_
    exact HR.out.past hww ((HKA.out.mono (S' := fun k => k = w.heap.size + 1) (fun _ _ h => h.elim)).trans ((keeps_pair (w := w3) (w.heap.size + 1) (.int .i64 c) (.int .i64 i)).drew)) (fun k hk => by rw [hk]; exact hw1) ((HF3.out.set (.int .i64 c) (.int .i64 i)).2.drew)

set_option maxRecDepth 100000 in
set_option maxHeartbeats 2000000 in
theorem heuristic_any (w : World) (vi vg vo : Value) (t : Tsk) (kind : Int) (H : Nat → Int) (h : TaskAt w vi vg vo t) :
    Calls Tryz.prog 48 #[.agg #[.int .i64 t.n, vi, vg, vo], .int .i64 kind] w fun e w' => ∃ kb tb qb mb : Nat, e = .returned (.func (.func 82) #[] #[.pointer (some ⟨kb, 0, none⟩), .pointer (some ⟨tb, 0, none⟩), .pointer (some ⟨qb, 0, none⟩)]) ∧
      HeurM t kind H w kb tb qb mb vi vg vo w' ∧ w.heap.size ≤ mb ∧ kb < w'.heap.size ∧ tb < w'.heap.size ∧ qb < w'.heap.size ∧ mb < w'.heap.size ∧ Keeps (fun _ => False) w w' := by
  have hmm := @run_makeMap Tryz.prog
  have hmf : ∀ (fn : Fn) (first cap : Array Value) (w : World), (Instr.makeFunc fn first cap).run Tryz.prog w = .ok (.func fn first cap) w := fun _ _ _ _ => rfl
  obtain ⟨ai, ci, h1, _⟩ := h.init.form
  obtain ⟨ag, cg, h2, _⟩ := h.goal.form
  obtain ⟨ao, co, h3, hmo⟩ := h.ops.form
  subst h1 h2 h3
  clear h
  go_enter Tryz.func48, Tryz.ntmps48
  go_wp2_with fail
  go_ret
  have b1 := heap_alloc_new w (.cells #[.int .i64 t.n, .slice ai t.init.length ci, .slice ag t.goal.length cg, .slice ao t.ops.length co] 25)
  have b2 := heap_alloc_new (w.alloc (.cells #[.int .i64 t.n, .slice ai t.init.length ci, .slice ag t.goal.length cg, .slice ao t.ops.length co] 25)) (.cells #[.int .i64 kind] 3)
  have k2 := (Keeps.refl (fun _ => False) (w.alloc (.cells #[.int .i64 t.n, .slice ai t.init.length ci, .slice ag t.goal.length cg, .slice ao t.ops.length co] 25))).alloc (.cells #[.int .i64 kind] 3)
  have m3 := FMap.made ((w.alloc (.cells #[.int .i64 t.n, .slice ai t.init.length ci, .slice ag t.goal.length cg, .slice ao t.ops.length co] 25)).alloc (.cells #[.int .i64 kind] 3)) intV
  have k3 := (Keeps.refl (fun _ => False) ((w.alloc (.cells #[.int .i64 t.n, .slice ai t.init.length ci, .slice ag t.goal.length cg, .slice ao t.ops.length co] 25)).alloc (.cells #[.int .i64 kind] 3))).alloc (.map #[] 0)
  have b4 := heap_alloc_new (((w.alloc (.cells #[.int .i64 t.n, .slice ai t.init.length ci, .slice ag t.goal.length cg, .slice ao t.ops.length co] 25)).alloc (.cells #[.int .i64 kind] 3)).alloc (.map #[] 0)) (.cells #[.map (some (w.heap.size + 1 + 1))] 75)
  have k4 := (Keeps.refl (fun _ => False) (((w.alloc (.cells #[.int .i64 t.n, .slice ai t.init.length ci, .slice ag t.goal.length cg, .slice ao t.ops.length co] 25)).alloc (.cells #[.int .i64 kind] 3)).alloc (.map #[] 0))).alloc (.cells #[.map (some (w.heap.size + 1 + 1))] 75)
  have k1 := (Keeps.refl (fun _ => False) w).alloc (.cells #[.int .i64 t.n, .slice ai t.init.length ci, .slice ag t.goal.length cg, .slice ao t.ops.length co] 25)
  rw [World.size_alloc] at b2
  rw [World.size_alloc, World.size_alloc] at m3
  rw [World.size_alloc, World.size_alloc, World.size_alloc] at b4
  have k34 := k3.trans k4
  exact ⟨w.heap.size + 1 + 1 + 1, w.heap.size, w.heap.size + 1, w.heap.size + 1 + 1, rfl, ⟨b4, k34.heap (k2.heap b1 (fun h => h)) (fun h => h), k34.heap b2 (fun h => h), ⟨_, m3.keeps k4 (fun h => h), fun x v hx => by cases hx⟩, k1.trans (k2.trans k34)⟩, by omega, by simp only [World.size_alloc]; omega, by simp only [World.size_alloc]; omega, by simp only [World.size_alloc]; omega, by simp only [World.size_alloc]; omega, k1.trans (k2.trans k34)⟩

end Go.Proofs.YtcpmjoabhnfddaaGreat
