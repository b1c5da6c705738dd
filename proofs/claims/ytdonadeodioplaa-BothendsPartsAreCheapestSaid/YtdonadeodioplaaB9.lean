/- CostOf: the cost of a plan. novelty.Plan. A search by novelty of a width that no state exceeds finds a plan if there is one, in plain words. The reference's BestPlans and BestFault. The reference's BestFault. bothends: what meet's two sides say of the task's plans (plain), and what a search for best plans hands back. A map with words as keys, as a function that is not defined everywhere. bothends: a side in memory, and (*side).back. bothends: the closure that notes where the sides meet (meet$1). bothends: newSide. bothends: what advance turns in memory, and the call of the closure behind a fallen price. bothends: the rows of arcs of both sides, as they grow; the cells of a row of arcs. No condition beyond what each theorem says. -/
import Derived.Test.YtdonadeodioplaaB4
import Derived.BigQuiet
import Derived.Test.YtdonadeodioplaaB7
import Derived.Test.YtdonadeodioplaaB8
import Derived.Test.YtdonadeodioplaaB3
import Derived.Test.YtdonadeodioplaaB5

namespace Go.Proofs.Ytdonadeodioplaa
open Go.RowKit

def costAt (t : Tsk) (x : Int) : Int := ((t.ops[x.toNat]?).map Opr.cost).getD 0
def costL (t : Tsk) : List Int → Int
  | [] => 0
  | x :: r => costAt t x + costL t r
def PlanIn (t : Tsk) (p : List Int) : Prop := ∀ x ∈ p, 0 ≤ x ∧ x < (t.ops.length : Int)

theorem costL_append (t : Tsk) : ∀ (a b : List Int), costL t (a ++ b) = costL t a + costL t b
  | [], b => by simp [costL]
  | x :: a, b => by
    show costAt t x + costL t (a ++ b) = (costAt t x + costL t a) + costL t b
    rw [costL_append t a b]; omega
theorem costAt_bound {t : Tsk} (ok : t.Ok) (x : Int) : 0 ≤ costAt t x ∧ costAt t x ≤ 100 := by
  unfold costAt
  cases h : t.ops[x.toNat]? with
  | none => simp
  | some o =>
    have := ok.ops o (List.mem_of_getElem? h)
    simp; exact ⟨this.cost0, this.cost1⟩
theorem costL_bound {t : Tsk} (ok : t.Ok) : ∀ p : List Int, 0 ≤ costL t p ∧ costL t p ≤ 100 * (p.length : Int)
  | [] => by simp [costL]
  | x :: r => by
    have h1 := costAt_bound ok x
    have h2 := costL_bound ok r
    unfold costL
    rw [List.length_cons]
    omega

set_option maxRecDepth 100000 in
set_option maxHeartbeats 2000000 in
theorem costOf_any (w : World) (vi vg vo vp : Value) (t : Tsk) (p : List Int) (h : TaskAt w vi vg vo t) (ok : t.Ok) (hp : Ints w vp p) (hin : PlanIn t p) (hlen : p.length ≤ 1000000) :
    Calls Try.prog 100 #[.agg #[.int .i64 t.n, vi, vg, vo], vp] w fun e w' => e = .returned (.int .i64 (costL t p)) ∧ Keeps (fun _ => False) w w' := by
  obtain ⟨ai, ci, h1, _⟩ := h.init.form
  obtain ⟨ag, cg, h2, _⟩ := h.goal.form
  obtain ⟨ao, co, h3, hmo⟩ := h.ops.form
  obtain ⟨ap, cp, h4, _⟩ := hp.form
  subst h1 h2 h3 h4
  have K1 := (Keeps.refl (fun _ => False) w).alloc (.cells #[.int .i64 t.n, .slice ai t.init.length ci, .slice ag t.goal.length cg, .slice ao t.ops.length co] 25)
  have HB := Lib.hid (Four.new w (.int .i64 t.n) (.slice ai t.init.length ci) (.slice ag t.goal.length cg) (.slice ao t.ops.length co) 25)
  have HOC := Lib.hid (h.ops.cell rfl)
  have CP := Lib.hid (hp.cell rfl)
  have HK := Lib.hid K1; have OK := Lib.hid ok; have HIN := Lib.hid hin
  clear h K1 ok hin hp
  go_enter Try.func100, Try.ntmps100
  go_upto_region 1 with fail
  generalize (w.alloc (.cells #[.int .i64 t.n, .slice ai t.init.length ci, .slice ag t.goal.length cg, .slice ao t.ops.length co] 25)) = w1 at HB HK ⊢
  go_wp2_with fail
  go_loopw [5, 6] (fun v5 v6 wr => ∃ i : Nat, i ≤ p.length ∧ v6 = .int .i64 (i : Int) ∧ v5 = .int .i64 (costL t (p.take i)) ∧ Keeps (fun _ => False) w1 wr) (fun _ v6 _ => p.length - (intOf v6).toNat)
  case atStart => exact ⟨0, Nat.zero_le _, rfl, rfl, Keeps.refl _ _⟩
  case round =>
    obtain ⟨i, hi, rfl, rfl, hkr⟩ := hrel
    have HKR := Lib.hid hkr
    have HB2 := Lib.hid (HB.out.keeps0 hkr)
    obtain ⟨d0, d1, d2, d3⟩ := HB2.out
    have hbx := HB2.out.lt
    have hsz := hkr.size
    clear hkr
    by_cases hlt : i < p.length
    · obtain ⟨bp, op, rfl, hx'⟩ := CP.out (by omega)
      obtain ⟨x, hx⟩ : ∃ x, p[i]? = some x := ⟨_, List.getElem?_eq_getElem hlt⟩
      have hu := HKR.out.cell (HK.out.cell (hx' i x hx) (fun h => h)) (fun h => h)
      have hxi := HIN.out x (List.mem_of_getElem? hx)
      obtain ⟨xn, rfl⟩ : ∃ xn : Nat, x = (xn : Int) := ⟨x.toNat, by omega⟩
      obtain ⟨bo, oo, rfl, ho'⟩ := HOC.out (by omega)
      obtain ⟨o, ho⟩ : ∃ o, t.ops[xn]? = some o := ⟨_, List.getElem?_eq_getElem (by omega)⟩
      obtain ⟨va, vb, vc, _, _, _, c3, _⟩ := ho' xn o ho
      have c3' := HKR.out.cell (HK.out.cell c3 (fun h => h)) (fun h => h)
      have HTK : Hid (costL t (p.take (i + 1)) = costL t (p.take i) + o.cost) := by
        unfold Hid
        rw [take_getS hx, costL_append]
        simp [costL, costAt, ho]
      have hbd := costL_bound OK.out (p.take i)
      have hbl : ((p.take i).length : Int) ≤ 1000000 := by rw [List.length_take]; omega
      have hoc := OK.out.ops o (List.mem_of_getElem? ho)
      have ho0 := hoc.cost0
      have ho1 := hoc.cost1
      have q1 : IntKind.i64.wrap (costL t (p.take i) + o.cost) = costL t (p.take i) + o.cost := IntWalk.i64_in _ (by omega)
      have q2 : ((xn : Int)).toNat = xn := by omega
      have q3 : (0 : Int) ≤ (xn : Int) := by omega
      have q4 : (xn : Int) < (t.ops.length : Int) := hxi.2
      clear hx' hx ho' ho c3 hxi hoc hbl hbd
      go_wp2_with fail
      go_quiet (fail)
      have KD := Lib.hid (HKR.out.drewN nq)
      clear d0 d1 d2 d3 hu c3'
      generalize wr.drewN nq = w5 at KD ⊢
      go_wp2_with fail
      go_roundw
      case rel => exact ⟨i + 1, by omega, by go_num, by rw [HTK.out], KD.out⟩
      case measure => simp only [intOf]; omega
    · have hie : i = p.length := by omega
      subst hie
      go_wp2_with fail
      go_ret
      exact ⟨congrArg (fun u => Ending.returned (Value.int .i64 u)) (show costL t (p.take p.length) = costL t p by rw [List.take_length]), HK.out.trans HKR.out⟩

end Go.Proofs.Ytdonadeodioplaa

/- space.Result. -/
namespace Go.Proofs.Ytdonadeodioplaa
open Go.RowKit

/-- A SearchResult. -/
def resV (found : Bool) (vp : Value) (c n : Int) : Value := .agg #[.bool found, vp, .int .i64 c, .int .i64 n]

theorem quad_set {w : World} {B : Nat} {x0 x1 x2 x3 : Value} {T : TypeId} (h : w.heap[B]? = some (.cells #[x0, x1, x2, x3] T (0, 0))) (a b c d : Value) :
    ((((w.setCell ⟨B, 0, none⟩ a).setCell ⟨B, 1, none⟩ b).setCell ⟨B, 2, none⟩ c).setCell ⟨B, 3, none⟩ d).heap[B]? = some (.cells #[a, b, c, d] T (0, 0)) := by
  rw [blk_set_same (blk_set_same (blk_set_same (blk_set_same h a) b) c) d]; rfl
theorem keeps_quad {w : World} (B : Nat) (a b c d : Value) : Keeps (fun k => k = B) w ((((w.setCell ⟨B, 0, none⟩ a).setCell ⟨B, 1, none⟩ b).setCell ⟨B, 2, none⟩ c).setCell ⟨B, 3, none⟩ d) :=
  ((((Keeps.refl (fun k => k = B) w).setCell (p := ⟨B, 0, none⟩) (.inl rfl) _).setCell (p := ⟨B, 1, none⟩) (.inl rfl) _).setCell (p := ⟨B, 2, none⟩) (.inl rfl) _).setCell (p := ⟨B, 3, none⟩) (.inl rfl) _

def ResultPost (t : Tsk) (vp : Value) (p : List Int) (found : Bool) (n : Int) (w : World) (e : Ending) (w' : World) : Prop := Keeps (fun _ => False) w w' ∧
  ((60 < p.length ∧ e = .returned (.tuple #[resV false (.slice none 0 0) 0 0, fltV 10 (-9)])) ∨
   (p.length ≤ 60 ∧ e = .returned (.tuple #[resV found vp (costL t p) n, fltV 0 0])))

set_option maxRecDepth 100000 in
set_option maxHeartbeats 2000000 in
theorem result_any (w : World) (vi vg vo vp : Value) (t : Tsk) (p : List Int) (found : Bool) (n : Int) (h : TaskAt w vi vg vo t) (ok : t.Ok) (hp : Ints w vp p) (hin : PlanIn t p) :
    Calls Try.prog 54 #[.agg #[.int .i64 t.n, vi, vg, vo], vp, .bool found, .int .i64 n] w (ResultPost t vp p found n w) := by
  obtain ⟨ai, ci, h1, _⟩ := h.init.form
  obtain ⟨ag, cg, h2, _⟩ := h.goal.form
  obtain ⟨ao, co, h3, hmo⟩ := h.ops.form
  obtain ⟨ap, cp, h4, _⟩ := hp.form
  have K1 := (Keeps.refl (fun _ => False) w).alloc (.cells #[.int .i64 t.n, vi, vg, vo] 25)
  have KA := (Keeps.refl (fun _ => False) (w.alloc (.cells #[.int .i64 t.n, vi, vg, vo] 25))).alloc (.cells #[.bool false, .slice none 0 0, .int .i64 0, .int .i64 0] 48)
  have KB := (Keeps.refl (fun _ => False) ((w.alloc (.cells #[.int .i64 t.n, vi, vg, vo] 25)).alloc (.cells #[.bool false, .slice none 0 0, .int .i64 0, .int .i64 0] 48))).alloc (.cells #[.int .i64 0, .int .i64 0] 30)
  have HB := Lib.hid ((Four.new w (.int .i64 t.n) vi vg vo 25).keeps0 (KA.trans KB))
  have HR := Lib.hid (KB.heap (heap_alloc_new (w.alloc (.cells #[.int .i64 t.n, vi, vg, vo] 25)) (.cells #[.bool false, .slice none 0 0, .int .i64 0, .int .i64 0] 48)) (fun h => h))
  have HF : Flt w _ _ 30 := ⟨heap_alloc_new ((w.alloc (.cells #[.int .i64 t.n, vi, vg, vo] 25)).alloc (.cells #[.bool false, .slice none 0 0, .int .i64 0, .int .i64 0] 48)) (.cells #[.int .i64 0, .int .i64 0] 30), by simp; omega, K1.trans (KA.trans KB)⟩
  replace HF := Lib.hid HF
  have HT := Lib.hid (h.keeps0 (K1.trans (KA.trans KB))); have HP := Lib.hid (show Ints _ vp p from hp.keeps0 (K1.trans (KA.trans KB)))
  have OK := Lib.hid ok; have HIN := Lib.hid hin
  rw [World.size_alloc] at HR HF
  rw [World.size_alloc] at HF
  subst h1 h2 h3 h4
  clear h hp hin ok K1 KA KB
  go_enter Try.func54, Try.ntmps54
  go_upto_region 1 with fail
  generalize ((w.alloc (.cells #[.int .i64 t.n, .slice ai t.init.length ci, .slice ag t.goal.length cg, .slice ao t.ops.length co] 25)).alloc (.cells #[.bool false, .slice none 0 0, .int .i64 0, .int .i64 0] 48)).alloc (.cells #[.int .i64 0, .int .i64 0] 30) = w1 at HB HR HF HT HP ⊢
  have r0 : w1.cell? ⟨w.heap.size + 1, 0, none⟩ = some (.bool false) := by rw [cell_of_blk HR.out]; rfl
  have r1 : w1.cell? ⟨w.heap.size + 1, 1, none⟩ = some (.slice none 0 0) := by rw [cell_of_blk HR.out]; rfl
  have r2 : w1.cell? ⟨w.heap.size + 1, 2, none⟩ = some (.int .i64 0) := by rw [cell_of_blk HR.out]; rfl
  have r3 : w1.cell? ⟨w.heap.size + 1, 3, none⟩ = some (.int .i64 0) := by rw [cell_of_blk HR.out]; rfl
  have y0 := frozen_of_blk (o := 0) HR.out
  have y1 := frozen_of_blk (o := 1) HR.out
  have y2 := frozen_of_blk (o := 2) HR.out
  have y3 := frozen_of_blk (o := 3) HR.out
  have hlR := lt_of_heap HR.out
  obtain ⟨e0, e1, z0, z1, hF⟩ := HF.out.cells
  by_cases hlen : 60 < p.length
  · have q1 : decide ((60 : Int) < (p.length : Int)) = true := by simp; omega
    have HLEN := Lib.hid hlen
    have kq := keeps_quad (w := w1) (w.heap.size + 1) (.bool false) (.slice none 0 0) (.int .i64 0) (.int .i64 0)
    have HQ := Lib.hid (quad_set HR.out (.bool false) (.slice none 0 0) (.int .i64 0) (.int .i64 0))
    have HF2 := Lib.hid (HF.out.keepsS kq (by omega) (fun i hi => by omega))
    clear hlen kq
    go_wp2_with fail
    refine bodyPost_ret (results_cell_cell _ _ (w.heap.size + 1 + 1) 30 #[.int .i64 10, .int .i64 (-9)] (0, 0) _ rfl rfl (HF2.out.set (.int .i64 10) (.int .i64 (-9))).1 Try.underlying30 rfl (by kernel_rfl) rfl ((keeps_pair (w.heap.size + 1 + 1) _ _).heap HQ.out (by omega)) Try.underlying48 rfl (by kernel_rfl)) rfl ?_
    exact ⟨(HF2.out.set _ _).2, .inl ⟨HLEN.out, rfl⟩⟩
  · have q1 : decide ((60 : Int) < (p.length : Int)) = false := by simp; omega
    have hlen2 : p.length ≤ 60 := by omega
    have HLEN := Lib.hid hlen2
    have hs1 := HF.out.keep.size
    have HOC := Lib.hid (HT.out.ops.cell rfl)
    have CP := Lib.hid (HP.out.cell rfl)
    have K3 := Lib.hid ((Keeps.refl (fun _ => False) w1).alloc (.cells #[.bool found, .slice ap p.length cp, .int .i64 0, .int .i64 n] 48))
    have HX3 := Lib.hid (heap_alloc_new w1 (.cells #[.bool found, .slice ap p.length cp, .int .i64 0, .int .i64 n] 48))
    have hbw := HB.out.lt
    clear hlen HT HP r0 r1 r2 r3 y0 y1 y2 y3 e0 e1 z0 z1
    go_upto_region 5 with fail
    generalize w1.alloc (.cells #[.bool found, .slice ap p.length cp, .int .i64 0, .int .i64 n] 48) = w3 at K3 HX3 ⊢
    obtain ⟨bx, hbx⟩ : ∃ bx, w1.heap.size = bx := ⟨_, rfl⟩
    have HBX := Lib.hid hbx
    rw [hbx] at hF hlR hs1 hbw
    rw [show w1.heap.size = bx from hbx] at HX3
    rw [hbx]
    clear hbx
    go_loopw [24] (fun v24 wr => ∃ i : Nat, i ≤ p.length ∧ v24 = .int .i64 (i : Int) ∧ wr.heap[bx]? = some (.cells #[.bool found, .slice ap p.length cp, .int .i64 (costL t (p.take i)), .int .i64 n] 48 (0, 0)) ∧ Keeps (fun _ => False) w1 wr) (fun v24 _ => p.length - (intOf v24).toNat)
    case atStart => exact ⟨0, Nat.zero_le _, rfl, HX3.out, K3.out⟩
    case round =>
      obtain ⟨i, hi, rfl, hx, hkr⟩ := hrel
      have HX := Lib.hid hx
      have HKR := Lib.hid hkr
      have HB2 := Lib.hid (HB.out.keeps0 hkr)
      have HF2 := Lib.hid (HF.out.keeps0 hkr)
      have HR2 := Lib.hid (hkr.heap HR.out (fun h => h))
      have s0 : wr.cell? ⟨bx, 0, none⟩ = some (.bool found) := by rw [cell_of_blk hx]; rfl
      have s1 : wr.cell? ⟨bx, 1, none⟩ = some (.slice ap p.length cp) := by rw [cell_of_blk hx]; rfl
      have s2 : wr.cell? ⟨bx, 2, none⟩ = some (.int .i64 (costL t (p.take i))) := by rw [cell_of_blk hx]; rfl
      have s3 : wr.cell? ⟨bx, 3, none⟩ = some (.int .i64 n) := by rw [cell_of_blk hx]; rfl
      have v2 := frozen_of_blk (o := 2) hx
      have hlx := lt_of_heap hx
      clear hkr hx
      by_cases hlt : i < p.length
      · obtain ⟨d0, d1, d2, d3⟩ := HB2.out
        have hbl2 := HB2.out.lt
        obtain ⟨bp, op, rfl, hx'⟩ := CP.out (by omega)
        obtain ⟨x, hx⟩ : ∃ x, p[i]? = some x := ⟨_, List.getElem?_eq_getElem hlt⟩
        have hu := HKR.out.cell (hx' i x hx) (fun h => h)
        have hxi := HIN.out x (List.mem_of_getElem? hx)
        obtain ⟨xn, rfl⟩ : ∃ xn : Nat, x = (xn : Int) := ⟨x.toNat, by omega⟩
        obtain ⟨bo, oo, rfl, ho'⟩ := HOC.out (by omega)
        obtain ⟨o, ho⟩ : ∃ o, t.ops[xn]? = some o := ⟨_, List.getElem?_eq_getElem (by omega)⟩
        obtain ⟨va, vb, vc, _, _, _, c3, _⟩ := ho' xn o ho
        have c3' := HKR.out.cell c3 (fun h => h)
        have HTK : Hid (costL t (p.take (i + 1)) = costL t (p.take i) + o.cost) := by
          unfold Hid
          rw [take_getS hx, costL_append]
          simp [costL, costAt, ho]
        have hbd := costL_bound OK.out (p.take i)
        have hbl : ((p.take i).length : Int) ≤ 1000000 := by rw [List.length_take]; omega
        have hoc := OK.out.ops o (List.mem_of_getElem? ho)
        have ho0 := hoc.cost0
        have ho1 := hoc.cost1
        have q1 : IntKind.i64.wrap (costL t (p.take i) + o.cost) = costL t (p.take i) + o.cost := IntWalk.i64_in _ (by omega)
        have q2 : ((xn : Int)).toNat = xn := by omega
        have q3 : (0 : Int) ≤ (xn : Int) := by omega
        have q4 : (xn : Int) < (t.ops.length : Int) := hxi.2
        clear hx' hx ho' ho c3 hxi hoc hbl hbd
        go_upto_region 7 with fail
        go_still_tail 10, (by kernel_rfl)
        change wpList _ _ _ _ _ wr.drew
        have KD := (Keeps.refl (fun _ => False) wr).drew
        have HXD := Lib.hid (KD.heap HX.out (fun h => h))
        have HKD := Lib.hid (HKR.out.trans KD)
        clear KD d0 d1 d2 d3 hbl2 hu c3' s0 s1 s2 s3 v2 hlx
        generalize wr.drew = w5 at HXD HKD ⊢
        have s2 : w5.cell? ⟨bx, 2, none⟩ = some (.int .i64 (costL t (p.take i))) := by rw [cell_of_blk HXD.out]; rfl
        have v2 := frozen_of_blk (o := 2) HXD.out
        have hlx := lt_of_heap HXD.out
        have HN := Lib.hid (blk_set_same HXD.out (o := 2) (.int .i64 (costL t (p.take i) + o.cost)))
        have HKN := Lib.hid (HKD.out.trans' ((Keeps.refl (fun k => k = bx) w5).setCell (p := ⟨bx, 2, none⟩) (.inl rfl) (.int .i64 (costL t (p.take i) + o.cost))) (fun k hk => .inr (by have := HBX.out; omega)))
        go_wp2_with fail
        go_roundw
        case rel => exact ⟨i + 1, by omega, by go_num, by rw [HTK.out]; exact HN.out, HKN.out⟩
        case measure => simp only [intOf]; omega
      · have hie : i = p.length := by omega
        subst hie
        have r0 : wr.cell? ⟨w.heap.size + 1, 0, none⟩ = some (.bool false) := by rw [cell_of_blk HR2.out]; rfl
        have r1 : wr.cell? ⟨w.heap.size + 1, 1, none⟩ = some (.slice none 0 0) := by rw [cell_of_blk HR2.out]; rfl
        have r2 : wr.cell? ⟨w.heap.size + 1, 2, none⟩ = some (.int .i64 0) := by rw [cell_of_blk HR2.out]; rfl
        have r3 : wr.cell? ⟨w.heap.size + 1, 3, none⟩ = some (.int .i64 0) := by rw [cell_of_blk HR2.out]; rfl
        have y0 := frozen_of_blk (o := 0) HR2.out
        have y1 := frozen_of_blk (o := 1) HR2.out
        have y2 := frozen_of_blk (o := 2) HR2.out
        have y3 := frozen_of_blk (o := 3) HR2.out
        have hlR2 := lt_of_heap HR2.out
        obtain ⟨e0, e1, z0, z1, hF2⟩ := HF2.out.cells
        have HCE : Hid (costL t (p.take p.length) = costL t p) := by unfold Hid; rw [List.take_length]
        have kq := keeps_quad (w := wr) (w.heap.size + 1) (.bool found) (.slice ap p.length cp) (.int .i64 (costL t p)) (.int .i64 n)
        have HQ := Lib.hid (quad_set HR2.out (.bool found) (.slice ap p.length cp) (.int .i64 (costL t p)) (.int .i64 n))
        have HF4 := Lib.hid (HF2.out.keepsS kq (by omega) (fun i hi => by omega))
        rw [HCE.out] at s2
        clear kq HX
        go_wp2_with fail
        refine bodyPost_ret (results_cell_cell _ _ (w.heap.size + 1 + 1) 30 #[.int .i64 0, .int .i64 0] (0, 0) _ rfl rfl (HF4.out.set (.int .i64 0) (.int .i64 0)).1 Try.underlying30 rfl (by kernel_rfl) rfl ((keeps_pair (w.heap.size + 1 + 1) _ _).heap HQ.out (by omega)) Try.underlying48 rfl (by kernel_rfl)) rfl ?_
        exact ⟨(HF4.out.set _ _).2, .inr ⟨HLEN.out, rfl⟩⟩

end Go.Proofs.Ytdonadeodioplaa

namespace Go.Proofs.Ytdonadeodioplaa
open Go.RowKit

/-! ### the plans of a search -/
theorem runOps_lt {ops : List Wop} : ∀ {p : List Nat} {x y : Nat}, runOps ops x p = some y → ∀ o ∈ p, o < ops.length
  | [], _, _, _, _, h => by cases h
  | o :: r, x, y, h, k, hk => by
    rw [runOps] at h
    cases ho : ops[o]? with
    | none => rw [ho] at h; cases h
    | some op =>
      rw [ho] at h; simp only at h
      split at h
      · rcases List.mem_cons.1 hk with rfl | hk
        · exact (List.getElem?_eq_some_iff.1 ho).1
        · exact runOps_lt h k hk
      · cases h

theorem planIn_run {t : Tsk} {p : List Nat} {x y : Nat} (h : runOps (wordsOf t.ops) x p = some y) : PlanIn t (intsP p) := by
  intro z hz
  unfold intsP at hz
  obtain ⟨o, ho, rfl⟩ := List.mem_map.1 hz
  have := runOps_lt h o ho
  unfold wordsOf at this
  rw [List.length_map] at this
  omega

/-! ### two blocks of results -/
structure RFl (w w1 : World) (R F : Nat) : Prop where
  res : w1.heap[R]? = some (.cells #[.bool false, .slice none 0 0, .int .i64 0, .int .i64 0] 48 (0, 0))
  flt : Flt w w1 F 30
  base : w.heap.size ≤ R
  ne : R ≠ F
theorem RFl.keeps0 {w w1 w2 : World} {R F : Nat} (h : RFl w w1 R F) (hk : Keeps (fun _ => False) w1 w2) : RFl w w2 R F := ⟨hk.heap h.res (fun h => h), h.flt.keeps0 hk, h.base, h.ne⟩
theorem RFl.cells {w w1 : World} {R F : Nat} (h : RFl w w1 R F) : w1.cell? ⟨R, 0, none⟩ = some (.bool false) ∧ w1.cell? ⟨R, 1, none⟩ = some (.slice none 0 0) ∧ w1.cell? ⟨R, 2, none⟩ = some (.int .i64 0) ∧ w1.cell? ⟨R, 3, none⟩ = some (.int .i64 0) ∧
    w1.frozen? ⟨R, 0, none⟩ = false ∧ w1.frozen? ⟨R, 1, none⟩ = false ∧ w1.frozen? ⟨R, 2, none⟩ = false ∧ w1.frozen? ⟨R, 3, none⟩ = false ∧ R < w1.heap.size :=
  ⟨by rw [cell_of_blk h.res]; rfl, by rw [cell_of_blk h.res]; rfl, by rw [cell_of_blk h.res]; rfl, by rw [cell_of_blk h.res]; rfl, frozen_of_blk h.res, frozen_of_blk h.res, frozen_of_blk h.res, frozen_of_blk h.res, lt_of_heap h.res⟩
theorem RFl.set {w w1 : World} {R F : Nat} (h : RFl w w1 R F) (a b c d x y : Value) :
    ((((((w1.setCell ⟨R, 0, none⟩ a).setCell ⟨R, 1, none⟩ b).setCell ⟨R, 2, none⟩ c).setCell ⟨R, 3, none⟩ d).setCell ⟨F, 0, none⟩ x).setCell ⟨F, 1, none⟩ y).heap[R]? = some (.cells #[a, b, c, d] 48 (0, 0)) ∧
    ((((((w1.setCell ⟨R, 0, none⟩ a).setCell ⟨R, 1, none⟩ b).setCell ⟨R, 2, none⟩ c).setCell ⟨R, 3, none⟩ d).setCell ⟨F, 0, none⟩ x).setCell ⟨F, 1, none⟩ y).heap[F]? = some (.cells #[x, y] 30 (0, 0)) ∧
    Keeps (fun _ => False) w ((((((w1.setCell ⟨R, 0, none⟩ a).setCell ⟨R, 1, none⟩ b).setCell ⟨R, 2, none⟩ c).setCell ⟨R, 3, none⟩ d).setCell ⟨F, 0, none⟩ x).setCell ⟨F, 1, none⟩ y) ∧
    Keeps (fun k => k = R ∨ k = F) w1 ((((((w1.setCell ⟨R, 0, none⟩ a).setCell ⟨R, 1, none⟩ b).setCell ⟨R, 2, none⟩ c).setCell ⟨R, 3, none⟩ d).setCell ⟨F, 0, none⟩ x).setCell ⟨F, 1, none⟩ y) := by
  have kq := keeps_quad (w := w1) R a b c d
  have hq := quad_set h.res a b c d
  have hf := h.flt.keepsS kq (fun e => h.ne e.symm) (fun i hi => by subst hi; exact h.base)
  have hs := hf.set x y
  exact ⟨(keeps_pair F x y).heap hq h.ne, hs.1, hs.2, (kq.mono (fun _ _ h => .inl h)).trans ((keeps_pair F x y).mono (fun _ _ h => .inr h))⟩

/-- The zero result stays as it is. -/
theorem RFl.ids {w w1 : World} {R F : Nat} (h : RFl w w1 R F) : w1.setCell ⟨R, 0, none⟩ (.bool false) = w1 ∧ w1.setCell ⟨R, 1, none⟩ (.slice none 0 0) = w1 ∧ w1.setCell ⟨R, 2, none⟩ (.int .i64 0) = w1 ∧ w1.setCell ⟨R, 3, none⟩ (.int .i64 0) = w1 :=
  ⟨setCell_id h.cells.1, setCell_id h.cells.2.1, setCell_id h.cells.2.2.1, setCell_id h.cells.2.2.2.1⟩
theorem RFl.fin {w w1 : World} {R F : Nat} (h : RFl w w1 R F) (x y : Value) : ((w1.setCell ⟨F, 0, none⟩ x).setCell ⟨F, 1, none⟩ y).drew.heap[R]? = some (.cells #[.bool false, .slice none 0 0, .int .i64 0, .int .i64 0] 48 (0, 0)) ∧
    ((w1.setCell ⟨F, 0, none⟩ x).setCell ⟨F, 1, none⟩ y).drew.heap[F]? = some (.cells #[x, y] 30 (0, 0)) ∧ Keeps (fun _ => False) w ((w1.setCell ⟨F, 0, none⟩ x).setCell ⟨F, 1, none⟩ y).drew :=
  ⟨(keeps_pair F x y).drew.heap h.res h.ne, (h.flt.set x y).1, (h.flt.set x y).2.drew⟩

theorem quad_cells {w : World} {B : Nat} {a b c d : Value} {T : TypeId} (h : w.heap[B]? = some (.cells #[a, b, c, d] T (0, 0))) : w.cell? ⟨B, 0, none⟩ = some a ∧ w.cell? ⟨B, 1, none⟩ = some b ∧ w.cell? ⟨B, 2, none⟩ = some c ∧ w.cell? ⟨B, 3, none⟩ = some d ∧ B < w.heap.size :=
  ⟨by rw [cell_of_blk h]; rfl, by rw [cell_of_blk h]; rfl, by rw [cell_of_blk h]; rfl, by rw [cell_of_blk h]; rfl, lt_of_heap h⟩

/-! ### what Plan hands back -/
end Go.Proofs.Ytdonadeodioplaa

namespace Go.Proofs.Ytdonadeodioplaa

/-! ### greater states -/
theorem reach_run {ops : List Wop} {s : Nat} : ∀ (q : List Nat) {x y : Nat}, Reach ops s x → runOps ops x q = some y → Reach ops s y
  | [], x, y, hx, hy => by cases hy; exact hx
  | a :: q, x, y, hx, hy => by
    rw [runOps] at hy
    cases ho : ops[a]? with
    | none => rw [ho] at hy; cases hy
    | some o =>
      rw [ho] at hy; simp only at hy
      by_cases hc : o.can x = true
      · rw [if_pos hc] at hy
        exact reach_run q (.step hx (List.mem_map.2 ⟨o, List.mem_filter.2 ⟨List.mem_of_getElem? ho, hc⟩, rfl⟩)) hy
      · rw [if_neg hc] at hy; cases hy

/-! ### the search that finds nothing -/
section
variable {acc : Nat → Bool} {cov : Nat → List Nat → Bool}
end

end Go.Proofs.Ytdonadeodioplaa

namespace Go.Proofs.Ytdonadeodioplaa
open Go.RowKit

/-- What BestPlans hands back for the least price b, or -1. -/
def bestV (b : Int) : Value := if b < 0 then .tuple #[.int .i64 0, .int .i64 0, .bool false] else .tuple #[.int .i64 (b / 4096), .int .i64 (b % 4096), .bool true]
/-- The least price of a plan of the task. -/
def BestT (t : Tsk) (b : Int) : Prop := LeastOf 4096 1 (wordsOf t.ops) (wd t.init) (goalB (wd t.goal)) b
theorem best_small {t : Tsk} (ok : t.Ok) {l : List Nat} (hx : explored t = some l) {b : Int} (h : BestT t b) : -1 ≤ b ∧ b ≤ 1000000000 := by
  rcases h with ⟨h1, _⟩ | ⟨h1, ⟨p, y, hp, hy, _⟩, h3⟩
  · omega
  · obtain ⟨_, _, _, hsh, hfew, _, _, n8⟩ := costs_need ok hx (List.Perm.refl l)
    have hr := (reached_some (ops := wordsOf t.ops) (s := wd t.init) (l := l) hx).2.2.2
    obtain ⟨q, h4, h5, h6⟩ := short_run (L := l) (ops_cost0 ok) (fun p z hz => (hr z).2 (reach_run p .refl hz)) p.length (Nat.le_refl _) hp
    have := h3 q y h4 hy
    have h7 := (costN_bound (ops_cost0 ok) q).2
    rw [wayN_split] at this
    omega

set_option maxRecDepth 100000 in
set_option maxHeartbeats 4000000 in
theorem bestPlans_any (w : World) (vi vg vo : Value) (t : Tsk) {l : List Nat} (h : TaskAt w vi vg vo t) (ok : t.Ok) (hx : explored t = some l) :
    Calls Try.prog 97 #[.agg #[.int .i64 t.n, vi, vg, vo]] w fun e w' => ∃ b, e = .returned (bestV b) ∧ BestT t b ∧ Keeps (fun _ => False) w w' := by
  obtain ⟨ai, ci, h1, _⟩ := h.init.form
  obtain ⟨ag, cg, h2, _⟩ := h.goal.form
  obtain ⟨ao, co, h3, hmo⟩ := h.ops.form
  subst h1 h2 h3
  have HB := Lib.hid (Four.new w (.int .i64 t.n) (.slice ai t.init.length ci) (.slice ag t.goal.length cg) (.slice ao t.ops.length co) 25)
  have K1 := (Keeps.refl (fun _ => False) w).alloc (.cells #[.int .i64 t.n, .slice ai t.init.length ci, .slice ag t.goal.length cg, .slice ao t.ops.length co] 25)
  have HT := Lib.hid (h.keeps0 K1); have HK := Lib.hid K1
  have OK := Lib.hid ok; have HX := Lib.hid hx
  obtain ⟨_, _, _, hsh, hfew, _, _, n8⟩ := costs_need ok hx (List.Perm.refl l)
  have hrs := reached_some (ops := wordsOf t.ops) (s := wd t.init) (l := l) hx
  have HSH := Lib.hid hsh; have HR := Lib.hid hrs.2.2.2; have H0 := Lib.hid hrs.2.2.1
  have HG := Lib.hid (show ∀ x ∈ l, Good t.n x from fun x h => good_reach ok (good_wd (by have := ok.n1; omega) ok.init) ((hrs.2.2.2 x).1 h))
  have HAR := Lib.hid (show ∀ a ∈ arcs (wordsOf t.ops) l, a.frm < l.length ∧ a.to < l.length ∧ 0 ≤ a.cost ∧ a.cost ≤ 100 from fun a ha => by
    obtain ⟨x, o, g1, g2, g3, g4, g5⟩ := mem_arcs.1 ha
    have := ops_cost0 ok o (List.mem_of_getElem? g2)
    rw [g4]
    exact ⟨(List.getElem?_eq_some_iff.1 g1).1, (List.getElem?_eq_some_iff.1 g5).1, this⟩)
  have hl0 : 0 < l.length := List.length_pos_of_mem n8
  clear h K1 ok hx hsh n8 hrs
  go_enter Try.func97, Try.ntmps97
  go_upto_region 1 with fail
  generalize (w.alloc (.cells #[.int .i64 t.n, .slice ai t.init.length ci, .slice ag t.goal.length cg, .slice ao t.ops.length co] 25)) = w1 at HB HT HK ⊢
  generalize w.heap.size = bt at HB ⊢
  have hbx := HB.out.lt
  obtain ⟨d0, d1, d2, d3⟩ := HB.out
  go_wp2_with fail
  refine (reached_any _ _ _ _ t HT.out OK.out).mono ?_; rintro e w2 ⟨hk, hr⟩
  rcases hr with ⟨hn, _⟩ | ⟨l', hl', v, vw, vs, rfl, hrows⟩
  · exact absurd (hn.symm.trans HX.out) (by simp)
  obtain rfl : l = l' := by have := hl'.symm.trans HX.out; cases this; rfl
  have hli := hrows.lists
  obtain ⟨a5, c5, hv5, _⟩ := hli.form
  rw [List.length_map] at hv5
  subst hv5
  have HL2 := Lib.hid hli; have HB2 := Lib.hid (HB.out.keeps0 hk); have HT2 := Lib.hid (HT.out.keeps0 hk); have K2 := Lib.hid (HK.out.trans hk)
  clear hk hl' hrows hli d0 d1 d2 d3 hbx HB HT HK
  have hbx := HB2.out.lt
  obtain ⟨d0, d1, d2, d3⟩ := HB2.out
  go_wp2_with fail
  refine (arcs_any _ _ _ _ _ t l HT2.out OK.out HL2.out HG.out hfew).mono ?_; rintro e w3 ⟨va, rfl, hoa, hk⟩
  obtain ⟨aa, ca, haa⟩ := ownsRow_formS hoa
  subst haa
  have HA3 := Lib.hid hoa.at
  have HL3 := Lib.hid (HL2.out.keeps0 hk); have HB3 := Lib.hid (HB2.out.keeps0 hk); have HT3 := Lib.hid (HT2.out.keeps0 hk); have K3 := Lib.hid (K2.out.trans hk)
  clear hk hoa d0 d1 d2 d3 hbx HB2 HT2 K2 HL2
  go_wp2_with fail
  refine (prices_any _ _ _ (l.map facts) (arcs (wordsOf t.ops) l) 0 4096 1 HL3.out HA3.out (by rw [List.length_map]; omega) (by rw [List.length_map]; exact hl0) (by rw [List.length_map]; exact HAR.out) (by decide) (by decide) (by decide) (by decide)).mono ?_; rintro e w4 ⟨vp, d, rfl, hpo, hown, hk⟩
  rw [List.length_map] at hpo hown
  have HPO := Lib.hid hpo
  have hpl : d.length = l.length := hpo.len
  rw [← hpl] at hown
  obtain ⟨ap, cp, hv⟩ := ownsRow_form1 hown
  have HP4 := Lib.hid (Ints.of_own hown)
  rw [hpl] at hv
  subst hv
  have HL4 := Lib.hid (HL3.out.keeps0 hk); have HB4 := Lib.hid (HB3.out.keeps0 hk); have HT4 := Lib.hid (HT3.out.keeps0 hk); have K4 := Lib.hid (K3.out.trans hk)
  clear hk hown hpo HB3 HT3 K3 HL3 HA3
  have hbx := HB4.out.lt
  obtain ⟨d0, d1, d2, d3⟩ := HB4.out
  go_wp2_with fail
  refine (goals_any _ _ _ _ _ t l HT4.out HL4.out hfew).mono ?_; rintro e w5 ⟨vb, rfl, hob, hk⟩
  obtain ⟨ab, cb, hab⟩ := ownsRow_form1 hob
  subst hab
  have HO5 := Lib.hid (show Bools w5 (.slice ab l.length cb) (l.map (goalB (wd t.goal))) by rw [← goals_eq OK.out HG.out]; unfold Bools; rw [List.length_map]; exact Sl.of_own hob)
  have HP5 := Lib.hid (HP4.out.keeps0 hk); have K5 := Lib.hid (K4.out.trans hk)
  clear hk hob d0 d1 d2 d3 hbx HB4 HT4 K4 HL4 HP4
  have HCP := Lib.hid (HP5.out.cell (show Value.slice ap l.length cp = .slice ap l.length cp from rfl))
  have HCB := Lib.hid (Sl.cellN HO5.out rfl)
  have HLEN := Lib.hid hpl
  have HGL := Lib.hid (show (l.map (goalB (wd t.goal))).length = l.length from List.length_map _)
  go_wp2_with fail
  go_loopw [9, 10] (fun v9 v10 wr => ∃ i : Nat, i ≤ l.length ∧ v10 = .int .i64 (i : Int) ∧ v9 = .int .i64 (bestTo d (l.map (goalB (wd t.goal))) i) ∧ Keeps (fun _ => False) w5 wr) (fun _ v10 _ => l.length - (intOf v10).toNat)
  case atStart => exact ⟨0, Nat.zero_le _, rfl, rfl, Keeps.refl _ _⟩
  case round =>
    obtain ⟨i, hi, rfl, rfl, hkr⟩ := hrel
    have HKR := Lib.hid hkr
    clear hkr
    by_cases hlt : i < l.length
    · obtain ⟨x, hx⟩ : ∃ x, l[i]? = some x := ⟨_, List.getElem?_eq_getElem hlt⟩
      obtain ⟨z, hz⟩ : ∃ z, d[i]? = some z := ⟨_, List.getElem?_eq_getElem (by omega)⟩
      obtain ⟨bp, op, rfl, hpc⟩ := HCP.out (by omega)
      obtain ⟨bb, ob, rfl, hbc⟩ := HCB.out (by rw [HGL.out]; omega)
      have q1 := HKR.out.cell (hpc i z hz) (fun h => h)
      have hgi : (l.map (goalB (wd t.goal)))[i]? = some (goalB (wd t.goal) x) := by rw [List.getElem?_map, hx]; rfl
      have q2 := HKR.out.cell (hbc i (.bool (goalB (wd t.goal) x)) (by rw [List.getElem?_map, hgi]; rfl)) (fun h => h)
      have HN := Lib.hid (show bestTo d (l.map (goalB (wd t.goal))) (i + 1) = if goalB (wd t.goal) x = true ∧ (bestTo d (l.map (goalB (wd t.goal))) i < 0 ∨ z < bestTo d (l.map (goalB (wd t.goal))) i) then z else bestTo d (l.map (goalB (wd t.goal))) i by
        rw [bestTo, hgi, hz]; simp)
      clear hpc hbc hgi hz hx
      generalize hbt : bestTo d (l.map (goalB (wd t.goal))) i = b at HN ⊢
      have hilt : (i : Int) < (l.length : Int) := by omega
      cases hg : goalB (wd t.goal) x with
      | false =>
        rw [hg] at q2
        have HE := Lib.hid (show bestTo d (l.map (goalB (wd t.goal))) (i + 1) = b by rw [HN.out, hg]; simp)
        clear hg HN hbt
        go_wp2_with fail
        go_roundw
        case rel => exact ⟨i + 1, by omega, by go_num, by rw [HE.out], HKR.out⟩
        case measure => simp [intOf]; omega
      | true =>
        rw [hg] at q2
        by_cases hb0 : b < 0
        · have hb1 : decide (b < 0) = true := by simpa using hb0
          have HE := Lib.hid (show bestTo d (l.map (goalB (wd t.goal))) (i + 1) = z by rw [HN.out, hg, if_pos ⟨rfl, .inl hb0⟩])
          clear hg HN hbt hb0
          go_wp2_with fail
          go_roundw
          case rel => exact ⟨i + 1, by omega, by go_num, by rw [HE.out], HKR.out⟩
          case measure => simp [intOf]; omega
        · have hb1 : decide (b < 0) = false := by simpa using hb0
          by_cases hzb : z < b
          · have hb2 : decide (z < b) = true := by simpa using hzb
            have HE := Lib.hid (show bestTo d (l.map (goalB (wd t.goal))) (i + 1) = z by rw [HN.out, hg, if_pos ⟨rfl, .inr hzb⟩])
            clear hg HN hbt hb0 hzb
            go_wp2_with fail
            go_roundw
            case rel => exact ⟨i + 1, by omega, by go_num, by rw [HE.out], HKR.out⟩
            case measure => simp [intOf]; omega
          · have hb2 : decide (z < b) = false := by simpa using hzb
            have HE := Lib.hid (show bestTo d (l.map (goalB (wd t.goal))) (i + 1) = b by rw [HN.out, hg, if_neg (fun e => by rcases e.2 with e | e <;> omega)])
            clear hg HN hbt hb0 hzb
            go_wp2_with fail
            go_roundw
            case rel => exact ⟨i + 1, by omega, by go_num, by rw [HE.out], HKR.out⟩
            case measure => simp [intOf]; omega
    · obtain rfl : i = l.length := by omega
      have HBT := Lib.hid (show BestT t (bestTo d (l.map (goalB (wd t.goal))) l.length) from best_of_prices HSH.out (fun x hx => reach_path ((HR.out x).1 hx)) H0.out (fun a ha => by have := (HAR.out a ha).2.2.1; omega) HPO.out (goalB (wd t.goal)))
      obtain ⟨hb1, hb2⟩ := best_small OK.out HX.out HBT.out
      generalize bestTo d (l.map (goalB (wd t.goal))) l.length = b at HBT hb1 hb2 ⊢
      by_cases hb0 : b < 0
      · have hb3 : decide (b < 0) = true := by simpa using hb0
        go_wp2_with fail
        go_ret3
        have ev : bestV b = .tuple #[.int .i64 0, .int .i64 0, .bool false] := by unfold bestV; rw [if_pos (by omega)]
        exact ⟨b, by rw [ev]; rfl, HBT.out, K5.out.trans HKR.out⟩
      · have hb3 : decide (b < 0) = false := by simpa using hb0
        have e1 : Int.tdiv b 4096 = b / 4096 := Int.tdiv_eq_ediv_of_nonneg (by omega)
        have e2 : Int.tmod b 4096 = b % 4096 := Int.tmod_eq_emod_of_nonneg (by omega)
        go_wp2_with fail
        go_ret3
        have ev : bestV b = .tuple #[.int .i64 (b / 4096), .int .i64 (b % 4096), .bool true] := by unfold bestV; rw [if_neg (by omega)]
        exact ⟨b, by rw [ev]; rfl, HBT.out, K5.out.trans HKR.out⟩

end Go.Proofs.Ytdonadeodioplaa

namespace Go.Proofs.Ytdonadeodioplaa
open Go.RowKit

/-- The steps of a best plan with the least price b. -/
def stepsB (b : Int) : Int := if b < 0 then 0 else b % 4096
/-- What BestFault hands back. -/
def BestFl (t : Tsk) (c i : Int) : Prop := (c ≠ 0 ∧ expF t = (c, i)) ∨ (t.Ok ∧ expF t = (0, 0) ∧ ∃ l b, explored t = some l ∧ BestT t b ∧ ((60 < stepsB b ∧ c = 10 ∧ i = -9) ∨ (stepsB b ≤ 60 ∧ c = 0 ∧ i = 0)))

set_option maxRecDepth 100000 in
set_option maxHeartbeats 2000000 in
theorem bestFault_any (w : World) (vi vg vo : Value) (t : Tsk) (h : TaskAt w vi vg vo t) :
    Calls Try.prog 57 #[.agg #[.int .i64 t.n, vi, vg, vo]] w fun e w' => ∃ c i, e = .returned (.agg #[.int .i64 c, .int .i64 i]) ∧ BestFl t c i ∧ Keeps (fun _ => False) w w' := by
  obtain ⟨ai, ci, h1, _⟩ := h.init.form
  obtain ⟨ag, cg, h2, _⟩ := h.goal.form
  obtain ⟨ao, co, h3, hmo⟩ := h.ops.form
  subst h1 h2 h3
  have K1 := (Keeps.refl (fun _ => False) w).alloc (.cells #[.int .i64 t.n, .slice ai t.init.length ci, .slice ag t.goal.length cg, .slice ao t.ops.length co] 25)
  have HT := h.keeps0 (K1.alloc (.cells #[.int .i64 0, .int .i64 0] 30))
  have HB := (Four.new w (.int .i64 t.n) (.slice ai t.init.length ci) (.slice ag t.goal.length cg) (.slice ao t.ops.length co) 25).keeps0 ((Keeps.refl _ _).alloc (.cells #[.int .i64 0, .int .i64 0] 30))
  have HF : Flt w ((w.alloc (.cells #[.int .i64 t.n, .slice ai t.init.length ci, .slice ag t.goal.length cg, .slice ao t.ops.length co] 25)).alloc (.cells #[.int .i64 0, .int .i64 0] 30)) (w.heap.size + 1) 30 :=
    ⟨by have := heap_alloc_new (w.alloc (.cells #[.int .i64 t.n, .slice ai t.init.length ci, .slice ag t.goal.length cg, .slice ao t.ops.length co] 25)) (.cells #[.int .i64 0, .int .i64 0] 30); rwa [World.size_alloc] at this, by omega, K1.alloc _⟩
  replace HT := Lib.hid HT; replace HB := Lib.hid HB; replace HF := Lib.hid HF
  clear h K1
  go_enter Try.func57, Try.ntmps57
  go_upto_region 1 with fail
  generalize ((w.alloc (.cells #[.int .i64 t.n, .slice ai t.init.length ci, .slice ag t.goal.length cg, .slice ao t.ops.length co] 25)).alloc (.cells #[.int .i64 0, .int .i64 0] 30)) = w1 at HT HB HF ⊢
  have hbx := HB.out.lt
  obtain ⟨d0, d1, d2, d3⟩ := HB.out
  go_wp2_with fail
  refine (explored_any _ _ _ _ t HT.out).mono ?_; rintro e w2 ⟨rfl, hk⟩
  generalize hfe : expF t = f
  have HFE := Lib.hid hfe
  have KA := (Keeps.refl (fun _ => False) w2).alloc (.cells #[.int .i64 f.1, .int .i64 f.2] 30)
  have HB3 := Lib.hid (HB.out.keeps0 (hk.trans KA)); have HT3 := Lib.hid (HT.out.keeps0 (hk.trans KA)); have HF3 := Lib.hid (HF.out.keeps0 (hk.trans KA))
  have F0 := Lib.hid (heap_alloc_new w2 (.cells #[.int .i64 f.1, .int .i64 f.2] 30))
  have hlt2 : w.heap.size + 1 < w2.heap.size := Nat.lt_of_lt_of_le HF.out.cells.2.2.2.2 hk.size
  clear d0 d1 d2 d3 hbx hk KA hfe HB HT HF
  go_upto_region 2 with fail
  generalize w2.alloc (.cells #[.int .i64 f.1, .int .i64 f.2] 30) = w3 at HB3 HT3 HF3 F0 ⊢
  generalize w2.heap.size = b3 at F0 hlt2 ⊢
  obtain ⟨p0, p1, _, _, pl⟩ := pair_cells F0.out
  by_cases hc : f.1 = 0
  · have hq : (f.1 != 0) = false := by simpa using hc
    rcases exp_cases t with ⟨c, i, hcc, he⟩ | ⟨hok, l, hx, he⟩
    · rw [HFE.out] at he; rw [he] at hc; exact absurd hc hcc
    have OK := Lib.hid hok; have HX := Lib.hid hx; have HE := Lib.hid he
    clear hok hx he hc
    have hbx := HB3.out.lt
    obtain ⟨d0, d1, d2, d3⟩ := HB3.out
    go_wp2_with fail
    refine (bestPlans_any _ _ _ _ t HT3.out OK.out HX.out).mono ?_; rintro e w4 ⟨b, rfl, hb, hk⟩
    obtain ⟨hb1, hb2⟩ := best_small OK.out HX.out hb
    have HBT := Lib.hid hb
    have HF4 := Lib.hid (HF3.out.keeps0 hk)
    obtain ⟨ok, bv⟩ : ∃ ok cc, bestV b = .tuple #[.int .i64 cc, .int .i64 (stepsB b), .bool ok] := by
      unfold bestV stepsB
      by_cases h0 : b < 0
      · rw [if_pos h0, if_pos h0]; exact ⟨_, _, rfl⟩
      · rw [if_neg h0, if_neg h0]; exact ⟨_, _, rfl⟩
    obtain ⟨cc, bv⟩ := bv
    rw [bv]
    have F4 := hk.heap F0.out (fun h => h)
    clear p0 p1 pl d0 d1 d2 d3 hbx hb bv hk
    obtain ⟨p0, p1, _, _, pl⟩ := pair_cells F4
    obtain ⟨e0, e1, z0, z1, hF⟩ := HF4.out.cells
    have hsb : stepsB b < 5000 ∧ 0 ≤ stepsB b := by unfold stepsB; split <;> omega
    by_cases h60 : 60 < stepsB b
    · have q : decide (60 < stepsB b) = true := by simpa using h60
      have H6 := Lib.hid h60
      generalize hsv : stepsB b = sv at q hsb ⊢
      clear h60
      go_wp2_with fail
      refine (at_any _ _ _).mono ?_; rintro e w5 ⟨rfl, hk5⟩
      have HF5 := Lib.hid (HF4.out.keeps0 hk5)
      clear e0 e1 z0 z1 hF hk5
      obtain ⟨e0, e1, z0, z1, hF⟩ := HF5.out.cells
      go_wp2_with fail
      refine bodyPost_ret (results_cell_row rfl _ _ (w.heap.size + 1) 30 _ (0, 0) _ rfl (HF5.out.set (.int .i64 10) (.int .i64 (-9))).1 Try.underlying30 rfl (by kernel_rfl)) rfl ?_
      exact ⟨10, -9, rfl, .inr ⟨OK.out, HE.out, l, b, HX.out, HBT.out, .inl ⟨H6.out, rfl, rfl⟩⟩, (HF5.out.set _ _).2⟩
    · have q : decide (60 < stepsB b) = false := by simpa using h60
      have H6 := Lib.hid (show stepsB b ≤ 60 by omega)
      have hf12 : f.1 = 0 ∧ f.2 = 0 := by have := HFE.out.symm.trans HE.out; rw [this]; exact ⟨rfl, rfl⟩
      rw [hf12.1] at p0; rw [hf12.2] at p1
      generalize hsv : stepsB b = sv at q hsb ⊢
      clear h60
      go_wp2_with fail
      refine bodyPost_ret (results_cell_row rfl _ _ (w.heap.size + 1) 30 _ (0, 0) _ rfl (HF4.out.set (.int .i64 0) (.int .i64 0)).1 Try.underlying30 rfl (by kernel_rfl)) rfl ?_
      exact ⟨0, 0, rfl, .inr ⟨OK.out, HE.out, l, b, HX.out, HBT.out, .inr ⟨H6.out, rfl, rfl⟩⟩, (HF4.out.set _ _).2⟩
  · have hq : (f.1 != 0) = true := by simpa using hc
    have HC := Lib.hid hc
    clear hc
    obtain ⟨e0, e1, z0, z1, hF⟩ := HF3.out.cells
    go_wp2_with fail
    refine bodyPost_ret (results_cell_row rfl _ _ (w.heap.size + 1) 30 _ (0, 0) _ rfl (HF3.out.set (.int .i64 f.1) (.int .i64 f.2)).1 Try.underlying30 rfl (by kernel_rfl)) rfl ?_
    exact ⟨f.1, f.2, rfl, .inl ⟨HC.out, HFE.out⟩, (HF3.out.set _ _).2⟩

end Go.Proofs.Ytdonadeodioplaa

namespace Go.Proofs.Ytdonadeodioplaa
open Go.RowKit

/-- What is found of the best plan b: at_ lies on its way. -/
structure Mid (t : Tsk) (best : Int) (at_ : Nat) (par par' : Nat → Option SArc) (a b : Int) (o1 o2 : List Nat) (e : Nat) : Prop where
  c1 : Chain par at_ o1 (wd t.init)
  c2 : Chain par' at_ o2 e
  l1 : o1.length ≤ 2000
  l2 : o2.length ≤ 2000
  a0 : 0 ≤ a ∧ a ≤ 1000000000
  b0 : 0 ≤ b ∧ b ≤ 1000000000
  sum : a + b = best
  r1 : runOps (wordsOf t.ops) (wd t.init) o1.reverse = some at_
  r2 : runOps (wordsOf t.ops) at_ o2 = some e
  acc : goalB (wd t.goal) e = true
  run : runOps (wordsOf t.ops) (wd t.init) (o1.reverse ++ o2) = some e
  len : ((o1.reverse ++ o2).length : Int) = best % 4096
  cost : costN (wordsOf t.ops) (o1.reverse ++ o2) = best / 4096
  m1 : a / 4096 = costN (wordsOf t.ops) o1.reverse
  m2 : b / 4096 = costN (wordsOf t.ops) o2
  q1 : ∀ q, runOps (wordsOf t.ops) (wd t.init) q = some at_ → costN (wordsOf t.ops) o1.reverse ≤ costN (wordsOf t.ops) q
  q2 : ∀ q y, runOps (wordsOf t.ops) at_ q = some y → goalB (wd t.goal) y = true → costN (wordsOf t.ops) o2 ≤ costN (wordsOf t.ops) q
  q3 : ∀ q y, runOps (wordsOf t.ops) (wd t.init) q = some y → goalB (wd t.goal) y = true → costN (wordsOf t.ops) o1.reverse + costN (wordsOf t.ops) o2 ≤ costN (wordsOf t.ops) q

theorem meet_plain {t : Tsk} (ok : t.Ok) {l ws : List Nat} (hx : explored t = some l) (hp : ws.Perm l) {P P' : Nat → Option Int} {par par' : Nat → Option SArc} {A A' : List (Int × Int)} {best : Int} {at_ : Nat} {found : Bool}
    (hf : SideI (nextG (wordsOf t.ops) ws) (fun x => x ∈ [wd t.init]) ws 409601 P par A 0 []) (hb : SideI (lastG (wordsOf t.ops) ws) (fun x => x ∈ ws.filter (goalB (wd t.goal))) ws 409601 P' par' A' 0 []) (hm : MeetI P P' best at_ found) (he : Ends A A' found best) :
    (found = false ∧ BestT t (-1)) ∨ (found = true ∧ BestT t best ∧ 0 ≤ best ∧ at_ ∈ ws ∧ ∃ o1 o2 e a b, P at_ = some a ∧ P' at_ = some b ∧ Mid t best at_ par par' a b o1 o2 e) := by
  obtain ⟨hs32, hg32, hmany, hsh, hfew, hL32, _, hin⟩ := costs_need ok hx hp
  have h0 := ops_cost0 ok
  have hr := (reached_some (ops := wordsOf t.ops) (s := wd t.init) (l := l) hx).2.2.2
  have hcl : ∀ x ∈ ws, ∀ p y, runOps (wordsOf t.ops) x p = some y → y ∈ ws := fun x hxw p y h => hp.mem_iff.2 ((hr y).2 (reach_run p ((hr x).1 (hp.mem_iff.1 hxw)) h))
  rcases both_best nextG_all lastG_all nextG_only lastG_only hsh h0 (hcl _ hin) hf hb hm he with ⟨h1, h2⟩ | ⟨h1, h2, o1, o2, e, a, b, c1, c2, l1, l2, ha, hb', hab, hat, r1, r2, hacc, w1, w2⟩
  · exact .inl ⟨h1, h2⟩
  · have hl1 : o1.reverse.length ≤ ws.length := by rw [List.length_reverse]; exact l1
    obtain ⟨m1, m2, q1, q2, q3⟩ := mid_least h0 hfew hcl hin r1 r2 hacc hl1 l2 (by rw [w1, w2]; exact hab) h2
    have hall : runOps (wordsOf t.ops) (wd t.init) (o1.reverse ++ o2) = some e := by rw [runOps_append, r1]; exact r2
    have hw : wayN 4096 1 (wordsOf t.ops) (o1.reverse ++ o2) = best := by rw [wayN_append, w1, w2]; exact hab
    have hsp := wayN_split (wordsOf t.ops) (o1.reverse ++ o2)
    have hlen : (o1.reverse ++ o2).length ≤ 4000 := by rw [List.length_append]; omega
    have hc0 := (costN_bound h0 (o1.reverse ++ o2)).1
    have ga := hf.lo _ _ ha
    have gb := hb.lo _ _ hb'
    have ka := knownB_le ws P
    have kb := knownB_le ws P'
    exact .inr ⟨h1, h2, by omega, hat, o1, o2, e, a, b, ha, hb', c1, c2, by omega, by omega, ⟨ga.1, by omega⟩, ⟨gb.1, by omega⟩, hab, r1, r2, hacc, hall, by omega, by omega, by rw [← w1]; exact m1, by rw [← w2]; exact m2, q1, q2, q3⟩

/-- What a search hands back whose plans are best, where b is the least price. -/
structure BPlanG (t : Tsk) (l : List Nat) (b : Int) (fnd : Bool) (lp : List Int) (c n : Int) : Prop where
  n : 0 ≤ n ∧ n ≤ (l.length : Int)
  none_ : b < 0 → fnd = false ∧ lp = [] ∧ c = 0
  some_ : 0 ≤ b → fnd = true ∧ ∃ q y, lp = intsP q ∧ runOps (wordsOf t.ops) (wd t.init) q = some y ∧ goalB (wd t.goal) y = true ∧ (q.length : Int) = b % 4096 ∧ costN (wordsOf t.ops) q = b / 4096 ∧ c = costL t lp

def BPlanIs (t : Tsk) (fnd : Bool) (lp : List Int) (c n fc fi : Int) : Prop :=
  (fc ≠ 0 ∧ expF t = (fc, fi) ∧ fnd = false ∧ lp = [] ∧ c = 0 ∧ n = 0) ∨
  (expF t = (0, 0) ∧ t.Ok ∧ ∃ l b, explored t = some l ∧ BestT t b ∧ ((60 < stepsB b ∧ fc = 10 ∧ fi = -9 ∧ fnd = false ∧ lp = [] ∧ c = 0 ∧ n = 0) ∨ (stepsB b ≤ 60 ∧ fc = 0 ∧ fi = 0 ∧ BPlanG t l b fnd lp c n)))
def BPlanPost (t : Tsk) (w : World) (e : Ending) (w' : World) : Prop := Keeps (fun _ => False) w w' ∧ ∃ fnd vp lp c n fc fi, e = .returned (.tuple #[resV fnd vp c n, fltV fc fi]) ∧ Ints w' vp lp ∧ BPlanIs t fnd lp c n fc fi

theorem expF_bad {t : Tsk} (h : (taskFault t).1 ≠ 0) : expF t = taskFault t := by unfold expF; rw [if_neg h]
theorem expF_many {t : Tsk} (ok : t.Ok) (h : explored t = none) : expF t = (10, -7) := by unfold expF; rw [if_pos (taskFault_zero.2 ok), h]
theorem expF_ok {t : Tsk} (ok : t.Ok) {l : List Nat} (h : explored t = some l) : expF t = (0, 0) := by unfold expF; rw [if_pos (taskFault_zero.2 ok), h]

/-- No plan is found. -/
theorem bplan_none {t : Tsk} (ok : t.Ok) {l : List Nat} (hx : explored t = some l) (hb : BestT t (-1)) {n : Int} (hn : 0 ≤ n ∧ n ≤ (l.length : Int)) : BPlanIs t false [] 0 n 0 0 :=
  .inr ⟨expF_ok ok hx, ok, l, -1, hx, hb, .inr ⟨by decide, rfl, rfl, hn, fun _ => ⟨rfl, rfl, rfl⟩, fun h => absurd h (by decide)⟩⟩
/-- A plan q is found. -/
theorem bplan_short {t : Tsk} (ok : t.Ok) {l : List Nat} (hx : explored t = some l) {b : Int} (hb : BestT t b) (h0 : 0 ≤ b) {q : List Nat} {y : Nat} (hr : runOps (wordsOf t.ops) (wd t.init) q = some y) (ha : goalB (wd t.goal) y = true) (hl : (q.length : Int) = b % 4096) (hc : costN (wordsOf t.ops) q = b / 4096) (h60 : q.length ≤ 60) {n : Int} (hn : 0 ≤ n ∧ n ≤ (l.length : Int)) :
    BPlanIs t true (intsP q) (costL t (intsP q)) n 0 0 :=
  .inr ⟨expF_ok ok hx, ok, l, b, hx, hb, .inr ⟨by unfold stepsB; rw [if_neg (by omega)]; omega, rfl, rfl, hn, fun h => absurd h (by omega), fun _ => ⟨rfl, q, y, rfl, hr, ha, hl, hc, rfl⟩⟩⟩
theorem bplan_long {t : Tsk} (ok : t.Ok) {l : List Nat} (hx : explored t = some l) {b : Int} (hb : BestT t b) (h0 : 0 ≤ b) {q : List Nat} (hl : (q.length : Int) = b % 4096) (h60 : 60 < q.length) : BPlanIs t false [] 0 0 10 (-9) :=
  .inr ⟨expF_ok ok hx, ok, l, b, hx, hb, .inl ⟨by unfold stepsB; rw [if_neg (by omega)]; omega, rfl, rfl, rfl, rfl, rfl, rfl⟩⟩

end Go.Proofs.Ytdonadeodioplaa

namespace Go.Proofs.Ytdonadeodioplaa
open Go.RowKit

def FMap {α : Type} (w : World) (b : Nat) (enc : α → Value) (f : Nat → Option α) : Prop :=
  ∃ l : List (Nat × α), IMap w b .u32 (l.map fun p => ((p.1 : Int), enc p.2)) ∧ (l.map Prod.fst).Nodup ∧ ∀ x v, f x = some v ↔ (x, v) ∈ l

section
variable {α : Type} {w : World} {b : Nat} {enc : α → Value} {f : Nat → Option α}
theorem FMap.keeps {S : Nat → Prop} {w' : World} (h : FMap w b enc f) (hk : Keeps S w w') (hs : ¬ S b) : FMap w' b enc f := by
  obtain ⟨l, h1, h2⟩ := h; exact ⟨l, h1.keeps hk hs, h2⟩
theorem FMap.lt (h : FMap w b enc f) : b < w.heap.size := by obtain ⟨l, h1, _⟩ := h; exact h1.lt
theorem FMap.map_block (h : FMap w b enc f) : ∃ es c, w.heap[b]? = some (.map es c) := by obtain ⟨l, ⟨es, c, hb, _⟩, _⟩ := h; exact ⟨es, c, hb⟩
theorem FMap.ne_cells (h : FMap w b enc f) {g : Nat} {cs : Array Value} {T : TypeId} {fr : Nat × Nat} (hg : w.heap[g]? = some (.cells cs T fr)) : b ≠ g := fun e => by
  obtain ⟨es, c, hb⟩ := h.map_block
  rw [e, hg] at hb; cases hb
theorem FMap.made (w : World) (enc : α → Value) : FMap (w.alloc (.map #[] 0)) w.heap.size enc (fun _ => none) :=
  ⟨[], IMap.made w .u32, by simp, fun x v => by simp⟩
theorem fkeys_nodup {l : List (Nat × α)} (h : (l.map Prod.fst).Nodup) : ((l.map fun p => ((p.1 : Int), enc p.2)).map Prod.fst).Nodup := by
  rw [List.map_map]
  have : (l.map ((Prod.fst : Int × Value → Int) ∘ fun p => ((p.1 : Int), enc p.2))) = (l.map Prod.fst).map fun x : Nat => (x : Int) := by rw [List.map_map]; rfl
  rw [this]
  unfold List.Nodup at h ⊢
  rw [List.pairwise_map]
  exact h.imp fun hne e => hne (by omega)
theorem fkeys_miss {l : List (Nat × α)} (hl : ∀ x v, f x = some v ↔ (x, v) ∈ l) {x : Nat} (hx : f x = none) : ∀ p ∈ l.map (fun p => ((p.1 : Int), enc p.2)), p.1 ≠ (x : Int) := fun p hp e => by
  obtain ⟨q, hq, rfl⟩ := List.mem_map.1 hp
  have : q.1 = x := by simp only at e; omega
  have h2 := (hl q.1 q.2).2 hq
  rw [this, hx] at h2; cases h2
variable {P : Program} {t k e : TypeId}
theorem FMap.look_some (h : FMap w b enc f) (ht : P.underlying t = some (.map k e)) (hk : P.underlying k = some (.int .u32)) {x : Nat} {v : α} (hx : f x = some v) :
    (Instr.lookup t (.map (some b)) (.int .u32 (x : Int)) true).run P w = .ok (.tuple #[enc v, .bool true]) w ∧ (Instr.lookup t (.map (some b)) (.int .u32 (x : Int)) false).run P w = .ok (enc v) w := by
  obtain ⟨l, h1, h2, h3⟩ := h
  exact h1.run_lookup_hit ht hk (fkeys_nodup h2) (List.mem_map.2 ⟨(x, v), (h3 x v).1 hx, rfl⟩)
theorem FMap.look_none (h : FMap w b enc f) (ht : P.underlying t = some (.map k e)) (hk : P.underlying k = some (.int .u32)) {z : Value} (hz : (zeroValue e).run P w = .ok z w) {x : Nat} (hx : f x = none) :
    (Instr.lookup t (.map (some b)) (.int .u32 (x : Int)) true).run P w = .ok (.tuple #[z, .bool false]) w ∧ (Instr.lookup t (.map (some b)) (.int .u32 (x : Int)) false).run P w = .ok z w := by
  obtain ⟨l, h1, _, h3⟩ := h
  exact h1.run_lookup_miss ht hk hz (fkeys_miss h3 hx)
/-- A store. -/
theorem FMap.put (h : FMap w b enc f) (ht : P.underlying t = some (.map k e)) (hk : P.underlying k = some (.int .u32)) (x : Nat) (v : α) :
    ∃ w', (Instr.mapUpdate t (.map (some b)) (.int .u32 (x : Int)) (enc v)).run P w = .ok () w' ∧ FMap w' b enc (putP f x v) ∧ Keeps (fun j => j = b) w w' := by
  obtain ⟨l, h1, h2, h3⟩ := h
  cases hx : f x with
  | none =>
    obtain ⟨w', hr, hi, hk'⟩ := h1.run_update_new ht hk (fkeys_miss h3 hx) (enc v)
    refine ⟨w', hr, ⟨l ++ [(x, v)], by rw [List.map_append]; exact hi, ?_, fun y u => ?_⟩, hk'⟩
    · rw [List.map_append, List.nodup_append]
      refine ⟨h2, by simp, fun a ha c hc hac => ?_⟩
      simp only [List.map_cons, List.map_nil, List.mem_singleton] at hc
      obtain ⟨q, hq, rfl⟩ := List.mem_map.1 ha
      have h4 := (h3 q.1 q.2).2 hq
      rw [hac, hc, hx] at h4; cases h4
    · by_cases hy : y = x
      · subst hy
        rw [putP_same, List.mem_append]
        constructor
        · intro h; cases h; exact .inr (by simp)
        · rintro (h | h)
          · have := (h3 y u).2 h; rw [hx] at this; cases this
          · simp at h; rw [h]
      · rw [putP_other f v hy, h3 y u, List.mem_append]
        constructor
        · exact .inl
        · rintro (h | h)
          · exact h
          · simp at h; exact absurd h.1 hy
  | some u0 =>
    obtain ⟨j, hj⟩ := List.mem_iff_getElem?.1 ((h3 x u0).1 hx)
    obtain ⟨w', hr, hi, hk'⟩ := h1.run_update_old ht hk (fkeys_nodup h2) (x := (x : Int)) (u := enc u0) (j := j) (by rw [List.getElem?_map, hj]; rfl) (enc v)
    have hjl := (List.getElem?_eq_some_iff.1 hj).1
    have hkeys : (l.set j (x, v)).map Prod.fst = l.map Prod.fst := by
      apply List.ext_getElem?
      intro n
      rw [List.getElem?_map, List.getElem?_map]
      by_cases hn : n = j
      · subst hn; rw [List.getElem?_set_self hjl, hj]; rfl
      · rw [List.getElem?_set_ne (fun e => hn e.symm)]
    refine ⟨w', hr, ⟨l.set j (x, v), by rw [List.map_set]; exact hi, by rw [hkeys]; exact h2, fun y u => ?_⟩, hk'⟩
    have uniq : ∀ n q, l[n]? = some q → q.1 = x → n = j := fun n q hq hqx => by
      have e1 : (l.map Prod.fst)[n]? = some x := by rw [List.getElem?_map, hq]; simp [hqx]
      have e2 : (l.map Prod.fst)[j]? = some x := by rw [List.getElem?_map, hj]; rfl
      exact nodup_ix h2 e1 e2
    by_cases hy : y = x
    · subst hy
      rw [putP_same]
      constructor
      · intro h; cases h
        exact List.mem_of_getElem? (List.getElem?_set_self hjl)
      · intro h
        obtain ⟨n, hn⟩ := List.mem_iff_getElem?.1 h
        by_cases hnj : n = j
        · subst hnj; rw [List.getElem?_set_self hjl] at hn; cases hn; rfl
        · rw [List.getElem?_set_ne (fun e => hnj e.symm)] at hn
          exact absurd (uniq n _ hn rfl) hnj
    · rw [putP_other f v hy, h3 y u]
      constructor
      · intro h
        obtain ⟨n, hn⟩ := List.mem_iff_getElem?.1 h
        have hnj : n ≠ j := fun e => by subst e; rw [hj] at hn; cases hn; exact hy rfl
        exact List.mem_of_getElem? (i := n) (by rw [List.getElem?_set_ne (fun e => hnj e.symm)]; exact hn)
      · intro h
        obtain ⟨n, hn⟩ := List.mem_iff_getElem?.1 h
        by_cases hnj : n = j
        · subst hnj; rw [List.getElem?_set_self hjl] at hn; cases hn; exact absurd rfl hy
        · rw [List.getElem?_set_ne (fun e => hnj e.symm)] at hn
          exact List.mem_of_getElem? hn
end

end Go.Proofs.Ytdonadeodioplaa

namespace Go.Proofs.Ytdonadeodioplaa
open Go.RowKit

def arcV (a : SArc) : Value := .agg #[.int .i64 (a.op : Int), .int .i64 a.price, .int .u32 (a.to : Int)]

theorem zero_sarc (w : World) : (zeroValue 150).run Try.prog w = .ok (.agg #[.int .i64 0, .int .i64 0, .int .u32 0]) w := by kernel_rfl

/-- What the loop of back knows: the way done, the way still to go, and the arc that was looked up. -/
structure BackS (par : Nat → Option SArc) (e : Nat) (out : List Nat) (w2 : World) (dn rest : List Nat) (y c : Nat) (o z : Nat) (p : Int) (bl : Bool) (v : Value) (wr : World) : Prop where
  all : out = dn ++ rest
  ch : Chain par y rest e
  own : wr.ownsRow w2.heap.size 3 1 v dn.length (dn.map fun n : Nat => Value.int .i64 (n : Int))
  box : wr.heap[c]? = some (.cells #[.int .i64 (o : Int), .int .i64 p, .int .u32 (z : Int)] 150 (0, 0))
  yes : bl = true → par y = some ⟨o, p, z⟩
  no : bl = false → par y = none
  far : v.ownBlock ≠ some c
  kp : Keeps (fun _ => False) w2 wr
def lenV : Value → Nat
  | .slice _ n _ => n
  | _ => 0
def arcB (o : Nat) (p : Int) (z : Nat) : Obj := .cells #[.int .i64 (o : Int), .int .i64 p, .int .u32 (z : Int)] 150

theorem tri_set {w : World} {B : Nat} {x y z : Value} {T : TypeId} (h : w.heap[B]? = some (.cells #[x, y, z] T (0, 0))) (a b c : Value) : (((w.setCell ⟨B, 0, none⟩ a).setCell ⟨B, 1, none⟩ b).setCell ⟨B, 2, none⟩ c).heap[B]? = some (.cells #[a, b, c] T (0, 0)) := by
  have h1 : (w.setCell ⟨B, 0, none⟩ a).heap[B]? = some (.cells #[a, y, z] T (0, 0)) := by rw [blk_set_same h]; rfl
  have h2 : ((w.setCell ⟨B, 0, none⟩ a).setCell ⟨B, 1, none⟩ b).heap[B]? = some (.cells #[a, b, z] T (0, 0)) := by rw [blk_set_same h1]; rfl
  rw [blk_set_same h2]; rfl
theorem keeps_tri {w : World} (B : Nat) (a b c : Value) : Keeps (fun k => k = B) w (((w.setCell ⟨B, 0, none⟩ a).setCell ⟨B, 1, none⟩ b).setCell ⟨B, 2, none⟩ c) :=
  (((Keeps.refl (fun k => k = B) w).setCell (p := ⟨B, 0, none⟩) (.inl rfl) _).setCell (p := ⟨B, 1, none⟩) (.inl rfl) _).setCell (p := ⟨B, 2, none⟩) (.inl rfl) _
theorem tri_all {w : World} {B : Nat} {a b c : Value} {T : TypeId} (h : w.heap[B]? = some (.cells #[a, b, c] T (0, 0))) : w.cell? ⟨B, 0, none⟩ = some a ∧ w.cell? ⟨B, 1, none⟩ = some b ∧ w.cell? ⟨B, 2, none⟩ = some c ∧ w.frozen? ⟨B, 0, none⟩ = false ∧ w.frozen? ⟨B, 1, none⟩ = false ∧ w.frozen? ⟨B, 2, none⟩ = false ∧ B < w.heap.size :=
  ⟨by rw [cell_of_blk h]; rfl, by rw [cell_of_blk h]; rfl, by rw [cell_of_blk h]; rfl, frozen_of_blk h, frozen_of_blk h, frozen_of_blk h, lt_of_heap h⟩

theorem back_look {w : World} {mb : Nat} {par : Nat → Option SArc} (hm : FMap w mb arcV par) (x : Nat) : ∃ (o z : Nat) (p : Int) (bl : Bool), (bl = true → par x = some ⟨o, p, z⟩) ∧ (bl = false → par x = none) ∧ (Instr.lookup 95 (.map (some mb)) (.int .u32 (x : Int)) true).run Try.prog w = .ok (.tuple #[.agg #[.int .i64 (o : Int), .int .i64 p, .int .u32 (z : Int)], .bool bl]) w := by
  cases hx : par x with
  | none => exact ⟨0, 0, 0, false, (fun h => Bool.noConfusion h), fun _ => rfl, (hm.look_none (P := Try.prog) Try.underlying95 Try.underlying75 (zero_sarc w) hx).1⟩
  | some a => exact ⟨a.op, a.to, a.price, true, fun _ => rfl, (fun h => Bool.noConfusion h), (hm.look_some (P := Try.prog) Try.underlying95 Try.underlying75 hx).1⟩

set_option maxRecDepth 100000 in
set_option maxHeartbeats 2000000 in
theorem back_any (w : World) (b mb x e : Nat) (a0 a1 a3 a4 : Value) (par : Nat → Option SArc) (out : List Nat) (h : w.heap[b]? = some (.cells #[a0, a1, .map (some mb), a3, a4] 99 (0, 0))) (hm : FMap w mb arcV par) (hc : Chain par x out e) (hl : out.length ≤ 100000) :
    Calls Try.prog 55 #[.pointer (some ⟨b, 0, none⟩), .int .u32 (x : Int)] w fun en w' => ∃ v, en = .returned v ∧ w'.ownsRow w.heap.size 3 1 v out.length (out.map fun n : Nat => Value.int .i64 (n : Int)) ∧ Keeps (fun _ => False) w w' := by
  obtain ⟨i0, hi0, hz0, hz1, hz2⟩ := info_parts Try.info3
  have c2 : w.cell? ⟨b, 2, none⟩ = some (.map (some mb)) := by rw [cell_of_blk h]; rfl
  have hb := lt_of_heap h
  have HM := Lib.hid hm; have HH := Lib.hid h; have HCH := Lib.hid hc
  obtain ⟨o, z, p, bl, hy, hn, hlk⟩ := back_look hm x
  have K1 := (Keeps.refl (fun _ => False) w).alloc (arcB o p z)
  have HS := Lib.hid (show BackS par e out w [] out x w.heap.size o z p bl (.slice none 0 0) (w.alloc (arcB o p z)) from ⟨rfl, hc, World.ownsRow_nil _ _ _ _, heap_alloc_new w _, hy, hn, by simp [Value.ownBlock], K1⟩)
  clear hm h hc hy hn K1
  go_enter Try.func55, Try.ntmps55
  go_upto_region 3 with fail
  change Code.wp _ _ _ _ (w.alloc (arcB o p z))
  generalize (w.alloc (arcB o p z)) = w3 at HS ⊢
  clear hlk
  go_loopw [1, 5, 6, 7] (fun v1 v5 v6 v7 wr => ∃ (dn rest : List Nat) (y c o z : Nat) (p : Int) (bl : Bool), v1 = .int .u32 (y : Int) ∧ v6 = .pointer (some ⟨c, 0, none⟩) ∧ v7 = .bool bl ∧ lenV v5 = dn.length ∧ BackS par e out w dn rest y c o z p bl v5 wr) (fun _ v5 _ _ _ => out.length - lenV v5)
  case atStart => exact ⟨[], out, x, _, o, z, p, bl, rfl, rfl, rfl, rfl, HS.out⟩
  case round =>
    obtain ⟨dn, rest, y, c, o, z, p, bl, rfl, rfl, rfl, hlen, hi⟩ := hrel
    have HI := Lib.hid hi
    clear hi
    obtain ⟨av, cv, hv⟩ := ownsRow_form1 HI.out.own
    subst hv
    cases bl with
    | false =>
      have hrest : rest = [] := by
        have hn := HI.out.no rfl
        cases HI.out.ch with
        | nil _ => rfl
        | cons ha _ => rw [hn] at ha; cases ha
      have HFIN := Lib.hid (show wr.ownsRow w.heap.size 3 1 (.slice av dn.length cv) out.length (out.map fun n : Nat => Value.int .i64 (n : Int)) by
        have e1 : out = dn := by rw [HI.out.all, hrest, List.append_nil]
        rw [e1]; exact HI.out.own)
      clear hrest
      go_wp2_with fail
      go_ret
      exact ⟨_, rfl, HFIN.out, HI.out.kp⟩
    | true =>
      obtain ⟨rest', hrest, hch⟩ : ∃ rest', rest = o :: rest' ∧ Chain par z rest' e := by
        have hy := HI.out.yes rfl
        cases HI.out.ch with
        | nil hn => rw [hn] at hy; cases hy
        | cons ha hc => rw [hy] at ha; cases ha; exact ⟨_, rfl, hc⟩
      have HCH2 := Lib.hid hch; have HR := Lib.hid hrest
      have hdl : dn.length ≤ 100000 := by have := congrArg List.length HI.out.all; rw [List.length_append] at this; omega
      obtain ⟨q0, q1, q2, _, _, _, ql⟩ := tri_all HI.out.box
      have hsw := HI.out.kp.size
      clear hrest hch
      go_wp2_with (at_builtin; refine wpList_append_d rfl _ _ _ rfl w.heap.size 3 i0 _ 1 8 Try.underlying22 hi0 hz0 hz1 hz2 rfl (by omega) _ dn.length (dn.map fun n : Nat => Value.int .i64 (n : Int)) (by rfl) (World.ownsRow.alloc HI.out.own (.cells #[.int .i64 (o : Int)] 3)) ⟨wr.heap.size, 0, none⟩ 1 1 [.int .i64 (o : Int)] (by rfl) (by rfl) ?hnews ?hone (by omega) (by unfold maxLen; omega) (by omega) (by simp; omega) (wr.heap.size + 1) (by simp) ?_)
      case hnews => exact World.news_of_block (cs := #[.int .i64 (o : Int)]) (t := 3) (fr := (0, 0)) (heap_alloc_new _ _)
      case hone => simp [Value.oneCell']
      intro gg cap2 w4 hown hgrow hat hlt4 hd4
      have HN := Lib.hid hown
      have KN := Lib.hid (own_grown HI.out.own HI.out.kp ((Keeps.refl (fun _ => False) wr).alloc (.cells #[.int .i64 (o : Int)] 3)) hgrow)
      have hb4 := (steady_keeps hgrow).heap ((Below.heap_alloc wr (.cells #[.int .i64 (o : Int)] 3) c ql).trans HI.out.box) (fun e' => HI.out.far e')
      clear q0 q1 q2 ql
      obtain ⟨q0, q1, q2, _, _, _, ql⟩ := tri_all hb4
      have KA := (Keeps.refl (fun _ => False) w4).alloc (arcB o p z)
      have K5 := Lib.hid (KN.out.trans KA)
      have HB5 := Lib.hid (show (w4.alloc (arcB o p z)).heap[w4.heap.size]? = some (.cells #[.int .i64 (o : Int), .int .i64 p, .int .u32 (z : Int)] 150 (0, 0)) from heap_alloc_new w4 _)
      have HN5 := Lib.hid (KA.ownsRow HN.out (fun _ _ h => h))
      have hrow := World.ownsRow.lt HN.out
      clear hown hgrow hat hd4 hb4 KA
      go_upto_region 4 with fail
      change Code.wp _ _ _ _ (w4.alloc (arcB o p z))
      have hs4 : w.heap.size ≤ w4.heap.size := KN.out.size
      have HFR := Lib.hid (show (Value.slice (some ⟨gg, 0, none⟩) (dn.length + 1) cap2).ownBlock ≠ some w4.heap.size from fun e' => by have := (hrow _ e').2; omega)
      clear q0 q1 q2 ql hrow
      generalize (w4.alloc (arcB o p z)) = w5 at K5 HB5 HN5 ⊢
      generalize w4.heap.size = c' at HB5 HFR hs4 ⊢
      obtain ⟨q0, q1, q2, f0, f1, f2, ql⟩ := tri_all HB5.out
      have c2 := K5.out.cell c2 (fun h => h)
      obtain ⟨o', z', p', bl', hy', hn', hlk⟩ := back_look (HM.out.keeps K5.out (fun h => h)) z
      have HY := Lib.hid hy'; have HNN := Lib.hid hn'
      clear hy' hn'
      go_wp2_with fail
      have kt := keeps_tri (w := w5) c' (.int .i64 (o' : Int)) (.int .i64 p') (.int .u32 (z' : Int))
      have ht := tri_set HB5.out (.int .i64 (o' : Int)) (.int .i64 p') (.int .u32 (z' : Int))
      have HNX := Lib.hid (show BackS par e out w (dn ++ [o]) rest' z c' o' z' p' bl' (.slice (some ⟨gg, 0, none⟩) (dn.length + 1) cap2) _ from
        ⟨by rw [HI.out.all, HR.out]; simp, HCH2.out, by rw [List.length_append, List.map_append]; exact kt.ownsRow HN5.out (fun j hj e' => HFR.out (by rw [hj, e'])), ht, HY.out, HNN.out, HFR.out, K5.out.trans' kt (fun j hj => .inr (by omega))⟩)
      clear kt ht
      go_roundw
      case rel => exact ⟨dn ++ [o], rest', z, c', o', z', p', bl', rfl, rfl, rfl, by simp [lenV], HNX.out⟩
      case measure =>
        have h1 := congrArg List.length HI.out.all
        rw [HR.out] at h1
        simp at h1
        simp only [lenV]
        omega

end Go.Proofs.Ytdonadeodioplaa

namespace Go.Proofs.Ytdonadeodioplaa
open Go.RowKit

def intV (p : Int) : Value := .int .i64 p
/-- The block of a side. -/
def SideB (w : World) (b m0 mp mpar md q : Nat) : Prop := w.heap[b]? = some (.cells #[.map (some m0), .map (some mp), .map (some mpar), .map (some md), .pointer (some ⟨q, 0, none⟩)] 99 (0, 0))
/-- The five variables that the closure has captured. -/
structure MetB (w : World) (bf bb bfo bbe bat sf sb : Nat) (found : Bool) (best : Int) (at_ : Nat) : Prop where
  f : w.heap[bf]? = some (.cells #[.pointer (some ⟨sf, 0, none⟩)] 89 (0, 0))
  b : w.heap[bb]? = some (.cells #[.pointer (some ⟨sb, 0, none⟩)] 89 (0, 0))
  fo : w.heap[bfo]? = some (.cells #[.bool found] 4 (0, 0))
  be : w.heap[bbe]? = some (.cells #[.int .i64 best] 3 (0, 0))
  at_ : w.heap[bat]? = some (.cells #[.int .u32 (at_ : Int)] 75 (0, 0))
theorem MetB.keepsS {S : Nat → Prop} {w w' : World} {bf bb bfo bbe bat sf sb at_ : Nat} {found : Bool} {best : Int} (h : MetB w bf bb bfo bbe bat sf sb found best at_) (hk : Keeps S w w') (h1 : ¬ S bf) (h2 : ¬ S bb) (h3 : ¬ S bfo) (h4 : ¬ S bbe) (h5 : ¬ S bat) : MetB w' bf bb bfo bbe bat sf sb found best at_ :=
  ⟨hk.heap h.f h1, hk.heap h.b h2, hk.heap h.fo h3, hk.heap h.be h4, hk.heap h.at_ h5⟩
theorem MetB.set {w : World} {bf bb bfo bbe bat sf sb at_ : Nat} {found : Bool} {best : Int} (h : MetB w bf bb bfo bbe bat sf sb found best at_) (c : Int) (x : Nat) :
    MetB (((w.setCell ⟨bbe, 0, none⟩ (.int .i64 c)).setCell ⟨bat, 0, none⟩ (.int .u32 (x : Int))).setCell ⟨bfo, 0, none⟩ (.bool true)) bf bb bfo bbe bat sf sb true c x ∧
    Keeps (fun k => k = bfo ∨ k = bbe ∨ k = bat) w (((w.setCell ⟨bbe, 0, none⟩ (.int .i64 c)).setCell ⟨bat, 0, none⟩ (.int .u32 (x : Int))).setCell ⟨bfo, 0, none⟩ (.bool true)) := by
  have ne : ∀ {i j : Nat} {a b : Array Value} {s t : TypeId}, w.heap[i]? = some (.cells a s (0, 0)) → w.heap[j]? = some (.cells b t (0, 0)) → s ≠ t → i ≠ j := fun h1 h2 hst e => by
    subst e; rw [h1] at h2; cases h2; exact hst rfl
  have n1 : bf ≠ bbe := ne h.f h.be (by decide)
  have n2 : bf ≠ bat := ne h.f h.at_ (by decide)
  have n3 : bf ≠ bfo := ne h.f h.fo (by decide)
  have n4 : bb ≠ bbe := ne h.b h.be (by decide)
  have n5 : bb ≠ bat := ne h.b h.at_ (by decide)
  have n6 : bb ≠ bfo := ne h.b h.fo (by decide)
  have n7 : bbe ≠ bat := ne h.be h.at_ (by decide)
  have n8 : bbe ≠ bfo := ne h.be h.fo (by decide)
  have n9 : bat ≠ bfo := ne h.at_ h.fo (by decide)
  have k1 : Keeps (fun k => k = bbe) w (w.setCell ⟨bbe, 0, none⟩ (.int .i64 c)) := (Keeps.refl (fun k => k = bbe) w).setCell (p := ⟨bbe, 0, none⟩) (.inl rfl) _
  have k2 : Keeps (fun k => k = bat) (w.setCell ⟨bbe, 0, none⟩ (.int .i64 c)) ((w.setCell ⟨bbe, 0, none⟩ (.int .i64 c)).setCell ⟨bat, 0, none⟩ (.int .u32 (x : Int))) := (Keeps.refl (fun k => k = bat) _).setCell (p := ⟨bat, 0, none⟩) (.inl rfl) _
  have k3 : Keeps (fun k => k = bfo) ((w.setCell ⟨bbe, 0, none⟩ (.int .i64 c)).setCell ⟨bat, 0, none⟩ (.int .u32 (x : Int))) (((w.setCell ⟨bbe, 0, none⟩ (.int .i64 c)).setCell ⟨bat, 0, none⟩ (.int .u32 (x : Int))).setCell ⟨bfo, 0, none⟩ (.bool true)) := (Keeps.refl (fun k => k = bfo) _).setCell (p := ⟨bfo, 0, none⟩) (.inl rfl) _
  have e1 : (w.setCell ⟨bbe, 0, none⟩ (.int .i64 c)).heap[bbe]? = some (.cells #[.int .i64 c] 3 (0, 0)) := by rw [blk_set_same h.be]; rfl
  have a1 := k1.heap h.at_ (fun e => n7 e.symm)
  have e2 : ((w.setCell ⟨bbe, 0, none⟩ (.int .i64 c)).setCell ⟨bat, 0, none⟩ (.int .u32 (x : Int))).heap[bat]? = some (.cells #[.int .u32 (x : Int)] 75 (0, 0)) := by rw [blk_set_same a1]; rfl
  have f2 := k2.heap (k1.heap h.fo (fun e => n8 e.symm)) (fun e => n9 e.symm)
  have e3 : (((w.setCell ⟨bbe, 0, none⟩ (.int .i64 c)).setCell ⟨bat, 0, none⟩ (.int .u32 (x : Int))).setCell ⟨bfo, 0, none⟩ (.bool true)).heap[bfo]? = some (.cells #[.bool true] 4 (0, 0)) := by rw [blk_set_same f2]; rfl
  exact ⟨⟨k3.heap (k2.heap (k1.heap h.f n1) n2) n3, k3.heap (k2.heap (k1.heap h.b n4) n5) n6, e3, k3.heap (k2.heap e1 n7) n8, k3.heap e2 n9⟩,
    ((k1.mono (fun _ _ h => .inr (.inl h))).trans (k2.mono (fun _ _ h => .inr (.inr h)))).trans (k3.mono (fun _ _ h => .inl h))⟩

theorem MetB.apart {w : World} {bf bb bfo bbe bat sf sb at_ : Nat} {found : Bool} {best : Int} (h : MetB w bf bb bfo bbe bat sf sb found best at_) : bbe ≠ bat ∧ bbe ≠ bfo ∧ bat ≠ bfo := by
  have ne : ∀ {i j : Nat} {a b : Array Value} {s t : TypeId}, w.heap[i]? = some (.cells a s (0, 0)) → w.heap[j]? = some (.cells b t (0, 0)) → s ≠ t → i ≠ j := fun h1 h2 hst e => by
    subst e; rw [h1] at h2; cases h2; exact hst rfl
  exact ⟨ne h.be h.at_ (by decide), ne h.be h.fo (by decide), ne h.at_ h.fo (by decide)⟩

/-- What is met after x. -/
def metF (fx bx : Option Int) (x : Nat) (found : Bool) (best : Int) (at_ : Nat) : Bool × Int × Nat :=
  match fx, bx with
  | some a, some b => if found = false ∨ a + b < best then (true, a + b, x) else (found, best, at_)
  | _, _ => (found, best, at_)

set_option maxRecDepth 100000 in
set_option maxHeartbeats 4000000 in
theorem met_any (w : World) (bf bb bfo bbe bat sf sb at_ x : Nat) (found : Bool) (best : Int) (F B : Nat → Option Int) (f0 pf f2 f3 fq b0 pb b2 b3 bq : Nat) (h : MetB w bf bb bfo bbe bat sf sb found best at_) (hf : SideB w sf f0 pf f2 f3 fq) (hb : SideB w sb b0 pb b2 b3 bq) (hF : FMap w pf intV F) (hB : FMap w pb intV B)
    (hlo : ∀ y a, F y = some a → 0 ≤ a ∧ a ≤ 1000000000000) (hlo2 : ∀ y a, B y = some a → 0 ≤ a ∧ a ≤ 1000000000000) :
    Calls Try.prog 94 #[.int .u32 (x : Int), .pointer (some ⟨bf, 0, none⟩), .pointer (some ⟨bb, 0, none⟩), .pointer (some ⟨bfo, 0, none⟩), .pointer (some ⟨bbe, 0, none⟩), .pointer (some ⟨bat, 0, none⟩)] w fun e w' => e = .returned (.tuple #[]) ∧
      MetB w' bf bb bfo bbe bat sf sb (metF (F x) (B x) x found best at_).1 (metF (F x) (B x) x found best at_).2.1 (metF (F x) (B x) x found best at_).2.2 ∧ Keeps (fun k => k = bfo ∨ k = bbe ∨ k = bat) w w' := by
  have c1 : w.cell? ⟨bf, 0, none⟩ = some (.pointer (some ⟨sf, 0, none⟩)) := by rw [cell_of_blk h.f]; rfl
  have c2 : w.cell? ⟨bb, 0, none⟩ = some (.pointer (some ⟨sb, 0, none⟩)) := by rw [cell_of_blk h.b]; rfl
  have c3 : w.cell? ⟨bfo, 0, none⟩ = some (.bool found) := by rw [cell_of_blk h.fo]; rfl
  have c4 : w.cell? ⟨bbe, 0, none⟩ = some (.int .i64 best) := by rw [cell_of_blk h.be]; rfl
  have c5 : w.cell? ⟨bat, 0, none⟩ = some (.int .u32 (at_ : Int)) := by rw [cell_of_blk h.at_]; rfl
  have z3 : w.frozen? ⟨bfo, 0, none⟩ = false := frozen_of_blk h.fo
  have z4 : w.frozen? ⟨bbe, 0, none⟩ = false := frozen_of_blk h.be
  have z5 : w.frozen? ⟨bat, 0, none⟩ = false := frozen_of_blk h.at_
  have l3 := lt_of_heap h.fo
  have l4 := lt_of_heap h.be
  have l5 := lt_of_heap h.at_
  have s1 : w.cell? ⟨sf, 1, none⟩ = some (.map (some pf)) := by unfold SideB at hf; rw [cell_of_blk hf]; rfl
  have s2 : w.cell? ⟨sb, 1, none⟩ = some (.map (some pb)) := by unfold SideB at hb; rw [cell_of_blk hb]; rfl
  have lf : sf < w.heap.size := lt_of_heap hf
  have lb : sb < w.heap.size := lt_of_heap hb
  have HM := Lib.hid h
  have zi : (zeroValue 3).run Try.prog w = .ok (.int .i64 0) w := by kernel_rfl
  cases hFx : F x with
  | none =>
    have k1 := (hF.look_none (P := Try.prog) Try.underlying77 Try.underlying75 zi hFx).1
    obtain ⟨bo, bl, k2⟩ : ∃ (bo : Int) (bl : Bool), (Instr.lookup 77 (.map (some pb)) (.int .u32 (x : Int)) true).run Try.prog w = .ok (.tuple #[.int .i64 bo, .bool bl]) w := by
      cases hBx : B x with
      | none => exact ⟨0, false, (hB.look_none (P := Try.prog) Try.underlying77 Try.underlying75 zi hBx).1⟩
      | some b => exact ⟨b, true, (hB.look_some (P := Try.prog) Try.underlying77 Try.underlying75 hBx).1⟩
    clear hF hB hf hb h hFx
    go_enter Try.func94, Try.ntmps94
    go_wp2_with fail
    go_end0
    exact ⟨rfl, HM.out, Keeps.refl _ _⟩
  | some a =>
    have k1 := (hF.look_some (P := Try.prog) Try.underlying77 Try.underlying75 hFx).1
    have la := hlo x a hFx
    cases hBx : B x with
    | none =>
      have k2 := (hB.look_none (P := Try.prog) Try.underlying77 Try.underlying75 zi hBx).1
      clear hF hB hf hb h hFx hBx
      unfold intV at k1
      go_enter Try.func94, Try.ntmps94
      go_wp2_with fail
      go_end0
      exact ⟨rfl, HM.out, Keeps.refl _ _⟩
    | some b =>
      have k2 := (hB.look_some (P := Try.prog) Try.underlying77 Try.underlying75 hBx).1
      have lb2 := hlo2 x b hBx
      have HS := Lib.hid (h.set (a + b) x)
      obtain ⟨n1, n2, n3⟩ := h.apart
      have n1' := n1.symm; have n2' := n2.symm; have n3' := n3.symm
      clear hF hB hf hb h hFx hBx
      unfold intV at k1 k2
      cases found with
      | false =>
        go_enter Try.func94, Try.ntmps94
        go_wp2_with fail
        go_end0
        exact ⟨rfl, by simpa [metF] using HS.out.1, HS.out.2⟩
      | true =>
        by_cases hlt : a + b < best
        · have q : decide (a + b < best) = true := by simpa using hlt
          go_enter Try.func94, Try.ntmps94
          go_wp2_with fail
          go_end0
          exact ⟨rfl, by simpa [metF, hlt] using HS.out.1, HS.out.2⟩
        · have q : decide (a + b < best) = false := by simpa using hlt
          go_enter Try.func94, Try.ntmps94
          go_wp2_with fail
          go_end0
          have e1 : metF (some a) (some b) x true best at_ = (true, best, at_) := by unfold metF; simp only; rw [if_neg (by simp; omega)]
          exact ⟨rfl, by rw [e1]; exact HM.out, Keeps.refl _ _⟩

end Go.Proofs.Ytdonadeodioplaa

namespace Go.Proofs.Ytdonadeodioplaa
open Go.RowKit

def unitV (_ : Unit) : Value := .agg #[]

/-- A side in memory: its block, its three maps and its queue, each apart from the others. -/
structure SideM (w : World) (base b m0 mp mpar md q : Nat) (P : Nat → Option Int) (par : Nat → Option SArc) (dn : Nat → Option Unit) (A : List (Int × Int)) (t : Int) (F : Nat → Prop) : Prop where
  blk : SideB w b m0 mp mpar md q
  price : FMap w mp intV P
  par_ : FMap w mpar arcV par
  done : FMap w md unitV dn
  q : U.QRep w q A t F
  lF : ∀ k, F k → base ≤ k ∧ k < w.heap.size ∧ k ≠ b ∧ k ≠ mp ∧ k ≠ mpar ∧ k ≠ md
  lb : base ≤ b
  lp : base ≤ mp
  lr : base ≤ mpar
  ld : base ≤ md
  n1 : mp ≠ mpar
  n2 : mp ≠ md
  n3 : mpar ≠ md

section
variable {w w' : World} {base b m0 mp mpar md q : Nat} {P P' : Nat → Option Int} {par : Nat → Option SArc} {dn : Nat → Option Unit} {A A' : List (Int × Int)} {t t' : Int} {F F' : Nat → Prop}
/-- A price is set. -/
theorem SideM.priced (h : SideM w base b m0 mp mpar md q P par dn A t F) (hk : Keeps (fun k => k = mp) w w') (hp : FMap w' mp intV P') : SideM w' base b m0 mp mpar md q P' par dn A t F :=
  ⟨hk.heap h.blk (fun e => h.price.ne_cells h.blk e.symm), hp, h.par_.keeps hk (fun e => h.n1 e.symm), h.done.keeps hk (fun e => h.n2 e.symm), h.q.keeps hk (fun k hF e => (h.lF k hF).2.2.2.1 e),
   fun k hF => ⟨(h.lF k hF).1, Nat.lt_of_lt_of_le (h.lF k hF).2.1 hk.size, (h.lF k hF).2.2⟩, h.lb, h.lp, h.lr, h.ld, h.n1, h.n2, h.n3⟩
/-- The queue has changed. -/
theorem SideM.queued (h : SideM w base b m0 mp mpar md q P par dn A t F) (hk : Keeps F w w') (hq : U.QRep w' q A' t' F') (hF : ∀ k, F' k → F k ∨ w.heap.size ≤ k) : SideM w' base b m0 mp mpar md q P par dn A' t' (fun k => F' k ∧ k < w'.heap.size) := by
  have lb := lt_of_heap h.blk
  have lp := h.price.lt
  have lr := h.par_.lt
  have ld := h.done.lt
  refine ⟨hk.heap h.blk (fun e => (h.lF b e).2.2.1 rfl), h.price.keeps hk (fun e => (h.lF mp e).2.2.2.1 rfl), h.par_.keeps hk (fun e => (h.lF mpar e).2.2.2.2.1 rfl), h.done.keeps hk (fun e => (h.lF md e).2.2.2.2.2 rfl),
    U.QRep.mono hq (fun k hk' hF' => ⟨hF', hk'⟩), fun k hF' => ?_, h.lb, h.lp, h.lr, h.ld, h.n1, h.n2, h.n3⟩
  rcases hF k hF'.1 with h1 | h1
  · exact ⟨(h.lF k h1).1, hF'.2, (h.lF k h1).2.2⟩
  · exact ⟨by have := h.lb; omega, hF'.2, by omega, by omega, by omega, by omega⟩
end
theorem startP_snoc (S : List Nat) (x : Nat) : startP (S ++ [x]) = putP (startP S) x 0 := by
  funext y
  unfold startP putP
  by_cases hy : y = x
  · subst hy; simp
  · simp [hy]
theorem startA_snoc (S : List Nat) (x : Nat) : startA (S ++ [x]) = putA (startA S) (x : Int) 0 := by unfold startA; rw [List.foldl_append]; rfl
theorem startA_len (S : List Nat) : (startA S).length ≤ S.length := by
  have key : ∀ (S : List Nat) (A : List (Int × Int)), (S.foldl (fun A (x : Nat) => putA A (x : Int) 0) A).length ≤ A.length + S.length := by
    intro S
    induction S with
    | nil => intro A; simp
    | cons x r ih => intro A; rw [List.foldl_cons]; have := ih (putA A (x : Int) 0); have := putA_len A (x : Int) 0; simp only [List.length_cons]; omega
  have := key S []
  unfold startA; simpa using this

set_option maxRecDepth 100000 in
set_option maxHeartbeats 4000000 in
theorem newSide_any (w : World) (m0 : Nat) (vS : Value) (S : List Nat) (hS : Sl w vS S.length (S.map fun x : Nat => Value.int .u32 (x : Int))) (hl : S.length ≤ 100000) :
    Calls Try.prog 93 #[.map (some m0), vS] w fun e w' => ∃ b mp mpar md q F, e = .returned (.pointer (some ⟨b, 0, none⟩)) ∧ SideM w' w.heap.size b m0 mp mpar md q (startP S) (fun _ => none) (fun _ => none) (startA S) (S.length : Int) F ∧ Keeps (fun _ => False) w w' := by
  obtain ⟨ao, ca, hv, _⟩ := Sl.formN hS
  subst hv
  have HSS := Lib.hid hS
  have hmm := @run_makeMap Try.prog
  clear hS
  go_enter Try.func93, Try.ntmps93
  have M1 := FMap.made w intV
  have M2 := FMap.made (w.alloc (.map #[] 0)) arcV
  have M3 := FMap.made ((w.alloc (.map #[] 0)).alloc (.map #[] 0)) unitV
  have KA1 := (Keeps.refl (fun _ => False) (w.alloc (.map #[] 0))).alloc (.map #[] 0)
  have KA2 := (Keeps.refl (fun _ => False) ((w.alloc (.map #[] 0)).alloc (.map #[] 0))).alloc (.map #[] 0)
  have K3 := ((Keeps.refl (fun _ => False) w).alloc (.map #[] 0)).trans (KA1.trans KA2)
  replace M1 := Lib.hid ((M1.keeps KA1 (fun h => h)).keeps KA2 (fun h => h))
  replace M2 := Lib.hid (M2.keeps KA2 (fun h => h))
  replace M3 := Lib.hid M3
  have KH := Lib.hid K3
  have hsz : (((w.alloc (.map #[] 0)).alloc (.map #[] 0)).alloc (.map #[] 0)).heap.size = w.heap.size + 3 := by simp
  rw [World.size_alloc] at M2 M3
  go_wp2_with fail
  refine (U.new_any _).mono ?_; rintro e w4 ⟨rfl, hq, hk⟩
  generalize hw3 : (((w.alloc (.map #[] 0)).alloc (.map #[] 0)).alloc (.map #[] 0)) = w3 at M1 M2 M3 KH hsz hq hk ⊢
  have KB := hk.alloc (.cells #[.map (some m0), .map (some w.heap.size), .map (some (w.heap.size + 1)), .map (some (w.heap.size + 1 + 1)), .pointer (some ⟨w3.heap.size + 1, 0, none⟩)] 99)
  have hs4 : w3.heap.size ≤ w4.heap.size := hk.size
  have lp := M1.out.lt; have lr := M2.out.lt; have ld := M3.out.lt
  simp only [World.size_alloc] at M3 ld
  have HS := Lib.hid (show SideM (w4.alloc (.cells #[.map (some m0), .map (some w.heap.size), .map (some (w.heap.size + 1)), .map (some (w.heap.size + 1 + 1)), .pointer (some ⟨w3.heap.size + 1, 0, none⟩)] 99)) w.heap.size w4.heap.size m0 w.heap.size (w.heap.size + 1) (w.heap.size + 1 + 1) (w3.heap.size + 1) (startP (S.take 0)) (fun _ => none) (fun _ => none) (startA (S.take 0)) ((0 : Nat) : Int) (fun k => w3.heap.size ≤ k ∧ k < w4.heap.size) from
    ⟨heap_alloc_new w4 _, by rw [show startP (S.take 0) = fun _ => none from by funext y; simp [startP]]; exact M1.out.keeps KB (fun h => h), M2.out.keeps KB (fun h => h), M3.out.keeps KB (fun h => h),
     (hq.mono (fun k hk' hF => ⟨hF, hk'⟩)).keeps ((Keeps.refl (fun _ => False) w4).alloc _) (fun _ _ h => h), fun k hF => ⟨by omega, by rw [World.size_alloc]; omega, by omega, by omega, by omega, by omega⟩, by omega, by omega, by omega, by omega, by omega, by omega, by omega⟩)
  have HK := Lib.hid (KH.out.trans KB)
  have HC := Lib.hid (Sl.cellN HSS.out rfl)
  clear hq hk KB M1 M2 M3 KH K3 KA1 KA2 hw3 lp lr ld hmm HSS hsz hs4
  go_upto_region 2 with fail
  generalize (w4.alloc (.cells #[.map (some m0), .map (some w.heap.size), .map (some (w.heap.size + 1)), .map (some (w.heap.size + 1 + 1)), .pointer (some ⟨w3.heap.size + 1, 0, none⟩)] 99)) = w5 at HS HK ⊢
  generalize w4.heap.size = b at HS ⊢
  generalize w3.heap.size + 1 = q at HS ⊢
  go_wp2_with fail
  go_loopw [17] (fun v17 wr => ∃ (i : Nat) (F : Nat → Prop), i ≤ S.length ∧ v17 = .int .i64 (i : Int) ∧ SideM wr w.heap.size b m0 w.heap.size (w.heap.size + 1) (w.heap.size + 1 + 1) q (startP (S.take i)) (fun _ => none) (fun _ => none) (startA (S.take i)) (i : Int) F ∧ Keeps (fun _ => False) w wr) (fun v17 _ => S.length - (intOf v17).toNat)
  case atStart => exact ⟨0, _, Nat.zero_le _, rfl, HS.out, HK.out⟩
  case round =>
    obtain ⟨i, F, hi, rfl, hs, hkr⟩ := hrel
    have HI := Lib.hid hs; have HKR := Lib.hid hkr
    clear hs hkr
    by_cases hlt : i < S.length
    · obtain ⟨x, hx⟩ : ∃ x, S[i]? = some x := ⟨_, List.getElem?_eq_getElem hlt⟩
      obtain ⟨bs, os, rfl, hsc⟩ := HC.out (by omega)
      obtain ⟨W1, hrun, hp1, hk1⟩ := HI.out.price.put (P := Try.prog) Try.underlying77 Try.underlying75 x 0
      unfold intV at hrun
      have q1 : wr.cell? ⟨bs, os + i, none⟩ = some (.int .u32 (x : Int)) := HKR.out.cell (hsc i (.int .u32 (x : Int)) (by rw [List.getElem?_map, hx]; rfl)) (fun h => h)
      have hsb := HI.out.blk
      unfold SideB at hsb
      have q2 : wr.cell? ⟨b, 1, none⟩ = some (.map (some w.heap.size)) := by rw [cell_of_blk hsb]; rfl
      have H1 := Lib.hid (HI.out.priced hk1 hp1)
      have hsb1 := H1.out.blk
      unfold SideB at hsb1
      have q3 : W1.cell? ⟨b, 4, none⟩ = some (.pointer (some ⟨q, 0, none⟩)) := by rw [cell_of_blk hsb1]; rfl
      have hb1 := lt_of_heap hsb
      have hb2 := lt_of_heap hsb1
      have K1 := Lib.hid (HKR.out.trans' hk1 (fun j hj => .inr (by subst hj; exact HI.out.lp)))
      have HTK := Lib.hid (take_getS hx)
      have hlen := startA_len (S.take i)
      rw [List.length_take] at hlen
      have hilt : (i : Int) < (S.length : Int) := by omega
      clear hsc hp1 hk1 hsb hsb1
      go_wp2_with fail
      refine (U.set_both _ _ _ _ _ H1.out.q (x : Int) 0 (by omega) (by omega)).mono ?_; rintro e w6 ⟨rfl, F2, hq2, hF2, hk2⟩
      have H2 := Lib.hid (show SideM w6 w.heap.size b m0 w.heap.size (w.heap.size + 1) (w.heap.size + 1 + 1) q (startP (S.take (i + 1))) (fun _ => none) (fun _ => none) (startA (S.take (i + 1))) ((i + 1 : Nat) : Int) (fun k => F2 k ∧ k < w6.heap.size) by
        rw [HTK.out, startP_snoc, startA_snoc]
        have := H1.out.queued hk2 hq2 hF2
        rwa [show ((i + 1 : Nat) : Int) = (i : Int) + 1 by omega])
      have K2 := Lib.hid (K1.out.trans' hk2 (fun j hj => .inr (H1.out.lF j hj).1))
      clear hq2 hF2 hk2
      go_wp2_with fail
      go_roundw
      case rel => exact ⟨i + 1, _, by omega, by go_num, H2.out, K2.out⟩
      case measure => simp [intOf]; omega
    · obtain rfl : i = S.length := by omega
      have hfin := HI.out
      rw [List.take_length] at hfin
      have HFIN := Lib.hid hfin
      clear hfin
      go_wp2_with fail
      go_ret
      exact ⟨b, _, _, _, q, F, rfl, HFIN.out, HKR.out⟩

end Go.Proofs.Ytdonadeodioplaa

namespace Go.Proofs.Ytdonadeodioplaa
open Go.RowKit

section
variable {w w' : World} {base b m0 mp mpar md q : Nat} {P P' : Nat → Option Int} {par par' : Nat → Option SArc} {dn dn' : Nat → Option Unit} {A A' : List (Int × Int)} {t t' : Int} {F F' : Nat → Prop}
/-- A parent is set. -/
theorem SideM.pard (h : SideM w base b m0 mp mpar md q P par dn A t F) (hk : Keeps (fun k => k = mpar) w w') (hp : FMap w' mpar arcV par') : SideM w' base b m0 mp mpar md q P par' dn A t F :=
  ⟨hk.heap h.blk (fun e => h.par_.ne_cells h.blk e.symm), h.price.keeps hk (fun e => h.n1 e), hp, h.done.keeps hk (fun e => h.n3 e.symm), h.q.keeps hk (fun k hF e => (h.lF k hF).2.2.2.2.1 e),
   fun k hF => ⟨(h.lF k hF).1, Nat.lt_of_lt_of_le (h.lF k hF).2.1 hk.size, (h.lF k hF).2.2⟩, h.lb, h.lp, h.lr, h.ld, h.n1, h.n2, h.n3⟩
/-- A state is done. -/
theorem SideM.doned (h : SideM w base b m0 mp mpar md q P par dn A t F) (hk : Keeps (fun k => k = md) w w') (hp : FMap w' md unitV dn') : SideM w' base b m0 mp mpar md q P par dn' A t F :=
  ⟨hk.heap h.blk (fun e => h.done.ne_cells h.blk e.symm), h.price.keeps hk (fun e => h.n2 e), h.par_.keeps hk (fun e => h.n3 e), hp, h.q.keeps hk (fun k hF e => (h.lF k hF).2.2.2.2.2 e),
   fun k hF => ⟨(h.lF k hF).1, Nat.lt_of_lt_of_le (h.lF k hF).2.1 hk.size, (h.lF k hF).2.2⟩, h.lb, h.lp, h.lr, h.ld, h.n1, h.n2, h.n3⟩
/-- What turns blocks that are not the side's leaves it as it is. -/
theorem SideM.keeps {S : Nat → Prop} (h : SideM w base b m0 mp mpar md q P par dn A t F) (hk : Keeps S w w') (hb : ¬ S b) (h1 : ¬ S mp) (h2 : ¬ S mpar) (h3 : ¬ S md) (hF : ∀ k, F k → ¬ S k) : SideM w' base b m0 mp mpar md q P par dn A t F :=
  ⟨hk.heap h.blk hb, h.price.keeps hk h1, h.par_.keeps hk h2, h.done.keeps hk h3, h.q.keeps hk hF, fun k hF => ⟨(h.lF k hF).1, Nat.lt_of_lt_of_le (h.lF k hF).2.1 hk.size, (h.lF k hF).2.2⟩, h.lb, h.lp, h.lr, h.ld, h.n1, h.n2, h.n3⟩
theorem SideM.keeps0 (h : SideM w base b m0 mp mpar md q P par dn A t F) (hk : Keeps (fun _ => False) w w') : SideM w' base b m0 mp mpar md q P par dn A t F :=
  h.keeps hk (fun h => h) (fun h => h) (fun h => h) (fun h => h) (fun _ _ h => h)
end

theorem metF_comm (a b : Option Int) (x : Nat) (found : Bool) (best : Int) (at_ : Nat) : metF a b x found best at_ = metF b a x found best at_ := by
  cases a with
  | none => cases b <;> rfl
  | some a =>
    cases b with
    | none => rfl
    | some b => unfold metF; simp only; rw [Int.add_comm]
theorem fallMet {P0 P' : Nat → Option Int} {best : Int} {at_ : Nat} {found : Bool} {x : Nat} {v : Int} (hI : MeetI P0 P' best at_ found) (hlt : ∀ q, P0 x = some q → v < q) :
    MeetI (putP P0 x v) P' (metF (putP P0 x v x) (P' x) x found best at_).2.1 (metF (putP P0 x v x) (P' x) x found best at_).2.2 (metF (putP P0 x v x) (P' x) x found best at_).1 := by
  rw [putP_same]
  cases hx : P' x with
  | none => exact hI.fallNone hx
  | some u =>
    unfold metF
    simp only
    split
    · rename_i h; exact hI.fallBest hx h
    · rename_i h
      have h1 : found = true := by
        cases found with
        | true => rfl
        | false => exact absurd (.inl rfl) h
      exact hI.fallSame hx h1 (by have h2 : ¬ v + u < best := fun h2 => h (.inr h2); omega) hlt

/-- The side b looks for what it shares with the side b'. -/
theorem met_side (fl : Bool) (w : World) (bf bb bfo bbe bat b b' at_ x : Nat) (found : Bool) (best : Int) (P0 P' : Nat → Option Int) (v : Int) (m0 mp m2 m3 q m0' mp' m2' m3' q' : Nat)
    (hm : MetB w bf bb bfo bbe bat (cond fl b b') (cond fl b' b) found best at_) (h1 : SideB w b m0 mp m2 m3 q) (h2 : SideB w b' m0' mp' m2' m3' q') (hP : FMap w mp intV (putP P0 x v)) (hP' : FMap w mp' intV P')
    (hI : MeetI P0 P' best at_ found) (hlt : ∀ q, P0 x = some q → v < q) (lo : ∀ y a, putP P0 x v y = some a → 0 ≤ a ∧ a ≤ 1000000000000) (lo' : ∀ y a, P' y = some a → 0 ≤ a ∧ a ≤ 1000000000000) :
    Calls Try.prog 94 #[.int .u32 (x : Int), .pointer (some ⟨bf, 0, none⟩), .pointer (some ⟨bb, 0, none⟩), .pointer (some ⟨bfo, 0, none⟩), .pointer (some ⟨bbe, 0, none⟩), .pointer (some ⟨bat, 0, none⟩)] w fun e w' => e = .returned (.tuple #[]) ∧
      ∃ (found1 : Bool) (best1 : Int) (at1 : Nat), MetB w' bf bb bfo bbe bat (cond fl b b') (cond fl b' b) found1 best1 at1 ∧ MeetI (putP P0 x v) P' best1 at1 found1 ∧ Keeps (fun k => k = bfo ∨ k = bbe ∨ k = bat) w w' := by
  have hfall := fallMet hI hlt
  cases fl with
  | true =>
    refine (met_any w bf bb bfo bbe bat b b' at_ x found best _ _ m0 mp m2 m3 q m0' mp' m2' m3' q' hm h1 h2 hP hP' lo lo').mono ?_
    rintro e w' ⟨rfl, hmb, hk⟩
    exact ⟨rfl, _, _, _, hmb, hfall, hk⟩
  | false =>
    refine (met_any w bf bb bfo bbe bat b' b at_ x found best _ _ m0' mp' m2' m3' q' m0 mp m2 m3 q hm h2 h1 hP' hP lo' lo).mono ?_
    rintro e w' ⟨rfl, hmb, hk⟩
    rw [metF_comm] at hmb
    exact ⟨rfl, _, _, _, hmb, hfall, hk⟩

end Go.Proofs.Ytdonadeodioplaa

namespace Go.Proofs.Ytdonadeodioplaa
open Go.RowKit

def sarcC (a : SArc) : List Value := [.int .i64 (a.op : Int), .int .i64 a.price, .int .u32 (a.to : Int)]
def addN (f : Nat → List SArc) (s : Nat) (es : List Stp) : Nat → List SArc := fun x => if x = s then f x ++ es.map arcOf else f x
def addL (f : Nat → List SArc) (s : Nat) (es : List Stp) : Nat → List SArc := fun y => f y ++ (es.filter fun e => e.to == y).map (arcTo s)
theorem addN_nil (f : Nat → List SArc) (s : Nat) : addN f s [] = f := by funext y; simp [addN]
theorem addL_nil (f : Nat → List SArc) (s : Nat) : addL f s [] = f := by funext y; simp [addL]
theorem addN_snoc (f : Nat → List SArc) (s : Nat) (es : List Stp) (e : Stp) : addN f s (es ++ [e]) = fun z => if z = s then addN f s es s ++ [arcOf e] else addN f s es z := by
  funext z
  unfold addN
  by_cases h : z = s
  · subst h; simp
  · simp [h]
theorem addL_snoc (f : Nat → List SArc) (s : Nat) (es : List Stp) (e : Stp) : addL f s (es ++ [e]) = fun z => if z = e.to then addL f s es e.to ++ [arcTo s e] else addL f s es z := by
  funext z
  unfold addL
  rw [List.filter_append, List.map_append, ← List.append_assoc]
  by_cases h : z = e.to
  · subst h; rw [if_pos rfl]; simp
  · rw [if_neg h]
    have : (e.to == z) = false := by simpa using fun e => h e.symm
    simp [this]
theorem nextG_nil (ops : List Wop) : nextG ops [] = fun _ => [] := by funext y; simp [nextG]
theorem lastG_nil (ops : List Wop) : lastG ops [] = fun _ => [] := by funext y; rfl
theorem nextG_snoc (ops : List Wop) {L : List Nat} {s : Nat} (h : s ∉ L) : nextG ops (L ++ [s]) = addN (nextG ops L) s (wsteps ops s) := by
  funext y
  unfold nextG addN
  by_cases hy : y = s
  · subst hy; simp [h]
  · simp [hy]
theorem lastG_snoc (ops : List Wop) (L : List Nat) (s : Nat) : lastG ops (L ++ [s]) = addL (lastG ops L) s (wsteps ops s) := by
  funext y; unfold lastG addL; rw [List.flatMap_append]; simp
theorem addN_len (f : Nat → List SArc) (s : Nat) (es : List Stp) (y : Nat) : (addN f s es y).length ≤ (f y).length + es.length := by
  unfold addN; split
  · rw [List.length_append, List.length_map]; exact Nat.le_refl _
  · omega
theorem addL_len (f : Nat → List SArc) (s : Nat) (es : List Stp) (y : Nat) : (addL f s es y).length ≤ (f y).length + es.length := by
  unfold addL; rw [List.length_append, List.length_map]; have := List.length_filter_le (fun e : Stp => e.to == y) es; omega
theorem nextG_len {ops : List Wop} (hm : ops.length ≤ 40) (L : List Nat) (y : Nat) : (nextG ops L y).length ≤ 40 := by
  have h := wsteps_le ops y
  unfold nextG; split
  · rw [List.length_map]; omega
  · simp
theorem lastG_len {ops : List Wop} (hm : ops.length ≤ 40) : ∀ (L : List Nat) (y : Nat), (lastG ops L y).length ≤ 40 * L.length
  | [], y => by simp [lastG]
  | s :: r, y => by
    have h1 := lastG_len hm r y
    have h2 := wsteps_le ops s
    have h3 := List.length_filter_le (fun x : Stp => x.to == y) (wsteps ops s)
    unfold lastG at h1 ⊢
    rw [List.flatMap_cons, List.length_append, List.length_map, List.length_cons]
    omega

theorem sarcC_get : ∀ (l : List SArc) (j : Nat) (p : SArc), l[j]? = some p → (l.flatMap sarcC)[j * 3]? = some (.int .i64 (p.op : Int)) ∧ (l.flatMap sarcC)[j * 3 + 1]? = some (.int .i64 p.price) ∧ (l.flatMap sarcC)[j * 3 + 2]? = some (.int .u32 (p.to : Int))
  | [], j, p, h => by simp at h
  | q :: r, 0, p, h => by simp at h; subst h; simp [sarcC]
  | q :: r, j + 1, p, h => by
    have h' := sarcC_get r j p (by simpa using h)
    rw [List.flatMap_cons, show (j + 1) * 3 = j * 3 + 1 + 1 + 1 by omega, show j * 3 + 1 + 1 + 1 + 1 = j * 3 + 1 + 1 + 1 + 1 from rfl, show j * 3 + 1 + 1 + 1 + 2 = j * 3 + 2 + 1 + 1 + 1 by omega]
    exact ⟨by simpa [sarcC] using h'.1, by simpa [sarcC] using h'.2.1, by simpa [sarcC] using h'.2.2⟩
theorem srow_at {w : World} {base k : Nat} {e : TypeId} {v : Value} {l : List SArc} {p : SArc} (h : w.ownsRow base e 3 v l.length (l.flatMap sarcC)) (hk : l[k]? = some p) :
    ∃ gg cap, v = .slice (some ⟨gg, 0, none⟩) l.length cap ∧ gg < w.heap.size ∧ w.cell? ⟨gg, k * 3, none⟩ = some (.int .i64 (p.op : Int)) ∧ w.cell? ⟨gg, k * 3 + 1, none⟩ = some (.int .i64 p.price) ∧ w.cell? ⟨gg, k * 3 + 2, none⟩ = some (.int .u32 (p.to : Int)) := by
  have hl := (List.getElem?_eq_some_iff.1 hk).1
  obtain ⟨c0, c1, c2⟩ := sarcC_get l k p hk
  rcases h.2 with ⟨_, h0⟩ | ⟨g, cap, cur, rfl, hb, hg, hn, hm, hs, ht⟩
  · omega
  · have key : ∀ (j : Nat) (x : Value), (l.flatMap sarcC)[j]? = some x → w.cell? ⟨g, j, none⟩ = some x := by
      intro j x hj
      rw [cell_of_blk hg]
      rw [← ht, List.getElem?_take] at hj
      split at hj
      · simpa using hj
      · cases hj
    exact ⟨g, cap, rfl, lt_of_heap hg, key _ _ c0, key _ _ c1, key _ _ c2⟩

theorem SideI.few {G : Nat → List SArc} {S0 : Nat → Prop} {L : List Nat} {C : Int} {P : Nat → Option Int} {par : Nat → Option SArc} {A : List (Int × Int)} {s : Nat} {R : List SArc} (h : SideI G S0 L C P par A s R) (hn : (A.map Prod.fst).Nodup) : A.length ≤ L.length := by
  have h1 : (A.map fun p => p.1.toNat).Nodup := by
    unfold List.Nodup at hn ⊢
    rw [List.pairwise_map] at hn ⊢
    refine hn.imp_of_mem (fun {a b} ha hb hab e => hab ?_)
    obtain ⟨x, hx, _⟩ := h.key a ha
    obtain ⟨y, hy, _⟩ := h.key b hb
    rw [hx, hy] at e ⊢
    have e' : x = y := by simpa using e
    rw [e']
  have h2 := nodup_sub_length h1 (b := L) (fun x hx => by
    obtain ⟨p, hp, rfl⟩ := List.mem_map.1 hx
    obtain ⟨y, hy, hP⟩ := h.key p hp
    rw [hy]
    exact h.dom _ _ hP)
  simpa using h2

end Go.Proofs.Ytdonadeodioplaa
