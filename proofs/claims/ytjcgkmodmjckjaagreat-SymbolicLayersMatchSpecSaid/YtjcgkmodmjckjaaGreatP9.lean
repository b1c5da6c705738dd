/- CostOf: the cost of a plan. novelty.Plan. A search by novelty of a width that no state exceeds finds a plan if there is one, in plain words. symbolic.Layers. A search from both ends, in plain Lean: the state in the middle, and the costs of both parts. Cheapest ways, in plain Lean: the states of a price, and what symbolic's search for a plan knows. Literals as nodes, and what And with a row of them costs. symbolic's sets: before. symbolic's trace: what its steps find; the map of what is done. No condition beyond what each theorem says. -/
import Derived.Test.YtjcgkmodmjckjaaGreatP5
import Derived.BigQuiet
import Derived.Test.YtjcgkmodmjckjaaGreatP6
import Derived.Test.YtjcgkmodmjckjaaGreatP8
import Derived.Test.YtjcgkmodmjckjaaGreatP7

namespace Go.Proofs.YtjcgkmodmjckjaaGreat
open Go.RowKit

def costAt (t : Tsk) (x : Int) : Int := ((t.ops[x.toNat]?).map Opr.cost).getD 0
def costL (t : Tsk) : List Int → Int
  | [] => 0
  | x :: r => costAt t x + costL t r
def PlanIn (t : Tsk) (p : List Int) : Prop := ∀ x ∈ p, 0 ≤ x ∧ x < (t.ops.length : Int)

theorem costL_append (t : Tsk) : ∀ (a b : List Int), costL t (a ++ b) = costL t a + costL t b
  | [], b => by simp [costL]
  | x :: a, b => by
    show costAt t x + costL t (a ++ b) = (costAt t x + costL t a) + costL t b
    rw [costL_append t a b]; omega
theorem costAt_bound {t : Tsk} (ok : t.Ok) (x : Int) : 0 ≤ costAt t x ∧ costAt t x ≤ 100 := by
  unfold costAt
  cases h : t.ops[x.toNat]? with
  | none => simp
  | some o =>
    have := ok.ops o (List.mem_of_getElem? h)
    simp; exact ⟨this.cost0, this.cost1⟩
theorem costL_bound {t : Tsk} (ok : t.Ok) : ∀ p : List Int, 0 ≤ costL t p ∧ costL t p ≤ 100 * (p.length : Int)
  | [] => by simp [costL]
  | x :: r => by
    have h1 := costAt_bound ok x
    have h2 := costL_bound ok r
    unfold costL
    rw [List.length_cons]
    omega

set_option maxRecDepth 100000 in
set_option maxHeartbeats 2000000 in
theorem costOf_any (w : World) (vi vg vo vp : Value) (t : Tsk) (p : List Int) (h : TaskAt w vi vg vo t) (ok : t.Ok) (hp : Ints w vp p) (hin : PlanIn t p) (hlen : p.length ≤ 1000000) :
    Calls Tryz.prog 47 #[.agg #[.int .i64 t.n, vi, vg, vo], vp] w fun e w' => e = .returned (.int .i64 (costL t p)) ∧ Keeps (fun _ => False) w w' := by
  obtain ⟨ai, ci, h1, _⟩ := h.init.form
  obtain ⟨ag, cg, h2, _⟩ := h.goal.form
  obtain ⟨ao, co, h3, hmo⟩ := h.ops.form
  obtain ⟨ap, cp, h4, _⟩ := hp.form
  subst h1 h2 h3 h4
  have K1 := (Keeps.refl (fun _ => False) w).alloc (.cells #[.int .i64 t.n, .slice ai t.init.length ci, .slice ag t.goal.length cg, .slice ao t.ops.length co] 25)
  have HB := Lib.hid (Four.new w (.int .i64 t.n) (.slice ai t.init.length ci) (.slice ag t.goal.length cg) (.slice ao t.ops.length co) 25)
  have HOC := Lib.hid (h.ops.cell rfl)
  have CP := Lib.hid (hp.cell rfl)
  have HK := Lib.hid K1; have OK := Lib.hid ok; have HIN := Lib.hid hin
  clear h K1 ok hin hp
  go_enter Tryz.func47, Tryz.ntmps47
  go_upto_region 1 with fail
  generalize (w.alloc (.cells #[.int .i64 t.n, .slice ai t.init.length ci, .slice ag t.goal.length cg, .slice ao t.ops.length co] 25)) = w1 at HB HK ⊢
  go_wp2_with fail
  go_loopw [5, 6] (fun v5 v6 wr => ∃ i : Nat, i ≤ p.length ∧ v6 = .int .i64 (i : Int) ∧ v5 = .int .i64 (costL t (p.take i)) ∧ Keeps (fun _ => False) w1 wr) (fun _ v6 _ => p.length - (intOf v6).toNat)
  case atStart => exact ⟨0, Nat.zero_le _, rfl, rfl, Keeps.refl _ _⟩
  case round =>
    obtain ⟨i, hi, rfl, rfl, hkr⟩ := hrel
    have HKR := Lib.hid hkr
    have HB2 := Lib.hid (HB.out.keeps0 hkr)
    obtain ⟨d0, d1, d2, d3⟩ := HB2.out
    have hbx := HB2.out.lt
    have hsz := hkr.size
    clear hkr
    by_cases hlt : i < p.length
    · obtain ⟨bp, op, rfl, hx'⟩ := CP.out (by omega)
      obtain ⟨x, hx⟩ : ∃ x, p[i]? = some x := ⟨_, List.getElem?_eq_getElem hlt⟩
      have hu := HKR.out.cell (HK.out.cell (hx' i x hx) (fun h => h)) (fun h => h)
      have hxi := HIN.out x (List.mem_of_getElem? hx)
      obtain ⟨xn, rfl⟩ : ∃ xn : Nat, x = (xn : Int) := ⟨x.toNat, by omega⟩
      obtain ⟨bo, oo, rfl, ho'⟩ := HOC.out (by omega)
      obtain ⟨o, ho⟩ : ∃ o, t.ops[xn]? = some o := ⟨_, List.getElem?_eq_getElem (by omega)⟩
      obtain ⟨va, vb, vc, _, _, _, c3, _⟩ := ho' xn o ho
      have c3' := HKR.out.cell (HK.out.cell c3 (fun h => h)) (fun h => h)
      have HTK : Hid (costL t (p.take (i + 1)) = costL t (p.take i) + o.cost) := by
        unfold Hid
        rw [take_getS hx, costL_append]
        simp [costL, costAt, ho]
      have hbd := costL_bound OK.out (p.take i)
      have hbl : ((p.take i).length : Int) ≤ 1000000 := by rw [List.length_take]; omega
      have hoc := OK.out.ops o (List.mem_of_getElem? ho)
      have ho0 := hoc.cost0
      have ho1 := hoc.cost1
      have q1 : IntKind.i64.wrap (costL t (p.take i) + o.cost) = costL t (p.take i) + o.cost := IntWalk.i64_in _ (by omega)
      have q2 : ((xn : Int)).toNat = xn := by omega
      have q3 : (0 : Int) ≤ (xn : Int) := by omega
      have q4 : (xn : Int) < (t.ops.length : Int) := hxi.2
      clear hx' hx ho' ho c3 hxi hoc hbl hbd
      go_wp2_with fail
      go_quiet (fail)
      have KD := Lib.hid (HKR.out.drewN nq)
      clear d0 d1 d2 d3 hu c3'
      generalize wr.drewN nq = w5 at KD ⊢
      go_wp2_with fail
      go_roundw
      case rel => exact ⟨i + 1, by omega, by go_num, by rw [HTK.out], KD.out⟩
      case measure => simp only [intOf]; omega
    · have hie : i = p.length := by omega
      subst hie
      go_wp2_with fail
      go_ret
      exact ⟨congrArg (fun u => Ending.returned (Value.int .i64 u)) (show costL t (p.take p.length) = costL t p by rw [List.take_length]), HK.out.trans HKR.out⟩

end Go.Proofs.YtjcgkmodmjckjaaGreat

/- space.Result. -/
namespace Go.Proofs.YtjcgkmodmjckjaaGreat
open Go.RowKit

/-- A SearchResult. -/
def resV (found : Bool) (vp : Value) (c n : Int) : Value := .agg #[.bool found, vp, .int .i64 c, .int .i64 n]

theorem quad_set {w : World} {B : Nat} {x0 x1 x2 x3 : Value} {T : TypeId} (h : w.heap[B]? = some (.cells #[x0, x1, x2, x3] T (0, 0))) (a b c d : Value) :
    ((((w.setCell ⟨B, 0, none⟩ a).setCell ⟨B, 1, none⟩ b).setCell ⟨B, 2, none⟩ c).setCell ⟨B, 3, none⟩ d).heap[B]? = some (.cells #[a, b, c, d] T (0, 0)) := by
  rw [blk_set_same (blk_set_same (blk_set_same (blk_set_same h a) b) c) d]; rfl
theorem keeps_quad {w : World} (B : Nat) (a b c d : Value) : Keeps (fun k => k = B) w ((((w.setCell ⟨B, 0, none⟩ a).setCell ⟨B, 1, none⟩ b).setCell ⟨B, 2, none⟩ c).setCell ⟨B, 3, none⟩ d) :=
  ((((Keeps.refl (fun k => k = B) w).setCell (p := ⟨B, 0, none⟩) (.inl rfl) _).setCell (p := ⟨B, 1, none⟩) (.inl rfl) _).setCell (p := ⟨B, 2, none⟩) (.inl rfl) _).setCell (p := ⟨B, 3, none⟩) (.inl rfl) _

def ResultPost (t : Tsk) (vp : Value) (p : List Int) (found : Bool) (n : Int) (w : World) (e : Ending) (w' : World) : Prop := Keeps (fun _ => False) w w' ∧
  ((60 < p.length ∧ e = .returned (.tuple #[resV false (.slice none 0 0) 0 0, fltV 10 (-9)])) ∨
   (p.length ≤ 60 ∧ e = .returned (.tuple #[resV found vp (costL t p) n, fltV 0 0])))

set_option maxRecDepth 100000 in
set_option maxHeartbeats 2000000 in
theorem result_any (w : World) (vi vg vo vp : Value) (t : Tsk) (p : List Int) (found : Bool) (n : Int) (h : TaskAt w vi vg vo t) (ok : t.Ok) (hp : Ints w vp p) (hin : PlanIn t p) :
    Calls Tryz.prog 41 #[.agg #[.int .i64 t.n, vi, vg, vo], vp, .bool found, .int .i64 n] w (ResultPost t vp p found n w) := by
  obtain ⟨ai, ci, h1, _⟩ := h.init.form
  obtain ⟨ag, cg, h2, _⟩ := h.goal.form
  obtain ⟨ao, co, h3, hmo⟩ := h.ops.form
  obtain ⟨ap, cp, h4, _⟩ := hp.form
  have K1 := (Keeps.refl (fun _ => False) w).alloc (.cells #[.int .i64 t.n, vi, vg, vo] 25)
  have KA := (Keeps.refl (fun _ => False) (w.alloc (.cells #[.int .i64 t.n, vi, vg, vo] 25))).alloc (.cells #[.bool false, .slice none 0 0, .int .i64 0, .int .i64 0] 41)
  have KB := (Keeps.refl (fun _ => False) ((w.alloc (.cells #[.int .i64 t.n, vi, vg, vo] 25)).alloc (.cells #[.bool false, .slice none 0 0, .int .i64 0, .int .i64 0] 41))).alloc (.cells #[.int .i64 0, .int .i64 0] 29)
  have HB := Lib.hid ((Four.new w (.int .i64 t.n) vi vg vo 25).keeps0 (KA.trans KB))
  have HR := Lib.hid (KB.heap (heap_alloc_new (w.alloc (.cells #[.int .i64 t.n, vi, vg, vo] 25)) (.cells #[.bool false, .slice none 0 0, .int .i64 0, .int .i64 0] 41)) (fun h => h))
  have HF : Flt w _ _ 29 := ⟨heap_alloc_new ((w.alloc (.cells #[.int .i64 t.n, vi, vg, vo] 25)).alloc (.cells #[.bool false, .slice none 0 0, .int .i64 0, .int .i64 0] 41)) (.cells #[.int .i64 0, .int .i64 0] 29), by simp; omega, K1.trans (KA.trans KB)⟩
  replace HF := Lib.hid HF
  have HT := Lib.hid (h.keeps0 (K1.trans (KA.trans KB))); have HP := Lib.hid (show Ints _ vp p from hp.keeps0 (K1.trans (KA.trans KB)))
  have OK := Lib.hid ok; have HIN := Lib.hid hin
  rw [World.size_alloc] at HR HF
  rw [World.size_alloc] at HF
  subst h1 h2 h3 h4
  clear h hp hin ok K1 KA KB
  go_enter Tryz.func41, Tryz.ntmps41
  go_upto_region 1 with fail
  generalize ((w.alloc (.cells #[.int .i64 t.n, .slice ai t.init.length ci, .slice ag t.goal.length cg, .slice ao t.ops.length co] 25)).alloc (.cells #[.bool false, .slice none 0 0, .int .i64 0, .int .i64 0] 41)).alloc (.cells #[.int .i64 0, .int .i64 0] 29) = w1 at HB HR HF HT HP ⊢
  have r0 : w1.cell? ⟨w.heap.size + 1, 0, none⟩ = some (.bool false) := by rw [cell_of_blk HR.out]; rfl
  have r1 : w1.cell? ⟨w.heap.size + 1, 1, none⟩ = some (.slice none 0 0) := by rw [cell_of_blk HR.out]; rfl
  have r2 : w1.cell? ⟨w.heap.size + 1, 2, none⟩ = some (.int .i64 0) := by rw [cell_of_blk HR.out]; rfl
  have r3 : w1.cell? ⟨w.heap.size + 1, 3, none⟩ = some (.int .i64 0) := by rw [cell_of_blk HR.out]; rfl
  have y0 := frozen_of_blk (o := 0) HR.out
  have y1 := frozen_of_blk (o := 1) HR.out
  have y2 := frozen_of_blk (o := 2) HR.out
  have y3 := frozen_of_blk (o := 3) HR.out
  have hlR := lt_of_heap HR.out
  obtain ⟨e0, e1, z0, z1, hF⟩ := HF.out.cells
  by_cases hlen : 60 < p.length
  · have q1 : decide ((60 : Int) < (p.length : Int)) = true := by simp; omega
    have HLEN := Lib.hid hlen
    have kq := keeps_quad (w := w1) (w.heap.size + 1) (.bool false) (.slice none 0 0) (.int .i64 0) (.int .i64 0)
    have HQ := Lib.hid (quad_set HR.out (.bool false) (.slice none 0 0) (.int .i64 0) (.int .i64 0))
    have HF2 := Lib.hid (HF.out.keepsS kq (by omega) (fun i hi => by omega))
    clear hlen kq
    go_wp2_with fail
    refine bodyPost_ret (results_cell_cell _ _ (w.heap.size + 1 + 1) 29 #[.int .i64 10, .int .i64 (-9)] (0, 0) _ rfl rfl (HF2.out.set (.int .i64 10) (.int .i64 (-9))).1 Tryz.underlying29 rfl (by kernel_rfl) rfl ((keeps_pair (w.heap.size + 1 + 1) _ _).heap HQ.out (by omega)) Tryz.underlying41 rfl (by kernel_rfl)) rfl ?_
    exact ⟨(HF2.out.set _ _).2, .inl ⟨HLEN.out, rfl⟩⟩
  · have q1 : decide ((60 : Int) < (p.length : Int)) = false := by simp; omega
    have hlen2 : p.length ≤ 60 := by omega
    have HLEN := Lib.hid hlen2
    have hs1 := HF.out.keep.size
    have HOC := Lib.hid (HT.out.ops.cell rfl)
    have CP := Lib.hid (HP.out.cell rfl)
    have K3 := Lib.hid ((Keeps.refl (fun _ => False) w1).alloc (.cells #[.bool found, .slice ap p.length cp, .int .i64 0, .int .i64 n] 41))
    have HX3 := Lib.hid (heap_alloc_new w1 (.cells #[.bool found, .slice ap p.length cp, .int .i64 0, .int .i64 n] 41))
    have hbw := HB.out.lt
    clear hlen HT HP r0 r1 r2 r3 y0 y1 y2 y3 e0 e1 z0 z1
    go_upto_region 5 with fail
    generalize w1.alloc (.cells #[.bool found, .slice ap p.length cp, .int .i64 0, .int .i64 n] 41) = w3 at K3 HX3 ⊢
    obtain ⟨bx, hbx⟩ : ∃ bx, w1.heap.size = bx := ⟨_, rfl⟩
    have HBX := Lib.hid hbx
    rw [hbx] at hF hlR hs1 hbw
    rw [show w1.heap.size = bx from hbx] at HX3
    rw [hbx]
    clear hbx
    go_loopw [24] (fun v24 wr => ∃ i : Nat, i ≤ p.length ∧ v24 = .int .i64 (i : Int) ∧ wr.heap[bx]? = some (.cells #[.bool found, .slice ap p.length cp, .int .i64 (costL t (p.take i)), .int .i64 n] 41 (0, 0)) ∧ Keeps (fun _ => False) w1 wr) (fun v24 _ => p.length - (intOf v24).toNat)
    case atStart => exact ⟨0, Nat.zero_le _, rfl, HX3.out, K3.out⟩
    case round =>
      obtain ⟨i, hi, rfl, hx, hkr⟩ := hrel
      have HX := Lib.hid hx
      have HKR := Lib.hid hkr
      have HB2 := Lib.hid (HB.out.keeps0 hkr)
      have HF2 := Lib.hid (HF.out.keeps0 hkr)
      have HR2 := Lib.hid (hkr.heap HR.out (fun h => h))
      have s0 : wr.cell? ⟨bx, 0, none⟩ = some (.bool found) := by rw [cell_of_blk hx]; rfl
      have s1 : wr.cell? ⟨bx, 1, none⟩ = some (.slice ap p.length cp) := by rw [cell_of_blk hx]; rfl
      have s2 : wr.cell? ⟨bx, 2, none⟩ = some (.int .i64 (costL t (p.take i))) := by rw [cell_of_blk hx]; rfl
      have s3 : wr.cell? ⟨bx, 3, none⟩ = some (.int .i64 n) := by rw [cell_of_blk hx]; rfl
      have v2 := frozen_of_blk (o := 2) hx
      have hlx := lt_of_heap hx
      clear hkr hx
      by_cases hlt : i < p.length
      · obtain ⟨d0, d1, d2, d3⟩ := HB2.out
        have hbl2 := HB2.out.lt
        obtain ⟨bp, op, rfl, hx'⟩ := CP.out (by omega)
        obtain ⟨x, hx⟩ : ∃ x, p[i]? = some x := ⟨_, List.getElem?_eq_getElem hlt⟩
        have hu := HKR.out.cell (hx' i x hx) (fun h => h)
        have hxi := HIN.out x (List.mem_of_getElem? hx)
        obtain ⟨xn, rfl⟩ : ∃ xn : Nat, x = (xn : Int) := ⟨x.toNat, by omega⟩
        obtain ⟨bo, oo, rfl, ho'⟩ := HOC.out (by omega)
        obtain ⟨o, ho⟩ : ∃ o, t.ops[xn]? = some o := ⟨_, List.getElem?_eq_getElem (by omega)⟩
        obtain ⟨va, vb, vc, _, _, _, c3, _⟩ := ho' xn o ho
        have c3' := HKR.out.cell c3 (fun h => h)
        have HTK : Hid (costL t (p.take (i + 1)) = costL t (p.take i) + o.cost) := by
          unfold Hid
          rw [take_getS hx, costL_append]
          simp [costL, costAt, ho]
        have hbd := costL_bound OK.out (p.take i)
        have hbl : ((p.take i).length : Int) ≤ 1000000 := by rw [List.length_take]; omega
        have hoc := OK.out.ops o (List.mem_of_getElem? ho)
        have ho0 := hoc.cost0
        have ho1 := hoc.cost1
        have q1 : IntKind.i64.wrap (costL t (p.take i) + o.cost) = costL t (p.take i) + o.cost := IntWalk.i64_in _ (by omega)
        have q2 : ((xn : Int)).toNat = xn := by omega
        have q3 : (0 : Int) ≤ (xn : Int) := by omega
        have q4 : (xn : Int) < (t.ops.length : Int) := hxi.2
        clear hx' hx ho' ho c3 hxi hoc hbl hbd
        go_upto_region 7 with fail
        go_still_tail 10, (by kernel_rfl)
        change wpList _ _ _ _ _ wr.drew
        have KD := (Keeps.refl (fun _ => False) wr).drew
        have HXD := Lib.hid (KD.heap HX.out (fun h => h))
        have HKD := Lib.hid (HKR.out.trans KD)
        clear KD d0 d1 d2 d3 hbl2 hu c3' s0 s1 s2 s3 v2 hlx
        generalize wr.drew = w5 at HXD HKD ⊢
        have s2 : w5.cell? ⟨bx, 2, none⟩ = some (.int .i64 (costL t (p.take i))) := by rw [cell_of_blk HXD.out]; rfl
        have v2 := frozen_of_blk (o := 2) HXD.out
        have hlx := lt_of_heap HXD.out
        have HN := Lib.hid (blk_set_same HXD.out (o := 2) (.int .i64 (costL t (p.take i) + o.cost)))
        have HKN := Lib.hid (HKD.out.trans' ((Keeps.refl (fun k => k = bx) w5).setCell (p := ⟨bx, 2, none⟩) (.inl rfl) (.int .i64 (costL t (p.take i) + o.cost))) (fun k hk => .inr (by have := HBX.out; omega)))
        go_wp2_with fail
        go_roundw
        case rel => exact ⟨i + 1, by omega, by go_num, by rw [HTK.out]; exact HN.out, HKN.out⟩
        case measure => simp only [intOf]; omega
      · have hie : i = p.length := by omega
        subst hie
        have r0 : wr.cell? ⟨w.heap.size + 1, 0, none⟩ = some (.bool false) := by rw [cell_of_blk HR2.out]; rfl
        have r1 : wr.cell? ⟨w.heap.size + 1, 1, none⟩ = some (.slice none 0 0) := by rw [cell_of_blk HR2.out]; rfl
        have r2 : wr.cell? ⟨w.heap.size + 1, 2, none⟩ = some (.int .i64 0) := by rw [cell_of_blk HR2.out]; rfl
        have r3 : wr.cell? ⟨w.heap.size + 1, 3, none⟩ = some (.int .i64 0) := by rw [cell_of_blk HR2.out]; rfl
        have y0 := frozen_of_blk (o := 0) HR2.out
        have y1 := frozen_of_blk (o := 1) HR2.out
        have y2 := frozen_of_blk (o := 2) HR2.out
        have y3 := frozen_of_blk (o := 3) HR2.out
        have hlR2 := lt_of_heap HR2.out
        obtain ⟨e0, e1, z0, z1, hF2⟩ := HF2.out.cells
        have HCE : Hid (costL t (p.take p.length) = costL t p) := by unfold Hid; rw [List.take_length]
        have kq := keeps_quad (w := wr) (w.heap.size + 1) (.bool found) (.slice ap p.length cp) (.int .i64 (costL t p)) (.int .i64 n)
        have HQ := Lib.hid (quad_set HR2.out (.bool found) (.slice ap p.length cp) (.int .i64 (costL t p)) (.int .i64 n))
        have HF4 := Lib.hid (HF2.out.keepsS kq (by omega) (fun i hi => by omega))
        rw [HCE.out] at s2
        clear kq HX
        go_wp2_with fail
        refine bodyPost_ret (results_cell_cell _ _ (w.heap.size + 1 + 1) 29 #[.int .i64 0, .int .i64 0] (0, 0) _ rfl rfl (HF4.out.set (.int .i64 0) (.int .i64 0)).1 Tryz.underlying29 rfl (by kernel_rfl) rfl ((keeps_pair (w.heap.size + 1 + 1) _ _).heap HQ.out (by omega)) Tryz.underlying41 rfl (by kernel_rfl)) rfl ?_
        exact ⟨(HF4.out.set _ _).2, .inr ⟨HLEN.out, rfl⟩⟩

end Go.Proofs.YtjcgkmodmjckjaaGreat

namespace Go.Proofs.YtjcgkmodmjckjaaGreat
open Go.RowKit

/-! ### the plans of a search -/
theorem runOps_lt {ops : List Wop} : ∀ {p : List Nat} {x y : Nat}, runOps ops x p = some y → ∀ o ∈ p, o < ops.length
  | [], _, _, _, _, h => by cases h
  | o :: r, x, y, h, k, hk => by
    rw [runOps] at h
    cases ho : ops[o]? with
    | none => rw [ho] at h; cases h
    | some op =>
      rw [ho] at h; simp only at h
      split at h
      · rcases List.mem_cons.1 hk with rfl | hk
        · exact (List.getElem?_eq_some_iff.1 ho).1
        · exact runOps_lt h k hk
      · cases h

theorem planIn_run {t : Tsk} {p : List Nat} {x y : Nat} (h : runOps (wordsOf t.ops) x p = some y) : PlanIn t (intsP p) := by
  intro z hz
  unfold intsP at hz
  obtain ⟨o, ho, rfl⟩ := List.mem_map.1 hz
  have := runOps_lt h o ho
  unfold wordsOf at this
  rw [List.length_map] at this
  omega

/-! ### two blocks of results -/
structure RFl (w w1 : World) (R F : Nat) : Prop where
  res : w1.heap[R]? = some (.cells #[.bool false, .slice none 0 0, .int .i64 0, .int .i64 0] 41 (0, 0))
  flt : Flt w w1 F 29
  base : w.heap.size ≤ R
  ne : R ≠ F
theorem RFl.keeps0 {w w1 w2 : World} {R F : Nat} (h : RFl w w1 R F) (hk : Keeps (fun _ => False) w1 w2) : RFl w w2 R F := ⟨hk.heap h.res (fun h => h), h.flt.keeps0 hk, h.base, h.ne⟩
theorem RFl.cells {w w1 : World} {R F : Nat} (h : RFl w w1 R F) : w1.cell? ⟨R, 0, none⟩ = some (.bool false) ∧ w1.cell? ⟨R, 1, none⟩ = some (.slice none 0 0) ∧ w1.cell? ⟨R, 2, none⟩ = some (.int .i64 0) ∧ w1.cell? ⟨R, 3, none⟩ = some (.int .i64 0) ∧
    w1.frozen? ⟨R, 0, none⟩ = false ∧ w1.frozen? ⟨R, 1, none⟩ = false ∧ w1.frozen? ⟨R, 2, none⟩ = false ∧ w1.frozen? ⟨R, 3, none⟩ = false ∧ R < w1.heap.size :=
  ⟨by rw [cell_of_blk h.res]; rfl, by rw [cell_of_blk h.res]; rfl, by rw [cell_of_blk h.res]; rfl, by rw [cell_of_blk h.res]; rfl, frozen_of_blk h.res, frozen_of_blk h.res, frozen_of_blk h.res, frozen_of_blk h.res, lt_of_heap h.res⟩
theorem RFl.set {w w1 : World} {R F : Nat} (h : RFl w w1 R F) (a b c d x y : Value) :
    ((((((w1.setCell ⟨R, 0, none⟩ a).setCell ⟨R, 1, none⟩ b).setCell ⟨R, 2, none⟩ c).setCell ⟨R, 3, none⟩ d).setCell ⟨F, 0, none⟩ x).setCell ⟨F, 1, none⟩ y).heap[R]? = some (.cells #[a, b, c, d] 41 (0, 0)) ∧
    ((((((w1.setCell ⟨R, 0, none⟩ a).setCell ⟨R, 1, none⟩ b).setCell ⟨R, 2, none⟩ c).setCell ⟨R, 3, none⟩ d).setCell ⟨F, 0, none⟩ x).setCell ⟨F, 1, none⟩ y).heap[F]? = some (.cells #[x, y] 29 (0, 0)) ∧
    Keeps (fun _ => False) w ((((((w1.setCell ⟨R, 0, none⟩ a).setCell ⟨R, 1, none⟩ b).setCell ⟨R, 2, none⟩ c).setCell ⟨R, 3, none⟩ d).setCell ⟨F, 0, none⟩ x).setCell ⟨F, 1, none⟩ y) ∧
    Keeps (fun k => k = R ∨ k = F) w1 ((((((w1.setCell ⟨R, 0, none⟩ a).setCell ⟨R, 1, none⟩ b).setCell ⟨R, 2, none⟩ c).setCell ⟨R, 3, none⟩ d).setCell ⟨F, 0, none⟩ x).setCell ⟨F, 1, none⟩ y) := by
  have kq := keeps_quad (w := w1) R a b c d
  have hq := quad_set h.res a b c d
  have hf := h.flt.keepsS kq (fun e => h.ne e.symm) (fun i hi => by subst hi; exact h.base)
  have hs := hf.set x y
  exact ⟨(keeps_pair F x y).heap hq h.ne, hs.1, hs.2, (kq.mono (fun _ _ h => .inl h)).trans ((keeps_pair F x y).mono (fun _ _ h => .inr h))⟩

/-- The zero result stays as it is. -/
theorem RFl.ids {w w1 : World} {R F : Nat} (h : RFl w w1 R F) : w1.setCell ⟨R, 0, none⟩ (.bool false) = w1 ∧ w1.setCell ⟨R, 1, none⟩ (.slice none 0 0) = w1 ∧ w1.setCell ⟨R, 2, none⟩ (.int .i64 0) = w1 ∧ w1.setCell ⟨R, 3, none⟩ (.int .i64 0) = w1 :=
  ⟨setCell_id h.cells.1, setCell_id h.cells.2.1, setCell_id h.cells.2.2.1, setCell_id h.cells.2.2.2.1⟩
theorem RFl.fin {w w1 : World} {R F : Nat} (h : RFl w w1 R F) (x y : Value) : ((w1.setCell ⟨F, 0, none⟩ x).setCell ⟨F, 1, none⟩ y).drew.heap[R]? = some (.cells #[.bool false, .slice none 0 0, .int .i64 0, .int .i64 0] 41 (0, 0)) ∧
    ((w1.setCell ⟨F, 0, none⟩ x).setCell ⟨F, 1, none⟩ y).drew.heap[F]? = some (.cells #[x, y] 29 (0, 0)) ∧ Keeps (fun _ => False) w ((w1.setCell ⟨F, 0, none⟩ x).setCell ⟨F, 1, none⟩ y).drew :=
  ⟨(keeps_pair F x y).drew.heap h.res h.ne, (h.flt.set x y).1, (h.flt.set x y).2.drew⟩

theorem quad_cells {w : World} {B : Nat} {a b c d : Value} {T : TypeId} (h : w.heap[B]? = some (.cells #[a, b, c, d] T (0, 0))) : w.cell? ⟨B, 0, none⟩ = some a ∧ w.cell? ⟨B, 1, none⟩ = some b ∧ w.cell? ⟨B, 2, none⟩ = some c ∧ w.cell? ⟨B, 3, none⟩ = some d ∧ B < w.heap.size :=
  ⟨by rw [cell_of_blk h]; rfl, by rw [cell_of_blk h]; rfl, by rw [cell_of_blk h]; rfl, by rw [cell_of_blk h]; rfl, lt_of_heap h⟩

/-! ### what Plan hands back -/
end Go.Proofs.YtjcgkmodmjckjaaGreat

namespace Go.Proofs.YtjcgkmodmjckjaaGreat

/-! ### greater states -/
theorem reach_run {ops : List Wop} {s : Nat} : ∀ (q : List Nat) {x y : Nat}, Reach ops s x → runOps ops x q = some y → Reach ops s y
  | [], x, y, hx, hy => by cases hy; exact hx
  | a :: q, x, y, hx, hy => by
    rw [runOps] at hy
    cases ho : ops[a]? with
    | none => rw [ho] at hy; cases hy
    | some o =>
      rw [ho] at hy; simp only at hy
      by_cases hc : o.can x = true
      · rw [if_pos hc] at hy
        exact reach_run q (.step hx (List.mem_map.2 ⟨o, List.mem_filter.2 ⟨List.mem_of_getElem? ho, hc⟩, rfl⟩)) hy
      · rw [if_neg hc] at hy; cases hy

/-! ### the search that finds nothing -/
section
variable {acc : Nat → Bool} {cov : Nat → List Nat → Bool}
end

end Go.Proofs.YtjcgkmodmjckjaaGreat

namespace Go.Proofs.YtjcgkmodmjckjaaGreat
open Go.RowKit

def slen : Value → Nat
  | .slice _ n _ => n
  | _ => 0

set_option maxRecDepth 100000 in
set_option maxHeartbeats 8000000 in
theorem layers_any (w : World) (vi vg vo : Value) (t : Tsk) (h : TaskAt w vi vg vo t) :
    Calls Tryz.prog 8 #[.agg #[.int .i64 t.n, vi, vg, vo]] w (LayPost t w) := by
  obtain ⟨j0, hj0, jz0, jz1, jz2⟩ := info_parts Tryz.info3
  obtain ⟨ai, ci, h1, _⟩ := h.init.form
  obtain ⟨ag, cg, h2, _⟩ := h.goal.form
  obtain ⟨ao, co, h3, hmo⟩ := h.ops.form
  subst h1 h2 h3
  have K1 := (Keeps.refl (fun _ => False) w).alloc (.cells #[.int .i64 t.n, .slice ai t.init.length ci, .slice ag t.goal.length cg, .slice ao t.ops.length co] 25)
  have HT := h.keeps0 (K1.alloc (.cells #[.int .i64 0, .int .i64 0] 29))
  have HB := (Four.new w (.int .i64 t.n) (.slice ai t.init.length ci) (.slice ag t.goal.length cg) (.slice ao t.ops.length co) 25).keeps0 ((Keeps.refl _ _).alloc (.cells #[.int .i64 0, .int .i64 0] 29))
  have HF : Flt w ((w.alloc (.cells #[.int .i64 t.n, .slice ai t.init.length ci, .slice ag t.goal.length cg, .slice ao t.ops.length co] 25)).alloc (.cells #[.int .i64 0, .int .i64 0] 29)) (w.heap.size + 1) 29 :=
    ⟨by have := heap_alloc_new (w.alloc (.cells #[.int .i64 t.n, .slice ai t.init.length ci, .slice ag t.goal.length cg, .slice ao t.ops.length co] 25)) (.cells #[.int .i64 0, .int .i64 0] 29); rwa [World.size_alloc] at this, by omega, K1.alloc _⟩
  replace HT := Lib.hid HT; replace HB := Lib.hid HB; replace HF := Lib.hid HF
  clear h K1
  go_enter Tryz.func8, Tryz.ntmps8
  go_upto_region 1 with fail
  generalize ((w.alloc (.cells #[.int .i64 t.n, .slice ai t.init.length ci, .slice ag t.goal.length cg, .slice ao t.ops.length co] 25)).alloc (.cells #[.int .i64 0, .int .i64 0] 29)) = w1 at HT HB HF ⊢
  have hbx := HB.out.lt
  obtain ⟨d0, d1, d2, d3⟩ := HB.out
  go_wp2_with fail
  refine (checked_any _ _ _ _ t HT.out).mono ?_; rintro e w2 ⟨hk, hr⟩
  have HF2 := Lib.hid (HF.out.keeps0 hk); have HB2 := Lib.hid (HB.out.keeps0 hk); have HT2 := Lib.hid (HT.out.keeps0 hk)
  clear d0 d1 d2 d3 hk hbx
  have hb0 := HF2.out.keep.size
  rcases hr with ⟨hc, rfl⟩ | ⟨hok, hx, rfl⟩ | ⟨hok, l, hx, b, v, vl, ws, rfl, hw, hperm, hord, hown⟩
  · have hc2 : ((taskFault t).1 == 0) = false := by simpa using hc
    have HE := Lib.hid (show expF t = taskFault t by unfold expF; rw [if_neg hc])
    have HC := Lib.hid hc
    clear hc
    generalize hfe : taskFault t = f at hc2 HC HE ⊢
    clear hfe
    have HF3 := Lib.hid (HF2.out.keeps0 ((Keeps.refl _ _).alloc (.cells #[.int .i64 f.1, .int .i64 f.2] 29)))
    obtain ⟨e0, e1, z0, z1, hF⟩ := HF3.out.cells
    go_wp2_with fail
    go_region
    all_goals
      go_wp2
      refine bodyPost_ret (results_tmp_cell _ _ (w.heap.size + 1) 29 #[.int .i64 f.1, .int .i64 f.2] (0, 0) _ rfl rfl (((Keeps.refl (fun _ => False) _).drew).heap (HF3.out.set (.int .i64 f.1) (.int .i64 f.2)).1 (fun h => h)) Tryz.underlying29 rfl (by kernel_rfl)) rfl ?_
      exact ⟨((HF3.out.set (.int .i64 f.1) (.int .i64 f.2)).2).drew, _, [], f.1, f.2, rfl, Ints.nil _, .inl ⟨HC.out, HE.out, rfl⟩⟩
  · have HE := Lib.hid (show expF t = (10, -7) by unfold expF; rw [if_pos (taskFault_zero.2 hok), hx])
    clear hx hok
    have HF3 := Lib.hid (HF2.out.keeps0 ((Keeps.refl _ _).alloc (.cells #[.int .i64 10, .int .i64 (-7)] 29)))
    obtain ⟨e0, e1, z0, z1, hF⟩ := HF3.out.cells
    go_wp2_with fail
    go_region
    all_goals
      go_wp2
      refine bodyPost_ret (results_tmp_cell _ _ (w.heap.size + 1) 29 #[.int .i64 10, .int .i64 (-7)] (0, 0) _ rfl rfl (((Keeps.refl (fun _ => False) _).drew).heap (HF3.out.set (.int .i64 10) (.int .i64 (-7))).1 (fun h => h)) Tryz.underlying29 rfl (by kernel_rfl)) rfl ?_
      exact ⟨((HF3.out.set (.int .i64 10) (.int .i64 (-7))).2).drew, _, [], 10, -7, rfl, Ints.nil _, .inl ⟨by decide, HE.out, rfl⟩⟩
  · have HX := Lib.hid hx; have OK := Lib.hid hok
    have KA := (Keeps.refl (fun _ => False) w2).alloc (.cells #[.int .i64 0, .int .i64 0] 29)
    have HF3 := Lib.hid (HF2.out.keeps0 KA); have HB3 := Lib.hid (HB2.out.keeps0 KA); have HT3 := Lib.hid (HT2.out.keeps0 KA)
    obtain ⟨av, cv, hav⟩ := ownsRow_form1 hown
    subst hav
    clear hx hok hw KA hperm hord hown HB2 HT2 HF2 HT HB HF
    have F0 := heap_alloc_new w2 (.cells #[.int .i64 0, .int .i64 0] 29)
    go_upto_region 2 with fail
    generalize w2.alloc (.cells #[.int .i64 0, .int .i64 0] 29) = w3 at HF3 HB3 HT3 F0 ⊢
    have f0 : w3.cell? ⟨w2.heap.size, 0, none⟩ = some (.int .i64 0) := by rw [cell_of_blk F0]; rfl
    have f1 : w3.cell? ⟨w2.heap.size, 1, none⟩ = some (.int .i64 0) := by rw [cell_of_blk F0]; rfl
    have fl := lt_of_heap F0
    clear F0
    obtain ⟨L, hL⟩ : ∃ L : Nat, t.n = (L : Int) := ⟨t.n.toNat, by have := OK.out.n0; omega⟩
    have hL24 : L ≤ 24 := by have := OK.out.n1; omega
    have hns := newSets_any w3 _ _ _ t L HT3.out OK.out hL
    rw [hL] at hns
    have HNS := Lib.hid hns
    clear hns
    have hbx := HB3.out.lt
    obtain ⟨d0, d1, d2, d3⟩ := HB3.out
    go_wp2_with fail
    refine HNS.out.mono ?_; rintro e w4 ⟨ss, sb, N0, G0, gk, rfl, hst, hgk, hgv, hlow, hss⟩
    have HST := Lib.hid hst; have HLOW := Lib.hid hlow; have HSS := Lib.hid hss
    have c0 := hst.c0.1
    have c0l := hst.c0.2
    have g1 := hst.k0.cell d1 (fun h => h)
    have gl := Nat.lt_of_lt_of_le hbx hst.k0.size
    have HIN := Lib.hid (HT3.out.init.keeps0 hst.k0)
    have HIR := Lib.hid (show ∀ p ∈ t.init, 0 ≤ p ∧ p < (L : Int) from fun p hp => by have := (isSet_iff.1 OK.out.init).1 p hp; omega)
    clear hst hgk hgv hlow hss f0 f1 fl d0 d1 d2 d3 hbx
    go_upto_region 5 with fail
    have HSD := Lib.hid HST.out.drew
    have KD := (Keeps.refl (fun _ => False) w4).drew
    have HID := Lib.hid (HIN.out.keeps0 KD)
    have e0 := KD.cell c0 (fun h => h); have e1 := KD.cell g1 (fun h => h)
    clear KD
    have HC1 := Lib.hid (word_any w4.drew _ t.init HID.out (fun x hx => by have := HIR.out x hx; omega))
    have HC2 := Lib.hid (cube_any w4.drew sb L (wd t.init) N0 G0 HSD.out.dg hL24 (by have := HLOW.out; omega))
    go_region_held3 (fun w' => w'.cell? ⟨ss, 0, none⟩ = some (.pointer (some ⟨sb, 0, none⟩)) ∧ w'.cell? ⟨w.heap.size, 1, none⟩ = some (.slice ai t.init.length ci))
      (go_keep)
      (first
        | (go_at_call 26; refine HC1.out.mono ?_; rintro en w5 ⟨rfl, hw5⟩; rw [← hw5]; clear hw5 w5)
        | (go_at_call 25; refine HC2.out.mono ?_; rintro en w5 ⟨k1, N1, G1, rfl, hp1, hd1, hk1, hn1⟩; have HP1 := Lib.hid hp1; have HS1 := Lib.hid (HSD.out.op hd1 hk1 hn1); have HK1 := Lib.hid hk1; have t0 := HS1.out.c0.1; have t1 : w5.cell? ⟨w.heap.size, 1, none⟩ = some (.slice ai t.init.length ci) := HS1.out.k0.cell HB3.out.c1 (fun h => h); clear hp1 hd1 hk1 hn1))
    all_goals
      have HRS := Lib.hid (reached_some (ops := wordsOf t.ops) (s := wd t.init) (l := l) HX.out)
      have HRE := Lib.hid (show ∀ q y, runOps (wordsOf t.ops) (wd t.init) q = some y → y ∈ l from fun q y h => (HRS.out.2.2.2 y).2 (reach_run q .refl h))
      have HLT2 := Lib.hid (show ∀ q y, runOps (wordsOf t.ops) (wd t.init) q = some y → y < 2 ^ L from fun q y h => by
        obtain ⟨g1, g2⟩ := good_explored OK.out HX.out y (HRE.out q y h)
        rw [← g2]; exact wd_lt (fun x hx => by have := (isSet_iff.1 g1).1 x hx; omega))
      have hs0 : wd t.init < 2 ^ L := wd_lt HIR.out
      have HLAY0 := Lib.hid (show LayIs L (wordsOf t.ops) (wd t.init) (dv N1 k1) 0 from fun m hm => by
        rw [HP1.out.val, cube_iff hs0 hm]
        exact ⟨fun h => by rw [h]; exact Dp.zero, fun h => h.start⟩)
      have HALL0 := Lib.hid (show AllIs L (wordsOf t.ops) (wd t.init) (dv N1 k1) 0 from fun m hm => by
        rw [HLAY0.out m hm]
        exact ⟨fun h => ⟨0, Nat.le_refl _, h⟩, fun ⟨k, h1, h2⟩ => by rw [show k = 0 from by omega] at h2; exact h2⟩)
      have HLY0 := Lib.hid (show LyS w3 w5 w5.heap.size ss sb L (L : Int) (.slice ai t.init.length ci) (.slice ag t.goal.length cg) (.slice ao t.ops.length co) gk N1 G1 (.slice none 0 0) [] from ⟨HS1.out, World.ownsRow_nil _ _ _ _, fun k h => absurd h (by simp [Value.ownBlock]), HS1.out.c0.2, HS1.out.k0.size⟩)
      have HLOW1 := Lib.hid (show low N1 ≤ 13000000 from by have h1 := HP1.out.cnt; have h2 := HLOW.out; omega)
      clear t0 t1 e0 e1 c0 c0l g1 gl hs0
      have HOPS := Lib.hid HT3.out.ops
      go_wp2_with fail
      go_loopw [8, 9, 10] (fun lv ov av wr => ∃ (n ly al : Nat) (out : List Int) (N' : List Dn) (G' : Nat → Prop), lv = .int .i64 (ly : Int) ∧ av = .int .i64 (al : Int) ∧ LyS w3 wr w5.heap.size ss sb L (L : Int) (.slice ai t.init.length ci) (.slice ag t.goal.length cg) (.slice ao t.ops.length co) gk N' G' ov out ∧ out.length = n ∧ LayCnt (wordsOf t.ops) (wd t.init) out ∧ LayIs L (wordsOf t.ops) (wd t.init) (dv N' ly) n ∧ AllIs L (wordsOf t.ops) (wd t.init) (dv N' al) n ∧ ly < N'.length + 2 ∧ al < N'.length + 2 ∧ low N' ≤ 13000000 + n * 1532493824 ∧ w5.heap.size ≤ wr.heap.size) (fun _ ov _ _ => l.length + 1 - slen ov)
      case atStart => exact ⟨0, k1, k1, [], N1, G1, rfl, rfl, HLY0.out, rfl, fun n c h => by simp at h, HLAY0.out, HALL0.out, HP1.out.lt, HP1.out.lt, by have := HLOW1.out; omega, Nat.le_refl _⟩
      case round =>
        obtain ⟨n, ly, al, out, N', G', rfl, rfl, hly, hn, hcn, hla, hal, hl1, hl2, hlo, hsz⟩ := hrel
        obtain ⟨ar, cr, har⟩ := ownsRow_form1 hly.row
        subst har
        have HLY := Lib.hid hly; have HCN := Lib.hid hcn; have HLA := Lib.hid hla; have HAL := Lib.hid hal; have HL1 := Lib.hid hl1; have HL2 := Lib.hid hl2; have HLO := Lib.hid hlo; have HN := Lib.hid hn
        clear hly hcn hla hal hl1 hl2 hlo hn
        by_cases hz : ly = 0
        · subst hz
          have HF6 := Lib.hid (HF3.out.keeps0 HLY.out.st.k0)
          obtain ⟨e0, e1, z0, z1, hF⟩ := HF6.out.cells
          go_wp2_with fail
          refine bodyPost_ret (results_tmp_cell _ _ (w.heap.size + 1) 29 #[.int .i64 0, .int .i64 0] (0, 0) _ rfl rfl (HF6.out.set (.int .i64 0) (.int .i64 0)).1 Tryz.underlying29 rfl (by kernel_rfl)) rfl ?_
          refine ⟨(HF6.out.set (.int .i64 0) (.int .i64 0)).2, _, out, 0, 0, rfl, ?_, .inr ⟨rfl, rfl, OK.out, l, HX.out, LayCnt.done HCN.out (fun x hd => ?_)⟩⟩
          · have hrw := heap_row HLY.out.row (keeps_pair (w := wr) (w.heap.size + 1) (.int .i64 0) (.int .i64 0)) (fun k hk e => by
              have h1 := (World.ownsRow.lt HLY.out.row k hk).1
              have h2 := HF3.out.blk
              have h3 := lt_of_heap HF3.out.blk
              have h4 := HLY.out.low
              have h5 : k = w.heap.size + 1 := e
              omega)
            exact Sl.of_own hrw
          · rw [HN.out] at hd
            have hxl : x < 2 ^ L := by obtain ⟨⟨q, g1, _⟩, _⟩ := hd; exact HLT2.out q x g1
            have := (HLA.out x hxl).2 hd
            rw [dv_zero] at this; cases this
        · have q1 : ((ly : Int) != 0) = true := by simpa using hz
          obtain ⟨m0, hm0, _, hm1⟩ := dv_some HLY.out.st.dg.ok ly HL1.out hz
          have hdm := (HLA.out m0 hm0).1 hm1
          have hnl := hdm.lt HRE.out
          have hn2 : n < 2000 := Nat.lt_of_lt_of_le hnl HRS.out.2.1
          obtain ⟨S, hS1, hS2⟩ := Dp.list HRS.out.1 HRE.out n
          have hcnt := count_is HLY.out.st.dg.ok HL1.out hS1 (fun x => by
            rw [hS2]
            constructor
            · intro h
              have hx : x < 2 ^ L := by obtain ⟨⟨q, g1, _⟩, _⟩ := id h; exact HLT2.out q x g1
              exact ⟨hx, (HLA.out x hx).2 h⟩
            · rintro ⟨h1, h2⟩; exact (HLA.out x h1).1 h2)
          have hc3 := count_any wr sb L N' G' ly HLY.out.st.dg hL24 HL1.out
          rw [hcnt] at hc3
          have HC3 := Lib.hid hc3
          have HCS := Lib.hid (HCN.out.snoc ⟨S, hS1, fun e => by rw [e] at hS2; exact absurd ((hS2 m0).2 hdm) (by simp), by rw [HN.out]; exact hS2, rfl⟩)
          have hol : out.length ≤ 2000 := by rw [HN.out]; omega
          have hnl2 := hnl
          have c0 := HLY.out.st.c0.1
          have c0l := HLY.out.st.c0.2
          clear hc3 hcnt hdm hm1 hm0 hS1 hS2 HC1 HC2
          go_wp2_with fail
          refine HC3.out.mono ?_; rintro e w6 ⟨rfl, hk6⟩
          have HL6 := Lib.hid (HLY.out.keeps0 hk6)
          have hs6 := hk6.size
          generalize S.length = sl at HCS ⊢
          have KA := (Keeps.refl (fun _ => False) w6).alloc (.cells #[.int .i64 (sl : Int)] 3)
          clear hk6 c0 c0l q1
          go_wp2_with (at_builtin; refine wpList_append_lies _ rfl _ _ _ rfl w5.heap.size 3 j0 _ 1 8 Tryz.underlying22 hj0 jz0 jz1 jz2 rfl (by omega) _ out.length (out.map (Value.int .i64)) (by rfl) (World.ownsRow.alloc (o := .cells #[.int .i64 (sl : Int)] 3) HL6.out.row) ⟨w6.heap.size, 0, none⟩ 1 1 [.int .i64 (sl : Int)] (by rfl) (by rfl) ?hnews ?hone (by omega) (by unfold maxLen; omega) (by omega) (by simp; omega) (w6.heap.size + 1) (by simp) ?_)
          case hnews => exact World.news_of_block (cs := #[.int .i64 (sl : Int)]) (t := 3) (fr := (0, 0)) (heap_alloc_new _ _)
          case hone => simp [Value.oneCell']
          intro g cap2 w7 hown hgrow hat hlt7
          have HL7 := Lib.hid (LyS.grow (HL6.out.keeps0 KA) (steady_keeps hgrow) (ov' := .slice (some ⟨g, 0, none⟩) (out.length + 1) cap2) (out' := out ++ [(sl : Int)]) (by rw [List.length_append, List.map_append]; exact hown) (fun k hk => by cases hk; exact hat.imp (fun h => h) (fun h => by simp; omega)))
          have hs7 : w5.heap.size ≤ w7.heap.size := by have h1 := (steady_keeps hgrow).size; simp at h1; omega
          have HLY0' := Lib.hid (show DgOk L N' from HLY.out.st.dg.ok)
          clear hown hgrow hat hlt7 KA HLY HL6
          have g3 : w7.cell? ⟨w.heap.size, 3, none⟩ = some (.slice ao t.ops.length co) := HL7.out.st.k0.cell HB3.out.c3 (fun h => h)
          have gl := Nat.lt_of_lt_of_le HB3.out.lt HL7.out.st.k0.size
          have h40 := OK.out.few
          go_wp2_with fail
          go_loopw [11, 55] (fun xv iv wq => ∃ (j nx : Nat) (N2 : List Dn) (G2 : Nat → Prop), iv = .int .i64 (j : Int) ∧ j ≤ t.ops.length ∧ xv = .int .i64 (nx : Int) ∧ LyS w3 wq w5.heap.size ss sb L (L : Int) (.slice ai t.init.length ci) (.slice ag t.goal.length cg) (.slice ao t.ops.length co) gk N2 G2 (.slice (some ⟨g, 0, none⟩) (out.length + 1) cap2) (out ++ [(sl : Int)]) ∧ DgLe N' N2 ∧ nx < N2.length + 2 ∧ (∀ m, dv N2 nx m = imgsB (t.ops.take j) (dv N' ly) m) ∧ low N2 ≤ low N' + j * 38273024 ∧ w5.heap.size ≤ wq.heap.size) (fun _ iv _ => t.ops.length - (intOf iv).toNat)
          case atStart => exact ⟨0, 0, N', G', rfl, Nat.zero_le _, rfl, HL7.out, DgLe.refl _, by omega, fun m => by rw [dv_zero, List.take_zero]; rfl, by omega, hs7⟩
          case round =>
            obtain ⟨j, nx, N2, G2, rfl, hj, rfl, hlq, hle, hnx, hvx, hlow2, hszq⟩ := hrel
            have HLQ := Lib.hid hlq; have HLE := Lib.hid hle; have HNX := Lib.hid hnx; have HVX := Lib.hid hvx; have HLW := Lib.hid hlow2
            clear hlq hle hnx hvx hlow2 g3 gl
            by_cases hlt : j < t.ops.length
            · obtain ⟨o, ho⟩ : ∃ o, t.ops[j]? = some o := ⟨_, List.getElem?_eq_getElem hlt⟩
              have hok := OK.out.ops o (List.mem_of_getElem? ho)
              rw [hL] at hok
              obtain ⟨f1, f2, f3, f4⟩ := opr_few hL24 hok
              have HCO := Lib.hid (img_cost f1 f4 (opC_le ly))
              have HSD2 := Lib.hid HLQ.out.st.drew
              have HLD := Lib.hid (HLQ.out.keeps0 ((Keeps.refl (fun _ => False) wr).drew))
              have HLN := Lib.hid (show nx < N2.length + 2 ∧ ly < N2.length + 2 from ⟨HNX.out, by have h1 := HLE.out.len; have h2 := HL1.out; omega⟩)
              have HBG := Lib.hid (show low N2 + 37748736 + 600000 ≤ 5800000000000 from by have h1 := HLW.out; have h2 := HLO.out; omega)
              have HC1 := Lib.hid (image_any w3 wr.drew ss sb L N2 G2 (L : Int) _ _ _ gk ly j t.ops o HSD2.out hL24 HOPS.out ho h40 HLN.out.2 (isSet_iff.1 hok.pre).1 (isSet_iff.1 hok.add).1 (isSet_iff.1 hok.del).1 f1 f2 f3 (by have h1 := HCO.out; have h2 := HBG.out; omega))
              have c1 := HSD2.out.c0.1
              obtain ⟨c0, c0l⟩ := HLQ.out.st.c0
              have HOJ := Lib.hid ho
              have HLT3 := Lib.hid hlt
              clear ho hok f1 f2 f3 f4 hlt
              go_upto_region 15 with fail
              go_region_held3 (fun w' => w'.cell? ⟨ss, 0, none⟩ = some (.pointer (some ⟨sb, 0, none⟩)))
                (go_keep)
                (first
                  | (go_at_call 27; refine HC4.out.mono ?_; rintro en w9 ⟨k4, N4, G4, rfl, hp4, hd4, hk4, hn4⟩; have HP4 := Lib.hid hp4; have HL9 := Lib.hid (HL8.out.op hd4 hk4 hn4); have HSZ9 := Lib.hid (Nat.le_trans HSZ8.out hk4.size); have u1 := HL9.out.st.c0.1; clear hp4 hd4 hk4 hn4)
                  | (go_at_call 29; refine HC1.out.mono ?_; rintro en w8 ⟨k3, N3, G3, rfl, hp3, hz3, hs3, hk3, hn3⟩; have HP3 := Lib.hid hp3; have HL8 := Lib.hid (HLD.out.opS hs3 hk3 hn3); have HSZ8 := Lib.hid (show w5.heap.size ≤ w8.heap.size from Nat.le_trans hszq (Nat.le_trans ((Keeps.refl (fun _ => False) wr).drew).size hk3.size)); have t1 := HL8.out.st.c0.1; have HC4 := Lib.hid (or_any w8 sb L N3 G3 nx k3 hs3.dg hL24 (by have := hp3.le.len; have := HLN.out.1; omega) hp3.lt (by have h1 := hp3.cnt; have h2 := HCO.out; have h3 := HBG.out; have h4 := lowB_le L (min (lev L N3 nx) (lev L N3 k3)); omega)); clear hp3 hz3 hs3 hk3 hn3))
              all_goals
                go_wp2_with fail
                go_roundw
                case rel =>
                  have e1 : dv N2 ly = dv N' ly := funext fun m => HLE.out.dv HLY0'.out HL1.out m
                  refine ⟨j + 1, k4, N4, G4, by go_num, HLT3.out, rfl, HL9.out, (HLE.out.trans HP3.out.le).trans HP4.out.le, HP4.out.lt, fun m => ?_, ?_, HSZ9.out⟩
                  · rw [HP4.out.val, HP3.out.le.dv HSD2.out.dg.ok HLN.out.1, HP3.out.val, HVX.out, take_getS HOJ.out, imgsB_snoc, e1]; rfl
                  · have h1 := HP3.out.cnt; have h2 := HCO.out; have h3 := HP4.out.cnt; have h4 := lowB_le L (min (lev L N3 nx) (lev L N3 k3)); have h5 := HLW.out; omega
                case measure => simp [intOf]; have := HLT3.out; omega
            · have hje : j = t.ops.length := by omega
              subst hje
              have HAL2 := Lib.hid (show al < N2.length + 2 from by have h1 := HLE.out.len; have h2 := HL2.out; omega)
              have HBG := Lib.hid (show low N2 + 2000000 ≤ 5800000000000 from by have h1 := HLW.out; have h2 := HLO.out; omega)
              have HC1 := Lib.hid (without_any w3 wr ss sb L N2 G2 (L : Int) _ _ _ gk nx al HLQ.out.st hL24 HNX.out HAL2.out HBG.out)
              clear hlt
              go_wp2_with fail
              refine HC1.out.mono ?_; rintro e w8 ⟨k3, N3, G3, rfl, hp3, hz3, hs3, hk3, hn3⟩
              have HP3 := Lib.hid hp3
              have HL8 := Lib.hid (HLQ.out.opS hs3 hk3 hn3)
              have HSZ8 := Lib.hid (Nat.le_trans hszq hk3.size)
              obtain ⟨c0, c0l⟩ := HL8.out.st.c0
              have HC4 := Lib.hid (or_any w8 sb L N3 G3 al k3 hs3.dg hL24 (by have := hp3.le.len; have := HAL2.out; omega) hp3.lt (by have h1 := hp3.cnt; have h2 := opC_le nx; have h3 := HBG.out; have h4 := lowB_le L (min (lev L N3 al) (lev L N3 k3)); omega))
              clear hp3 hz3 hs3 hk3 hn3
              go_wp2_with fail
              refine HC4.out.mono ?_; rintro e w9 ⟨k4, N4, G4, rfl, hp4, hd4, hk4, hn4⟩
              have HP4 := Lib.hid hp4
              have HL9 := Lib.hid (HL8.out.op hd4 hk4 hn4)
              have HSZ9 := Lib.hid (Nat.le_trans HSZ8.out hk4.size)
              clear hp4 hd4 hk4 hn4 c0 c0l
              go_wp2_with fail
              go_roundw
              case rel =>
                have ok2 := HLQ.out.st.dg.ok
                have e1 : dv N2 al = dv N' al := funext fun m => HLE.out.dv HLY0'.out HL2.out m
                have e2 : dv N3 k3 = fun m => imgsB t.ops (dv N' ly) m && !dv N' al m := funext fun m => by
                  rw [HP3.out.val, HVX.out, List.take_of_length_le (Nat.le_refl _), e1]
                have e3 : dv N4 k3 = dv N3 k3 := funext fun m => HP4.out.le.dv HL8.out.st.dg.ok HP3.out.lt m
                have e4 : dv N3 al = dv N' al := by rw [← e1]; exact funext fun m => HP3.out.le.dv ok2 HAL2.out m
                have e5 : dv N4 k4 = fun m => dv N' al m || dv N3 k3 m := funext fun m => by rw [HP4.out.val, e4]
                have hlay : LayIs L (wordsOf t.ops) (wd t.init) (dv N3 k3) (n + 1) := by
                  rw [e2]
                  exact LayIs.next hL24 (fun o ho => by have := OK.out.ops o ho; rw [hL] at this; exact this) HLT2.out HLA.out HAL.out
                refine ⟨n + 1, k3, k4, out ++ [(sl : Int)], N4, G4, rfl, rfl, HL9.out, by rw [List.length_append, HN.out]; rfl, HCS.out, by rw [e3]; exact hlay, by rw [e5]; exact HAL.out.next hlay, by have := HP4.out.le.len; have := HP3.out.lt; omega, HP4.out.lt, ?_, HSZ9.out⟩
                have h1 := HP3.out.cnt; have h2 := opC_le nx; have h3 := HP4.out.cnt; have h4 := lowB_le L (min (lev L N3 al) (lev L N3 k3)); have h5 := HLW.out; have h6 := HLO.out
                omega
              case measure => simp only [slen]; have hno := HN.out; omega

end Go.Proofs.YtjcgkmodmjckjaaGreat

namespace Go.Proofs.YtjcgkmodmjckjaaGreat

theorem run_cut {ops : List Wop} {p : List Nat} {x y : Nat} (h : runOps ops x p = some y) (i : Nat) : ∃ z, runOps ops x (p.take i) = some z ∧ runOps ops z (p.drop i) = some y := by
  rw [← List.take_append_drop i p, runOps_append] at h
  cases hz : runOps ops x (p.take i) with
  | none => rw [hz] at h; cases h
  | some z => rw [hz] at h; exact ⟨z, rfl, h⟩
/-- Every run has one of no greater cost that is no longer than there are states. -/
theorem short_run {ops : List Wop} {L : List Nat} (h0 : ∀ o ∈ ops, 0 ≤ o.cost ∧ o.cost ≤ 100) {x : Nat} (hL : ∀ p y, runOps ops x p = some y → y ∈ L) : ∀ (n : Nat) {p : List Nat} {y : Nat}, p.length ≤ n → runOps ops x p = some y → ∃ q, runOps ops x q = some y ∧ costN ops q ≤ costN ops p ∧ q.length ≤ L.length
  | n, p, y, hn, hr => by
    by_cases hle : p.length ≤ L.length
    · exact ⟨p, hr, Int.le_refl _, hle⟩
    · have hrep : ∃ i j, i < j ∧ j ≤ p.length ∧ runOps ops x (p.take i) = runOps ops x (p.take j) := by
        refine Classical.byContradiction fun hno => hle ?_
        have hnd : ((List.range (p.length + 1)).map fun i => (runOps ops x (p.take i)).getD 0).Nodup := by
          unfold List.Nodup
          rw [List.pairwise_iff_getElem]
          intro i j hi hj hij e
          simp only [List.getElem_map, List.getElem_range] at e
          simp only [List.length_map, List.length_range] at hi hj
          obtain ⟨zi, hzi, _⟩ := run_cut hr i
          obtain ⟨zj, hzj, _⟩ := run_cut hr j
          rw [hzi, hzj] at e
          simp only [Option.getD_some] at e
          exact hno ⟨i, j, hij, by omega, by rw [hzi, hzj, e]⟩
        have := nodup_sub_length hnd (b := L) (fun z hz => by
          obtain ⟨i, _, rfl⟩ := List.mem_map.1 hz
          obtain ⟨zi, hzi, _⟩ := run_cut hr i
          rw [hzi]; exact hL _ _ hzi)
        rw [List.length_map, List.length_range] at this; omega
      obtain ⟨i, j, hij, hj, he⟩ := hrep
      obtain ⟨z, hz1, hz2⟩ := run_cut hr j
      have hrq : runOps ops x (p.take i ++ p.drop j) = some y := by rw [runOps_append, he, hz1]; exact hz2
      have hlen : (p.take i ++ p.drop j).length < p.length := by simp only [List.length_append, List.length_take, List.length_drop]; omega
      have hcost : costN ops (p.take i ++ p.drop j) ≤ costN ops p := by
        have e1 : costN ops p = costN ops (p.take j) + costN ops (p.drop j) := by rw [← costN_append, List.take_append_drop]
        have e2 : p.take j = p.take i ++ (p.take j).drop i := by
          have := List.take_append_drop i (p.take j)
          rw [List.take_take, Nat.min_eq_left (by omega)] at this
          exact this.symm
        have e3 : costN ops (p.take j) = costN ops (p.take i) + costN ops ((p.take j).drop i) := by rw [← costN_append, ← e2]
        have := (costN_bound h0 ((p.take j).drop i)).1
        rw [costN_append]; omega
      cases n with
      | zero => omega
      | succ n =>
        obtain ⟨q, h1, h2, h3⟩ := short_run h0 hL n (by omega) hrq
        exact ⟨q, h1, by omega, h3⟩

theorem wayN_split (ops : List Wop) (p : List Nat) : wayN 4096 1 ops p = 4096 * costN ops p + (p.length : Int) := by unfold wayN; omega

end Go.Proofs.YtjcgkmodmjckjaaGreat

namespace Go.Proofs.YtjcgkmodmjckjaaGreat

/-- n is the least price of a run to m. -/
def Pd (ops : List Wop) (s m n : Nat) : Prop := (∃ q, runOps ops s q = some m ∧ wayN 4096 1 ops q = (n : Int)) ∧ ∀ q, runOps ops s q = some m → (n : Int) ≤ wayN 4096 1 ops q
def CostsOk (ops : List Wop) : Prop := ∀ o ∈ ops, 0 ≤ o.cost ∧ o.cost ≤ 100
/-- The price of an operator. -/
def prcN (o : Wop) : Nat := 4096 * o.cost.toNat + 1
theorem prcN_int {ops : List Wop} (h0 : CostsOk ops) {i : Nat} {o : Wop} (h : ops[i]? = some o) : ((prcN o : Nat) : Int) = 4096 * o.cost + 1 := by
  have := h0 o (List.mem_of_getElem? h)
  unfold prcN; omega
theorem prcN_le {ops : List Wop} (h0 : CostsOk ops) {i : Nat} {o : Wop} (h : ops[i]? = some o) : 1 ≤ prcN o ∧ prcN o ≤ 409601 := by
  have := h0 o (List.mem_of_getElem? h)
  unfold prcN; omega
section
variable {ops : List Wop} {s : Nat}
theorem way_low (h0 : CostsOk ops) (q : List Nat) : 0 ≤ wayN 4096 1 ops q := wayN_low (by decide) (by decide) h0 q
theorem way_snoc {h0 : CostsOk ops} {q : List Nat} {i : Nat} {o : Wop} (h : ops[i]? = some o) : wayN 4096 1 ops (q ++ [i]) = wayN 4096 1 ops q + (prcN o : Int) := by
  rw [wayN_append, wayN_one h, prcN_int h0 h]
theorem way_cons {h0 : CostsOk ops} {q : List Nat} {i : Nat} {o : Wop} (h : ops[i]? = some o) : wayN 4096 1 ops (i :: q) = (prcN o : Int) + wayN 4096 1 ops q := by
  rw [show i :: q = [i] ++ q from rfl, wayN_append, wayN_one h, prcN_int h0 h]
theorem Pd.zero (h0 : CostsOk ops) : Pd ops s s 0 := ⟨⟨[], rfl, wayN_nil _ _ _⟩, fun q _ => way_low h0 q⟩
theorem Pd.start (h0 : CostsOk ops) {m : Nat} (h : Pd ops s m 0) : m = s := by
  obtain ⟨⟨q, h1, h2⟩, _⟩ := h
  have h3 := wayN_split ops q
  have h4 := (costN_bound h0 q).1
  have : q = [] := List.length_eq_zero_iff.1 (by omega)
  subst this
  exact (Option.some.inj h1).symm
theorem Pd.unique {m a b : Nat} (h : Pd ops s m a) (g : Pd ops s m b) : a = b := by
  obtain ⟨⟨p, h1, h2⟩, h3⟩ := h
  obtain ⟨⟨q, g1, g2⟩, g3⟩ := g
  have := h3 q g1; have := g3 p h1; omega
theorem Pd.least (h0 : CostsOk ops) {m : Nat} : ∀ (n : Nat) (q : List Nat), wayN 4096 1 ops q ≤ (n : Int) → runOps ops s q = some m → ∃ k : Nat, (k : Int) ≤ wayN 4096 1 ops q ∧ Pd ops s m k := by
  intro n
  induction n with
  | zero =>
    intro q hq h
    have h1 := way_low h0 q
    exact ⟨0, by omega, ⟨q, h, by omega⟩, fun p _ => way_low h0 p⟩
  | succ n ih =>
    intro q hq h
    have h1 := way_low h0 q
    by_cases hm : ∃ p, runOps ops s p = Option.some m ∧ wayN 4096 1 ops p < wayN 4096 1 ops q
    · obtain ⟨p, h2, h3⟩ := hm
      obtain ⟨k, h4, h5⟩ := ih p (by omega) h2
      exact ⟨k, by omega, h5⟩
    · exact ⟨(wayN 4096 1 ops q).toNat, by omega, ⟨q, h, by omega⟩, fun p hp => by
        have := Int.not_lt.1 (fun hlt => hm ⟨p, hp, hlt⟩)
        omega⟩
theorem Pd.of_run (h0 : CostsOk ops) {m : Nat} {q : List Nat} (h : runOps ops s q = some m) : ∃ k : Nat, (k : Int) ≤ wayN 4096 1 ops q ∧ Pd ops s m k := by
  have h1 := way_low h0 q
  exact Pd.least h0 (wayN 4096 1 ops q).toNat q (by omega) h
theorem Pd.prev (h0 : CostsOk ops) {m n : Nat} (h : Pd ops s m n) (hn : n ≠ 0) : ∃ (x i p : Nat) (op : Wop), Pd ops s x p ∧ ops[i]? = some op ∧ op.can x = true ∧ op.next x = m ∧ n = p + prcN op := by
  obtain ⟨⟨q, h1, h2⟩, h3⟩ := h
  have hne : q ≠ [] := fun e => by rw [e, wayN_nil] at h2; omega
  obtain ⟨p, o, rfl⟩ : ∃ p o, q = p ++ [o] := ⟨q.dropLast, q.getLast hne, (List.dropLast_concat_getLast hne).symm⟩
  obtain ⟨y, op, g1, g2, g3, g4⟩ := runOps_snoc h1
  rw [way_snoc (h0 := h0) g2] at h2
  have h4 := way_low h0 p
  refine ⟨y, o, (wayN 4096 1 ops p).toNat, op, ⟨⟨p, g1, by omega⟩, fun r hr => ?_⟩, g2, g3, g4.symm, by omega⟩
  have h5 := h3 (r ++ [o]) (by rw [g4]; exact runOps_snoc' hr g2 g3)
  rw [way_snoc (h0 := h0) g2] at h5
  omega
/-- A cheapest run is short. -/
theorem Pd.short (h0 : CostsOk ops) {l : List Nat} (hl : ∀ q y, runOps ops s q = some y → y ∈ l) (hfew : l.length ≤ 2000) {m n : Nat} (h : Pd ops s m n) {q : List Nat} (hr : runOps ops s q = some m) (hq : wayN 4096 1 ops q = (n : Int)) : q.length ≤ 2000 := by
  obtain ⟨q', h1, h2, h3⟩ := short_run h0 hl q.length (Nat.le_refl _) hr
  have h4 := h.2 q' h1
  have h5 := wayN_split ops q
  have h6 := wayN_split ops q'
  omega
theorem Pd.bound (h0 : CostsOk ops) {l : List Nat} (hl : ∀ q y, runOps ops s q = some y → y ∈ l) (hfew : l.length ≤ 2000) {m n : Nat} (h : Pd ops s m n) : n ≤ 819202000 := by
  obtain ⟨q, h1, h2⟩ := id h.1
  have h3 := h.short h0 hl hfew h1 h2
  have h4 := wayN_split ops q
  have h5 := costN_bound h0 q
  omega
theorem Pd.list {l : List Nat} (hd : l.Nodup) (hl : ∀ q y, runOps ops s q = Option.some y → y ∈ l) (P : Nat → Prop) : ∃ S : List Nat, S.Nodup ∧ ∀ x, x ∈ S ↔ ∃ n, P n ∧ Pd ops s x n := by
  refine ⟨l.filter fun x => @decide (∃ n, P n ∧ Pd ops s x n) (Classical.propDecidable _), hd.filter _, fun x => ?_⟩
  rw [List.mem_filter]
  constructor
  · rintro ⟨_, h⟩; exact @of_decide_eq_true _ (Classical.propDecidable _) h
  · intro h
    obtain ⟨_, _, ⟨q, g1, _⟩, _⟩ := id h
    exact ⟨hl q x g1, @decide_eq_true _ (Classical.propDecidable _) h⟩
end

/-- What before says. -/
theorem before_iff {o : Opr} {L : Nat} (hL : L ≤ 24) (ho : o.Ok (L : Int)) {f : Nat → Bool} {x : Nat} (hx : x < 2 ^ L) : litS true o.pre (exsT (o.add ++ o.del) (litS false o.del (litS true o.add f))) x = true ↔ o.word.can x = true ∧ f (o.word.next x) = true := by
  have ha := (isSet_iff.1 ho.add).1
  have hd := (isSet_iff.1 ho.del).1
  have hdj := disj_iff.1 ho.disj
  have hpow : ∀ {y : Nat}, y < 2 ^ L → ∀ i, L ≤ i → y.testBit i = false := fun {y} hy i hi => Nat.testBit_lt_two_pow (Nat.lt_of_lt_of_le hy (Nat.pow_le_pow_right (by omega) hi))
  rw [litS_iff, exsT_iff, ← symCan ho x]
  constructor
  · rintro ⟨⟨y, hy, hag⟩, hc⟩
    rw [litS_iff, litS_iff] at hy
    obtain ⟨⟨h1, h2⟩, h3⟩ := hy
    refine ⟨hc, ?_⟩
    have e : y = o.word.next x := by
      apply Nat.eq_of_testBit_eq
      intro i
      by_cases hi : i < 32
      · rw [symNext ho x hi]
        by_cases q1 : (i : Int) ∈ o.add
        · have := h2 _ q1
          simp at this
          simp [q1, this]
        · by_cases q2 : (i : Int) ∈ o.del
          · have := h3 _ q2
            simp at this
            simp [q1, q2, this]
          · rw [hag i (fun p hp e => by
              rcases List.mem_append.1 hp with h | h
              · have := (ha p h).1; exact q1 (by rw [e, show ((p.toNat : Nat) : Int) = p from by omega]; exact h)
              · have := (hd p h).1; exact q2 (by rw [e, show ((p.toNat : Nat) : Int) = p from by omega]; exact h))]
            simp [q1, q2]
      · rw [hpow (symNextLt ho hx) i (by omega), hag i (fun p hp e => by
          rcases List.mem_append.1 hp with h | h
          · have := ha p h; omega
          · have := hd p h; omega), hpow hx i (by omega)]
    rw [← e]; exact h1
  · rintro ⟨hc, hf⟩
    refine ⟨⟨o.word.next x, ?_, fun i hi => ?_⟩, hc⟩
    · rw [litS_iff, litS_iff]
      refine ⟨⟨hf, fun p hp => ?_⟩, fun p hp => ?_⟩
      · have hb := ha p hp
        rw [symNext ho x (by omega), show ((p.toNat : Nat) : Int) = p from by omega]
        simp [hp]
      · have hb := hd p hp
        have hna : p ∉ o.add := fun h => hdj p h hp
        rw [symNext ho x (by omega), show ((p.toNat : Nat) : Int) = p from by omega]
        simp [hp, hna]
    · by_cases h32 : i < 32
      · rw [symNext ho x h32]
        have h1 : (i : Int) ∉ o.add := fun h => hi _ (List.mem_append.2 (.inl h)) (by omega)
        have h2 : (i : Int) ∉ o.del := fun h => hi _ (List.mem_append.2 (.inr h)) (by omega)
        simp [h1, h2]
      · rw [hpow (symNextLt ho hx) i (by omega), hpow hx i (by omega)]

/-- What the search knows between its steps: pr p, that the price p has been worked on; ds p its states; c those of all such prices; ws p what waits at p; A the queue. ob p i: the operator i has been applied to p's states. -/
structure PlI (L : Nat) (ops : List Wop) (s : Nat) (pr : Nat → Prop) (ob : Nat → Nat → Prop) (ds ws : Nat → Nat → Bool) (c : Nat → Bool) (A : List (Int × Int)) : Prop where
  it : ∀ a ∈ A, a.1 = a.2 ∧ 0 ≤ a.1
  lt : ∀ p, pr p → ∀ a ∈ A, (p : Int) < a.1
  dn : ∀ p m, pr p → m < 2 ^ L → (ds p m = true ↔ Pd ops s m p)
  cl : ∀ m, m < 2 ^ L → (c m = true ↔ ∃ p, pr p ∧ Pd ops s m p)
  re : ∀ p m, m < 2 ^ L → ws p m = true → ∃ q, runOps ops s q = some m ∧ wayN 4096 1 ops q = (p : Int)
  z : pr 0 ∨ ((0 : Int), (0 : Int)) ∈ A
  ws0 : ws 0 s = true
  ex : ∀ p x i op, pr p → Pd ops s x p → ops[i]? = some op → op.can x = true → ob p i → ws (p + prcN op) (op.next x) = true ∧ (pr (p + prcN op) ∨ (((p + prcN op : Nat) : Int), ((p + prcN op : Nat) : Int)) ∈ A)
section
variable {L : Nat} {ops : List Wop} {s : Nat} {pr : Nat → Prop} {ob : Nat → Nat → Prop} {ds ws : Nat → Nat → Bool} {c : Nat → Bool} {A : List (Int × Int)}
theorem PlI.below (h0 : CostsOk ops) (h : PlI L ops s pr (fun _ _ => True) ds ws c A) : ∀ (p : Nat) {x : Nat}, Pd ops s x p → ¬ pr p → ∃ a ∈ A, a.1 ≤ (p : Int) := by
  intro p
  induction p using Nat.strongRecOn with
  | _ p ih =>
    intro x hx hp
    by_cases hz : p = 0
    · subst hz
      rcases h.z with h1 | h1
      · exact absurd h1 hp
      · exact ⟨_, h1, by simp⟩
    · obtain ⟨y, i, k, op, hy, hi, hc, he, hpk⟩ := hx.prev h0 hz
      have hb := (prcN_le h0 hi).1
      by_cases hk : pr k
      · obtain ⟨_, h2⟩ := h.ex k y i op hk hy hi hc trivial
        rw [← hpk] at h2
        rcases h2 with h2 | h2
        · exact absurd h2 hp
        · exact ⟨_, h2, Int.le_refl _⟩
      · obtain ⟨a, h1, h2⟩ := ih k (by omega) hy hk
        exact ⟨a, h1, by omega⟩
/-- The states of the least price that waits. -/
theorem PlI.layer (h0 : CostsOk ops) (h : PlI L ops s pr (fun _ _ => True) ds ws c A) {p : Nat} (hm : ∀ a ∈ A, (p : Int) ≤ a.1) (hp : ∃ a ∈ A, a.1 = (p : Int)) :
    (∀ m, m < 2 ^ L → ((ws p m && !c m) = true ↔ Pd ops s m p)) ∧ (∀ k x, Pd ops s x k → k < p → pr k) ∧ ¬ pr p ∧ ∀ k, pr k → k < p := by
  have hlow : ∀ k x, Pd ops s x k → k < p → pr k := fun k x hx hk => Classical.byContradiction fun hn => by
    obtain ⟨a, h1, h2⟩ := h.below h0 k hx hn
    have := hm a h1; omega
  obtain ⟨a, ha, hap⟩ := hp
  have hnp : ¬ pr p := fun hpp => by have := h.lt p hpp a ha; omega
  refine ⟨fun m hm => ?_, hlow, hnp, fun k hk => by have := h.lt k hk a ha; omega⟩
  rw [Bool.and_eq_true]
  constructor
  · rintro ⟨h1, h2⟩
    obtain ⟨q, h3, h4⟩ := h.re p m hm h1
    obtain ⟨k, h5, h6⟩ := Pd.of_run h0 h3
    by_cases hk : k < p
    · have h7 := (h.cl m hm).2 ⟨k, hlow k m h6 hk, h6⟩
      rw [h7] at h2; cases h2
    · have : k = p := by omega
      rw [← this]; exact h6
  · intro hx
    refine ⟨?_, ?_⟩
    · by_cases hz : p = 0
      · subst hz
        rw [hx.start h0]; exact h.ws0
      · obtain ⟨y, i, k, op, hy, hi, hc, he, hpk⟩ := hx.prev h0 hz
        have hb := (prcN_le h0 hi).1
        have h1 := (h.ex k y i op (hlow k y hy (by omega)) hy hi hc trivial).1
        rw [← hpk, he] at h1; exact h1
    · cases hcm : c m with
      | false => rfl
      | true =>
        obtain ⟨k, h1, h2⟩ := (h.cl m hm).1 hcm
        have := h2.unique hx
        subst this
        exact absurd h1 hnp
/-- The price p has been taken out. -/
theorem PlI.take (h : PlI L ops s pr (fun _ _ => True) ds ws c A) {p : Nat} {ds' : Nat → Nat → Bool} {c' : Nat → Bool} {pr' : Nat → Prop} (hm : ∀ a ∈ A, (p : Int) ≤ a.1)
    (hpr : ∀ k, pr' k ↔ pr k ∨ k = p) (hd1 : ∀ k, k ≠ p → ds' k = ds k) (hd2 : ∀ m, m < 2 ^ L → (ds' p m = true ↔ Pd ops s m p)) (hc : ∀ m, m < 2 ^ L → (c' m = true ↔ c m = true ∨ ds' p m = true)) :
    PlI L ops s pr' (fun k i => k = p → i < 0) ds' ws c' (A.filter fun a => a.1 != (p : Int)) := by
  have hin : ∀ a, a ∈ A.filter (fun a => a.1 != (p : Int)) ↔ a ∈ A ∧ a.1 ≠ (p : Int) := fun a => by rw [List.mem_filter]; simp
  refine ⟨fun a ha => h.it a ((hin a).1 ha).1, fun k hk a ha => ?_, fun k m hk hml => ?_, fun m hml => ?_, h.re, ?_, h.ws0, fun k x i op hk hx hi hcn hob => ?_⟩
  · obtain ⟨h1, h2⟩ := (hin a).1 ha
    rcases (hpr k).1 hk with h3 | rfl
    · exact h.lt k h3 a h1
    · have := hm a h1; omega
  · by_cases hkp : k = p
    · subst hkp; exact hd2 m hml
    · rw [hd1 k hkp]
      exact h.dn k m (((hpr k).1 hk).resolve_right hkp) hml
  · rw [hc m hml, h.cl m hml, hd2 m hml]
    constructor
    · rintro (⟨k, h1, h2⟩ | h1)
      · exact ⟨k, (hpr k).2 (.inl h1), h2⟩
      · exact ⟨p, (hpr p).2 (.inr rfl), h1⟩
    · rintro ⟨k, h1, h2⟩
      rcases (hpr k).1 h1 with h3 | rfl
      · exact .inl ⟨k, h3, h2⟩
      · exact .inr h2
  · rcases h.z with h1 | h1
    · exact .inl ((hpr 0).2 (.inl h1))
    · by_cases hp0 : p = 0
      · exact .inl ((hpr 0).2 (.inr hp0.symm))
      · exact .inr ((hin _).2 ⟨h1, by simp; omega⟩)
  · have hkp : k ≠ p := fun e => by have := hob e; omega
    obtain ⟨h1, h2⟩ := h.ex k x i op (((hpr k).1 hk).resolve_right hkp) hx hi hcn trivial
    refine ⟨h1, ?_⟩
    rcases h2 with h2 | h2
    · exact .inl ((hpr _).2 (.inl h2))
    · by_cases he : k + prcN op = p
      · exact .inl ((hpr _).2 (.inr he))
      · exact .inr ((hin _).2 ⟨h2, by simp only; omega⟩)
/-- An operator that leads nowhere from the price p. -/
theorem PlI.dead {p j : Nat} {o : Wop} (h : PlI L ops s pr (fun k i => k = p → i < j) ds ws c A) (hj : ops[j]? = some o) (hd : ∀ x, Pd ops s x p → o.can x = true → False) : PlI L ops s pr (fun k i => k = p → i < j + 1) ds ws c A := by
  refine ⟨h.it, h.lt, h.dn, h.cl, h.re, h.z, h.ws0, fun k x i op hk hx hi hcn hob => ?_⟩
  by_cases hij : k = p ∧ i = j
  · obtain ⟨rfl, rfl⟩ := hij
    rw [hj] at hi; cases hi
    exact (hd x hx hcn).elim
  · exact h.ex k x i op hk hx hi hcn (fun e => by have := hob e; have : i ≠ j := fun e2 => hij ⟨e, e2⟩; omega)
/-- An operator that leads somewhere. -/
theorem PlI.grow (h0 : CostsOk ops) (hst : ∀ q y, runOps ops s q = some y → y < 2 ^ L) {p j : Nat} {o : Wop} (h : PlI L ops s pr (fun k i => k = p → i < j) ds ws c A) (hj : ops[j]? = some o) {ws' : Nat → Nat → Bool} {A' : List (Int × Int)} (hp : pr p) (hmx : ∀ k, pr k → k ≤ p)
    (hw1 : ∀ k, k ≠ p + prcN o → ws' k = ws k) (hw2 : ∀ m, m < 2 ^ L → (ws' (p + prcN o) m = true ↔ ws (p + prcN o) m = true ∨ ∃ x, x < 2 ^ L ∧ ds p x = true ∧ o.can x = true ∧ o.next x = m))
    (hA1 : (((p + prcN o : Nat) : Int), ((p + prcN o : Nat) : Int)) ∈ A') (hA2 : ∀ a ∈ A, a ∈ A') (hA3 : ∀ a ∈ A', a ∈ A ∨ a = (((p + prcN o : Nat) : Int), ((p + prcN o : Nat) : Int))) : PlI L ops s pr (fun k i => k = p → i < j + 1) ds ws' c A' := by
  have hb := (prcN_le h0 hj).1
  have hup : ∀ k m, m < 2 ^ L → ws k m = true → ws' k m = true := fun k m hm hk => by
    by_cases e : k = p + prcN o
    · subst e; exact (hw2 m hm).2 (.inl hk)
    · rw [hw1 k e]; exact hk
  refine ⟨fun a ha => ?_, fun k hk a ha => ?_, h.dn, h.cl, fun k m hm hw => ?_, h.z.imp (fun h => h) (hA2 _), ?_, fun k x i op hk hx hi hcn hob => ?_⟩
  · rcases hA3 a ha with h1 | rfl
    · exact h.it a h1
    · exact ⟨rfl, by simp only; omega⟩
  · rcases hA3 a ha with h1 | rfl
    · exact h.lt k hk a h1
    · have := hmx k hk; simp only; omega
  · by_cases e : k = p + prcN o
    · subst e
      rcases (hw2 m hm).1 hw with h1 | ⟨x, hx, h1, h2, h3⟩
      · exact h.re _ m hm h1
      · obtain ⟨⟨q, g1, g2⟩, _⟩ := (h.dn p x hp hx).1 h1
        refine ⟨q ++ [j], by rw [← h3]; exact runOps_snoc' g1 hj h2, ?_⟩
        rw [way_snoc (h0 := h0) hj, g2]; omega
    · rw [hw1 k e] at hw; exact h.re k m hm hw
  · exact hup 0 s (hst [] s rfl) h.ws0
  · obtain ⟨⟨q, g1, g2⟩, _⟩ := id hx
    have hxl := hst q x g1
    have hnl := hst (q ++ [i]) _ (runOps_snoc' g1 hi hcn)
    by_cases hij : k = p ∧ i = j
    · obtain ⟨rfl, rfl⟩ := hij
      rw [hj] at hi; cases hi
      exact ⟨(hw2 _ hnl).2 (.inr ⟨x, hxl, (h.dn k x hk hxl).2 hx, hcn, rfl⟩), .inr hA1⟩
    · obtain ⟨h1, h2⟩ := h.ex k x i op hk hx hi hcn (fun e => by have := hob e; have : i ≠ j := fun e2 => hij ⟨e, e2⟩; omega)
      exact ⟨hup _ _ hnl h1, h2.imp (fun h => h) (hA2 _)⟩
/-- All operators have been applied. -/
theorem PlI.done {p : Nat} (h : PlI L ops s pr (fun k i => k = p → i < ops.length) ds ws c A) : PlI L ops s pr (fun _ _ => True) ds ws c A :=
  { h with ex := fun k x i op hk hx hi hcn _ => h.ex k x i op hk hx hi hcn (fun _ => (List.getElem?_eq_some_iff.1 hi).1) }
theorem PlI.empty (h0 : CostsOk ops) (h : PlI L ops s pr (fun _ _ => True) ds ws c []) {x p : Nat} (hx : Pd ops s x p) : pr p := Classical.byContradiction fun hn => by
  obtain ⟨a, h1, _⟩ := h.below h0 p hx hn
  cases h1
theorem PlI.start (hs : ∀ m, m < 2 ^ L → (ws 0 m = true ↔ m = s)) (hsl : s < 2 ^ L) (hw : ∀ p, p ≠ 0 → ∀ m, ws p m = false) (hc : ∀ m, c m = false) (hpr : ∀ p, ¬ pr p) : PlI L ops s pr (fun _ _ => True) ds ws c [(0, 0)] := by
  refine ⟨fun a ha => ?_, fun p hp => absurd hp (hpr p), fun p m hp => absurd hp (hpr p), fun m hm => ?_, fun p m hm hp => ?_, .inr (by simp), (hs s hsl).2 rfl, fun p _ _ _ hp => absurd hp (hpr p)⟩
  · rcases List.mem_singleton.1 ha with rfl; exact ⟨rfl, Int.le_refl _⟩
  · rw [hc m]
    exact ⟨fun h => Bool.noConfusion h, fun ⟨p, hp, _⟩ => absurd hp (hpr p)⟩
  · by_cases h : p = 0
    · subst h
      rw [(hs m hm).1 hp]
      exact ⟨[], rfl, wayN_nil _ _ _⟩
    · rw [hw p h m] at hp; cases hp
end

/-- trace, between its steps: from all states of f, of the price p, the steps of out lead back to T. -/
structure TrI (L : Nat) (ops : List Wop) (s : Nat) (T : Nat → Bool) (p0 : Nat) (f : Nat → Bool) (p : Nat) (out : List Nat) : Prop where
  some_ : ∃ m, m < 2 ^ L ∧ f m = true
  pd : ∀ m, m < 2 ^ L → f m = true → Pd ops s m p
  run : ∀ m, m < 2 ^ L → f m = true → ∃ y, y < 2 ^ L ∧ T y = true ∧ runOps ops m out.reverse = some y
  sum : wayN 4096 1 ops out.reverse + (p : Int) = (p0 : Int)
section
variable {L : Nat} {ops : List Wop} {s : Nat} {T f : Nat → Bool} {p0 p : Nat} {out : List Nat}
theorem TrI.start (h : ∃ m, m < 2 ^ L ∧ T m = true) (hT : ∀ m, m < 2 ^ L → T m = true → Pd ops s m p0) : TrI L ops s T p0 T p0 [] :=
  ⟨h, hT, fun m hm hf => ⟨m, hm, hf, rfl⟩, by rw [List.reverse_nil, wayN_nil]; omega⟩
theorem TrI.few (h0 : CostsOk ops) {l : List Nat} (hl : ∀ q y, runOps ops s q = some y → y ∈ l) (hfew : l.length ≤ 2000) (hT : ∀ m, m < 2 ^ L → T m = true → Pd ops s m p0) (h : TrI L ops s T p0 f p out) : out.length ≤ 2000 ∧ (p ≠ 0 → out.length < 2000) := by
  obtain ⟨m, hm, hf⟩ := h.some_
  obtain ⟨⟨q, h1, h2⟩, _⟩ := h.pd m hm hf
  obtain ⟨y, hy, hTy, hr⟩ := h.run m hm hf
  have h3 : runOps ops s (q ++ out.reverse) = some y := by rw [runOps_append, h1]; exact hr
  have h4 := (hT y hy hTy).short h0 hl hfew h3 (by rw [wayN_append, h2]; have := h.sum; omega)
  rw [List.length_append, List.length_reverse] at h4
  refine ⟨by omega, fun hp => ?_⟩
  have : q ≠ [] := fun e => by rw [e, wayN_nil] at h2; omega
  have := List.length_pos_iff.2 this
  omega
theorem TrI.next (h0 : CostsOk ops) {m i p' : Nat} {o : Wop} {f' : Nat → Bool} (h : TrI L ops s T p0 f p out) (hm : m < 2 ^ L) (hf : f m = true) (hi : ops[i]? = some o) (hp : p = p' + prcN o) (hs : ∃ z, z < 2 ^ L ∧ f' z = true) (hf' : ∀ z, z < 2 ^ L → f' z = true → o.can z = true ∧ o.next z = m ∧ Pd ops s z p') : TrI L ops s T p0 f' p' (out ++ [i]) := by
  refine ⟨hs, fun z hz h1 => (hf' z hz h1).2.2, fun z hz h1 => ?_, ?_⟩
  · obtain ⟨h2, h3, _⟩ := hf' z hz h1
    obtain ⟨y, hy, hTy, hr⟩ := h.run m hm hf
    refine ⟨y, hy, hTy, ?_⟩
    rw [List.reverse_append, List.reverse_singleton, List.singleton_append, runOps, hi]
    simp only [h2, if_true]
    rw [h3]; exact hr
  · rw [List.reverse_append, List.reverse_singleton, List.singleton_append, way_cons (h0 := h0) hi]
    have := h.sum; omega
theorem TrI.last (h0 : CostsOk ops) (h : TrI L ops s T p0 f 0 out) : ∃ y, y < 2 ^ L ∧ T y = true ∧ runOps ops s out.reverse = some y ∧ wayN 4096 1 ops out.reverse = (p0 : Int) := by
  obtain ⟨m, hm, hf⟩ := h.some_
  obtain ⟨y, hy, hTy, hr⟩ := h.run m hm hf
  rw [(h.pd m hm hf).start h0] at hr
  exact ⟨y, hy, hTy, hr, by have := h.sum; omega⟩
end

end Go.Proofs.YtjcgkmodmjckjaaGreat

namespace Go.Proofs.YtjcgkmodmjckjaaGreat

theorem dv_none {L : Nat} {N : List Dn} (ok : DgOk L N) : ∀ (k : Nat), k < N.length + 2 → k ≠ 1 → ∃ m, (∀ j, j < lev L N k → m.testBit j = false) ∧ dv N k m = false := by
  intro k
  induction k using Nat.strongRecOn with
  | _ k ih =>
    intro hk h0
    by_cases h2 : k < 2
    · have : k = 0 := by omega
      subst this
      exact ⟨0, fun j _ => Nat.zero_testBit j, dv_zero 0⟩
    · obtain ⟨i, rfl⟩ : ∃ i, k = i + 2 := ⟨k - 2, by omega⟩
      obtain ⟨n, hn⟩ : ∃ n, N[i]? = some n := ⟨N[i]'(by omega), List.getElem?_eq_getElem (by omega)⟩
      have a1 := ok.lo _ _ hn; have a2 := ok.hi _ _ hn; have a3 := ok.llo _ _ hn; have a4 := ok.lhi _ _ hn; have a5 := ok.ne _ _ hn
      rw [lev_node hn]
      by_cases hl : n.lo = 1
      · obtain ⟨m, g2, g3⟩ := ih n.hi (by omega) (by omega) (by omega)
        have e : (m ||| 2 ^ n.lv).testBit n.lv = true := by simp
        refine ⟨m ||| 2 ^ n.lv, fun j hj => ?_, ?_⟩
        · rw [Nat.testBit_or, g2 j (by omega), Nat.testBit_two_pow_of_ne (by omega)]; rfl
        · rw [dv_node ok hn, e]
          simp only [if_true]
          rw [← g3]
          refine dv_indep ok n.hi (by omega) (fun j h1 _ => ?_)
          rw [Nat.testBit_or, Nat.testBit_two_pow_of_ne (by omega), Bool.or_false]
      · obtain ⟨m, g2, g3⟩ := ih n.lo (by omega) (by omega) hl
        refine ⟨m, fun j hj => g2 j (by omega), ?_⟩
        rw [dv_node ok hn, g2 n.lv a3]
        exact g3

/-- A node that says the same of all sets is one of the first two. -/
theorem dv_const {L : Nat} {N : List Dn} (ok : DgOk L N) {k : Nat} (hk : k < N.length + 2) {v : Bool} (h : ∀ m, dv N k m = v) : k < 2 := by
  by_cases h0 : k = 0
  · omega
  · by_cases h1 : k = 1
    · omega
    · obtain ⟨m, _, _, g⟩ := dv_some ok k hk h0
      obtain ⟨m', _, g'⟩ := dv_none ok k hk h1
      rw [h] at g g'
      rw [g] at g'; cases g'

theorem lit_node {L : Nat} {N : List Dn} (ok : DgOk L N) {k p : Nat} {pos : Bool} (hk : k < N.length + 2) (hl : p ≤ lev L N k) (h : ∀ m, dv N k m = (m.testBit p == pos)) : LitN N p k := by
  by_cases h2 : k < 2
  · exact .inl h2
  · obtain ⟨i, rfl⟩ : ∃ i, k = i + 2 := ⟨k - 2, by omega⟩
    obtain ⟨n, hn⟩ : ∃ n, N[i]? = some n := ⟨N[i]'(by omega), List.getElem?_eq_getElem (by omega)⟩
    have a1 := ok.lo _ _ hn; have a2 := ok.hi _ _ hn; have a3 := ok.llo _ _ hn; have a4 := ok.lhi _ _ hn
    rw [lev_node hn] at hl
    have e1 : n.lv = p := by
      refine Nat.le_antisymm (Nat.le_of_not_lt fun hlt => ?_) hl
      have h3 := dv_indep ok (i + 2) hk (m := 2 ^ p) (m' := 0) (fun j h4 _ => by
        rw [lev_node hn] at h4
        rw [Nat.testBit_two_pow_of_ne (by omega), Nat.zero_testBit])
      rw [h, h, Nat.zero_testBit, Nat.testBit_two_pow_self] at h3
      cases pos <;> simp at h3
    refine .inr ⟨n, by rw [Nat.add_sub_cancel]; exact hn, e1, ?_, ?_⟩
    · refine dv_const ok (k := n.lo) (v := (false == pos)) (by omega) fun m => ?_
      have h4 : ∀ j, (m >>> (p + 1) <<< (p + 1)).testBit j = (decide (p + 1 ≤ j) && m.testBit j) := fun j => by
        rw [Nat.testBit_shiftLeft, Nat.testBit_shiftRight]
        by_cases hj : p + 1 ≤ j
        · rw [show p + 1 + (j - (p + 1)) = j from by omega]
        · simp [hj]
      have h5 := h (m >>> (p + 1) <<< (p + 1))
      rw [dv_node ok hn, e1, h4 p] at h5
      simp only [show ¬ (p + 1 ≤ p) from by omega, decide_false, Bool.false_and, Bool.false_eq_true, if_false] at h5
      rw [← h5]
      exact dv_indep ok n.lo (by omega) fun j hj _ => by rw [h4]; simp [show p + 1 ≤ j from by omega]
    · refine dv_const ok (k := n.hi) (v := (true == pos)) (by omega) fun m => ?_
      have h5 := h (m ||| 2 ^ p)
      rw [dv_node ok hn, e1, show (m ||| 2 ^ p).testBit p = true from by simp] at h5
      simp only [if_true] at h5
      rw [← h5]
      exact dv_indep ok n.hi (by omega) fun j hj _ => by rw [Nat.testBit_or, Nat.testBit_two_pow_of_ne (by omega), Bool.or_false]

/-- What And with the literal of p costs, the literal's node with it. -/
def litK (p : Int) : Nat := if p < 16 then 65536 else 524288
theorem litB_litK {L x : Nat} : litB L x 0 + 1 ≤ litK (x : Int) := by
  unfold litB litK
  split
  · have := Nat.pow_le_pow_right (show 0 < 2 from by omega) (show min (min L 19) (x + 1) - 0 ≤ 16 from by omega)
    have := Nat.pow_pos (n := min (min L 19) (x + 1) - 0) (show 0 < 2 from by omega)
    omega
  · have := Nat.pow_le_pow_right (show 0 < 2 from by omega) (show min (min L 19) (x + 1) - 0 ≤ 19 from by omega)
    have := Nat.pow_pos (n := min (min L 19) (x + 1) - 0) (show 0 < 2 from by omega)
    omega
def litC (ps : List Int) : Nat := (ps.map litK).sum
theorem litC_snoc (ps : List Int) (p : Int) : litC (ps ++ [p]) = litC ps + litK p := by unfold litC; simp
theorem litC_take {ps : List Int} {j : Nat} {p : Int} (h : ps[j]? = some p) : litC (ps.take (j + 1)) = litC (ps.take j) + litK p := by rw [take_getS h, litC_snoc]
theorem litC_mono (ps : List Int) (j : Nat) : litC (ps.take j) ≤ litC ps := by
  have : litC ps = litC (ps.take j) + litC (ps.drop j) := by
    unfold litC; rw [← List.sum_append, ← List.map_append, List.take_append_drop]
  omega
theorem litC_split (ps : List Int) : litC ps = ps.length * 65536 + (ps.filter fun p => decide (16 ≤ p)).length * 458752 := by
  induction ps with
  | nil => rfl
  | cons p ps ih =>
    have e : litC (p :: ps) = litK p + litC ps := by unfold litC; simp
    rw [e, ih, List.filter_cons]
    unfold litK
    by_cases h : p < 16
    · rw [if_pos h, if_neg (by simp; omega)]; simp only [List.length_cons]; omega
    · rw [if_neg h, if_pos (by simp; omega)]; simp only [List.length_cons]; omega
theorem litC_le {ps : List Int} {L : Nat} (hd : ps.Nodup) (hr : ∀ p ∈ ps, 0 ≤ p ∧ p < (L : Int)) (hL : L ≤ 24) : litC ps ≤ 5242880 := by
  rw [litC_split]
  have h1 : ps.length ≤ 24 := by
    have := nodup_sub (r := (List.range 24).map fun i : Nat => (i : Int)) hd (fun p hp => by
      obtain ⟨h1, h2⟩ := hr p hp
      exact List.mem_map.2 ⟨p.toNat, List.mem_range.2 (by omega), by omega⟩)
    simpa using this
  have h2 : (ps.filter fun p => decide (16 ≤ p)).length ≤ 8 := by
    have := nodup_sub (r := (List.range 8).map fun i : Nat => ((i : Int) + 16)) (hd.filter (fun p => decide (16 ≤ p))) (fun p hp => by
      rw [List.mem_filter] at hp
      obtain ⟨h1, h2⟩ := hr p hp.1
      have h3 : 16 ≤ p := by simpa using hp.2
      exact List.mem_map.2 ⟨(p - 16).toNat, List.mem_range.2 (by omega), by omega⟩)
    simpa using this
  omega

end Go.Proofs.YtjcgkmodmjckjaaGreat

namespace Go.Proofs.YtjcgkmodmjckjaaGreat
open Go.RowKit


set_option maxRecDepth 100000 in
set_option maxHeartbeats 4000000 in
theorem before_any (w0 w : World) (ss sb L : Nat) (N : List Dn) (G : Nat → Prop) (n : Int) (vi vg vo : Value) (gk : Nat) (a i : Nat) (ops : List Opr) (o : Opr) (h : StS w0 w ss sb L N G n vi vg vo gk) (hL : L ≤ 24) (hop : OpsAt w0 vo ops) (ho : ops[i]? = some o) (hfew : ops.length ≤ 40) (ha : a < N.length + 2) (hrp : ∀ p ∈ o.pre, 0 ≤ p ∧ p < (L : Int)) (hra : ∀ p ∈ o.add, 0 ≤ p ∧ p < (L : Int)) (hrd : ∀ p ∈ o.del, 0 ≤ p ∧ p < (L : Int)) (hlp : o.pre.length ≤ 24) (hla : o.add.length ≤ 24) (hld : o.del.length ≤ 24) (hbig : low N + ((o.add.length + o.del.length) * (1 + opC a) + (o.add.length + o.del.length) * opC a + litC o.pre) + 2 ≤ 5800000000000) :
    Calls Tryz.prog 77 #[.pointer (some ⟨ss, 0, none⟩), .int .i64 (a : Int), .int .i64 (i : Int)] w (StR w0 w ss sb L N G n vi vg vo gk ((o.add.length + o.del.length) * (1 + opC a) + (o.add.length + o.del.length) * opC a + litC o.pre) False (litS true o.pre (exsT (o.add ++ o.del) (litS false o.del (litS true o.add (dv N a)))))) := by
  have hil : i < ops.length := (List.getElem?_eq_some_iff.1 ho).1
  obtain ⟨aw, cw, hvo, hmo⟩ := hop.form
  subst hvo
  obtain ⟨bo, oo, hao, hcell⟩ := hop.cell rfl (by omega)
  cases hao
  obtain ⟨vp, va, vd, p0, p1, p2, p3, i1, i2, i3⟩ := hcell i o ho
  obtain ⟨ap, cp, hvp, mp⟩ := i1.form
  obtain ⟨aa, ca, hva, ma⟩ := i2.form
  obtain ⟨ad, cd, hvd, md⟩ := i3.form
  subst hvp hva hvd
  have HIP := Lib.hid i1; have HIA := Lib.hid i2; have HID := Lib.hid i3
  have HRP := Lib.hid hrp; have HRA := Lib.hid hra; have HRD := Lib.hid hrd; have HLN := Lib.hid (And.intro hlp (And.intro hla hld))
  have hk0 := h.k0
  have r0 := hk0.cell p0 (fun h => h); have r1 := hk0.cell p1 (fun h => h); have r2 := hk0.cell p2 (fun h => h); have r3 := hk0.cell p3 (fun h => h)
  have c4 : w.cell? ⟨ss, 4, none⟩ = some (.slice (some ⟨bo, oo, none⟩) ops.length cw) := (cell_of_blk h.blk).trans rfl
  have l0 := lt_of_heap h.blk
  have KB := (Keeps.refl (fun _ => False) w).alloc (.cells #[.slice ap o.pre.length cp, .slice aa o.add.length ca, .slice ad o.del.length cd, .int .i64 o.cost] 72)
  have HXB := Lib.hid (heap_alloc_new w (.cells #[.slice ap o.pre.length cp, .slice aa o.add.length ca, .slice ad o.del.length cd, .int .i64 o.cost] 72))
  have HBN := Lib.hid (show ¬ G w.heap.size from fun h' => by have := h.dg.bnd _ h'; omega)
  have HPA := Lib.hid (show DgPost L N N a 0 0 (dv N a) from .same h.dg.ok ha (fun _ => rfl) (Nat.zero_le _))
  have HS0 := Lib.hid (h.keeps0 KB); have HKB := Lib.hid (KB.mono (S' := G) (fun _ _ h => h.elim))
  have HBIG := Lib.hid hbig; have HAL := Lib.hid ha
  have j0 : (0 : Int) ≤ (i : Int) := by omega
  have j1 : (i : Int) < (ops.length : Int) := by omega
  clear h hop ho hfew hrp hra hrd hlp hla hld hbig ha KB hcell i1 i2 i3 p0 p1 p2 p3 hk0 hil
  go_enter Tryz.func77, Tryz.ntmps77
  go_upto_region 2 with fail
  generalize (w.alloc (.cells #[.slice ap o.pre.length cp, .slice aa o.add.length ca, .slice ad o.del.length cd, .int .i64 o.cost] 72)) = w1 at HXB HS0 HKB ⊢
  generalize w.heap.size = bx at HBN HXB ⊢
  clear r0 r1 r2 r3 c4 l0
  have KD := (Keeps.refl (fun _ => False) w1).drew
  have HSD := Lib.hid (HS0.out.keeps0 KD); have HXD := Lib.hid (KD.heap HXB.out (fun h => h)); have HKD := Lib.hid (HKB.out.trans (KD.mono (S' := G) (fun _ _ h => h.elim)))
  have HC1 := Lib.hid (set_any w0 w1.drew ss sb L N G n vi vg _ gk a (.slice ap o.pre.length cp) _ _ o.cost o.add o.del HSD.out hL HAL.out HIA.out HID.out HRA.out HRD.out (by have h3 := HBIG.out; omega))
  have dp0 : w1.drew.cell? ⟨bx, 0, none⟩ = some (.slice ap o.pre.length cp) := (cell_of_blk HXD.out).trans rfl; have dp1 : w1.drew.cell? ⟨bx, 1, none⟩ = some (.slice aa o.add.length ca) := (cell_of_blk HXD.out).trans rfl; have dp2 : w1.drew.cell? ⟨bx, 2, none⟩ = some (.slice ad o.del.length cd) := (cell_of_blk HXD.out).trans rfl; have dp3 : w1.drew.cell? ⟨bx, 3, none⟩ = some (.int .i64 o.cost) := (cell_of_blk HXD.out).trans rfl
  clear KD
  go_upto_region 2 with fail
  go_region_held3 (fun w' => w'.cell? ⟨bx, 0, none⟩ = some (.slice ap o.pre.length cp) ∧ w'.cell? ⟨bx, 1, none⟩ = some (.slice aa o.add.length ca) ∧ w'.cell? ⟨bx, 2, none⟩ = some (.slice ad o.del.length cd) ∧ w'.cell? ⟨bx, 3, none⟩ = some (.int .i64 o.cost))
    (go_keep)
    (first
      | (go_at_call 69; refine HC2.out.mono ?_; rintro en w6 ⟨k2, N2, G2, rfl, hp2, hz2, hs2, hk2, hn2⟩; have HP2 := Lib.hid hp2; have HS2 := Lib.hid hs2; have HK2 := Lib.hid hk2; have HN2 := Lib.hid hn2; have HX6 := Lib.hid (hk2.heap HX5.out HBN2.out); have sp0 : w6.cell? ⟨bx, 0, none⟩ = some (.slice ap o.pre.length cp) := (cell_of_blk HX6.out).trans rfl; have sp1 : w6.cell? ⟨bx, 1, none⟩ = some (.slice aa o.add.length ca) := (cell_of_blk HX6.out).trans rfl; have sp2 : w6.cell? ⟨bx, 2, none⟩ = some (.slice ad o.del.length cd) := (cell_of_blk HX6.out).trans rfl; have sp3 : w6.cell? ⟨bx, 3, none⟩ = some (.int .i64 o.cost) := (cell_of_blk HX6.out).trans rfl; clear hp2 hz2 hs2 hk2 hn2)
      | (go_at_call 68; refine HC1.out.mono ?_; rintro en w5 ⟨k1, N1, G1, rfl, hp1, hz1, hs1, hk1, hn1⟩; have HP1 := Lib.hid hp1; have HZ1 := Lib.hid hz1; have HS1 := Lib.hid hs1; have HK1 := Lib.hid hk1; have HN1 := Lib.hid hn1; have HX5 := Lib.hid (hk1.heap HXD.out HBN.out); have HBN2 := Lib.hid (show ¬ G1 bx from fun h => (HN1.out _ h).elim HBN.out (fun h => by have := lt_of_heap HXD.out; omega)); have HM2 := Lib.hid (show (o.add.length + o.del.length) * opC k1 ≤ (o.add.length + o.del.length) * opC a from Nat.mul_le_mul_left _ (opC_mono hz1)); have HC2 := Lib.hid (free_any w0 w5 ss sb L N1 G1 n vi vg _ gk k1 (.slice ap o.pre.length cp) _ _ o.cost o.add o.del hs1 hL hp1.lt HIA.out HID.out HRA.out HRD.out (by have := HLN.out; omega) (by have h3 := HBIG.out; have h4 := hp1.cnt; have h5 := HM2.out; omega)); have tp0 : w5.cell? ⟨bx, 0, none⟩ = some (.slice ap o.pre.length cp) := (cell_of_blk HX5.out).trans rfl; have tp1 : w5.cell? ⟨bx, 1, none⟩ = some (.slice aa o.add.length ca) := (cell_of_blk HX5.out).trans rfl; have tp2 : w5.cell? ⟨bx, 2, none⟩ = some (.slice ad o.del.length cd) := (cell_of_blk HX5.out).trans rfl; have tp3 : w5.cell? ⟨bx, 3, none⟩ = some (.int .i64 o.cost) := (cell_of_blk HX5.out).trans rfl; clear hp1 hz1 hs1 hk1 hn1))
  all_goals
    have HK12 := Lib.hid (HK1.out.trans' HK2.out HN1.out)
    have HN12 := Lib.hid (news HN1.out HN2.out HK1.out.size)
    have e1 : dv N1 k1 = litS false o.del (litS true o.add (dv N a)) := funext fun m => HP1.out.val m
    have HP0 := Lib.hid (show DgPost L N N2 k2 ((o.add.length + o.del.length) * (1 + opC a) + (o.add.length + o.del.length) * opC a) 0 (exsT (o.add ++ o.del) (litS false o.del (litS true o.add (dv N a)))) from (HP1.out.trans HP2.out).weak (by have h2 := HM2.out; omega) (Nat.zero_le _) (fun m => by rw [e1]))
    clear e1 HP1 HP2 HZ1 HS1 HSD HXD HX5 HBN2 HM2 HC1 HC2 HBN dp0 dp1 dp2 dp3 tp0 tp1 tp2 tp3 sp1 sp2 sp3
    have xl := lt_of_heap HX6.out
    go_wp2_with fail
    go_loopw [1, 28] (fun av iv wr => ∃ (j k : Nat) (N' : List Dn) (G' : Nat → Prop), iv = .int .i64 (j : Int) ∧ j ≤ o.pre.length ∧ av = .int .i64 (k : Int) ∧ DgPost L N N' k (((o.add.length + o.del.length) * (1 + opC a) + (o.add.length + o.del.length) * opC a) + litC (o.pre.take j)) 0 (litS true (o.pre.take j) (exsT (o.add ++ o.del) (litS false o.del (litS true o.add (dv N a))))) ∧ StS w0 wr ss sb L N' G' n vi vg (.slice (some ⟨bo, oo, none⟩) ops.length cw) gk ∧ Keeps G w1.drew wr ∧ ∀ q, G' q → G q ∨ w1.drew.heap.size ≤ q) (fun _ iv _ => o.pre.length - (intOf iv).toNat)
    case atStart => exact ⟨0, _, _, _, rfl, Nat.zero_le _, rfl, HP0.out.weak (by omega) (Nat.zero_le _) (fun m => by rw [List.take_zero, litS_nil]), HS2.out, HK12.out, HN12.out⟩
    case round =>
      obtain ⟨j, k, N', G', rfl, hj, rfl, hp, hs, hk, hn⟩ := hrel
      have HP := Lib.hid hp; have HS := Lib.hid hs; have HK := Lib.hid hk; have HN := Lib.hid hn
      clear hp hs hk hn
      by_cases hlt : j < o.pre.length
      · obtain ⟨bb, bo, hao, hcell⟩ := HIP.out.cell rfl (by omega)
        cases hao
        obtain ⟨p, hp⟩ : ∃ p, o.pre[j]? = some p := ⟨_, List.getElem?_eq_getElem hlt⟩
        have hpr := HRP.out p (List.mem_of_getElem? hp)
        obtain ⟨x, rfl⟩ := Int.eq_ofNat_of_zero_le hpr.1
        have hxL : x < L := by have := hpr.2; omega
        have HX := Lib.hid hp
        have hc := HS.out.k0.cell (hcell j _ hp) (fun h => h)
        have i0' : (0 : Int) ≤ (j : Int) := by omega
        have i1' : (j : Int) < (o.pre.length : Int) := by omega
        have HLT := Lib.hid hlt
        have HCST := Lib.hid (show low N' ≤ low N + (((o.add.length + o.del.length) * (1 + opC a) + (o.add.length + o.del.length) * opC a) + litC (o.pre.take j)) from HP.out.cnt)
        have HMUL := Lib.hid (show litC (o.pre.take j) + litK (x : Int) ≤ litC o.pre from by rw [← litC_take hp]; exact litC_mono _ _)
        have HS1 := Lib.hid HS.out.drew
        have HC1 := Lib.hid (literal_any wr.drew sb L N' G' x true HS1.out.dg hL hxL (by have h1 := HCST.out; have h2 := HMUL.out; have h3 := HBIG.out; omega))
        have c1 := HS1.out.c0.1
        obtain ⟨c0, l0⟩ := HS.out.c0
        clear hcell hp hpr hlt
        go_upto_region 6 with fail
        go_region_held3 (fun w' => w'.cell? ⟨ss, 0, none⟩ = some (.pointer (some ⟨sb, 0, none⟩)))
          (go_keep)
          (first
            | (go_at_call 40; refine HC2.out.mono ?_; rintro en w8 ⟨k4, N4, G4, rfl, hp4, hd4, hk4, hn4⟩; have HP4 := Lib.hid hp4; have HS4 := Lib.hid (HS3.out.op hd4 hk4 hn4); have HK4 := Lib.hid hk4; have HN4 := Lib.hid hn4; have u1 := HS4.out.c0.1; clear hp4 hd4 hk4 hn4)
            | (go_at_call 63; refine HC1.out.mono ?_; rintro en w7 ⟨k3, N3, G3, rfl, hp3, hd3, hk3, hn3⟩; have HP3 := Lib.hid hp3; have HS3 := Lib.hid (HS1.out.op hd3 hk3 hn3); have HK3 := Lib.hid hk3; have HN3 := Lib.hid hn3; have t1 := HS3.out.c0.1; have HC2 := Lib.hid (andLit_any w7 sb L N3 G3 k k3 x hd3 hL (by have := hp3.le.len; have := HP.out.lt; omega) hp3.lt (lit_node hp3.ok hp3.lt hp3.lev hp3.val) (by have h1 := hp3.cnt; have h2 := nb_le x; have h3 := HCST.out; have h4 := HMUL.out; have h5 := HBIG.out; have h6 := litB_litK (L := L) (x := x); omega)); clear hp3 hd3 hk3 hn3))
        all_goals
          go_wp2_with fail
          go_roundw
          case rel =>
            have h6 := litB_litK (L := L) (x := x)
            have h7 := litB_anti (L := L) (p := x) (Nat.zero_le (min (lev L N3 k) (lev L N3 k3)))
            have h8 := litC_take HX.out
            have h9 := nb_le x
            refine ⟨j + 1, k4, N4, G4, by go_num, HLT.out, rfl, (lit_step HP.out HP3.out (HP4.out.weak (Nat.le_refl _) (Nat.zero_le _) (fun _ => rfl)) HX.out).weak (by omega) (Nat.zero_le _) (fun _ => rfl), HS4.out, (HK.out.trans' (Keeps.trans ((Keeps.refl G' wr).drew) HK3.out) HN.out).trans' HK4.out (news HN.out HN3.out HK.out.size), news (news HN.out HN3.out HK.out.size) HN4.out (HK.out.trans' (Keeps.trans ((Keeps.refl G' wr).drew) HK3.out) HN.out).size⟩
          case measure => simp [intOf]; have := HLT.out; omega
      · have hje : j = o.pre.length := by omega
        subst hje
        clear hlt
        go_wp2_with fail
        go_ret
        have hpf := HP.out
        rw [List.take_of_length_le (Nat.le_refl _)] at hpf
        exact ⟨k, N', G', rfl, hpf, fun h => h.elim, HS.out, HKD.out.trans HK.out, fun q hq => (HN.out q hq).imp (fun h => h) (fun h => Nat.le_trans HKD.out.size h)⟩

end Go.Proofs.YtjcgkmodmjckjaaGreat

namespace Go.Proofs.YtjcgkmodmjckjaaGreat
open Go.RowKit

set_option maxRecDepth 100000 in
theorem sprice_any (w : World) (c : Int) (hc : 0 ≤ c ∧ c ≤ 1000000) : Calls Tryz.prog 43 #[.int .i64 c] w fun e w' => e = .returned (.int .i64 (4096 * c + 1)) ∧ w = w' := by
  go_enter Tryz.func43, Tryz.ntmps43
  go_wp2_with fail
  go_ret
  exact ⟨by simp [Int.mul_comm], rfl⟩

theorem NMap.look_neg {α : Type} {w : World} {b : Nat} {enc : α → Value} {f : Nat → Option α} {P : Program} {t k e : TypeId} (h : NMap w b enc f) (ht : P.underlying t = some (.map k e)) (hk : P.underlying k = some (.int .i64)) {z : Value} (hz : (zeroValue e).run P w = .ok z w) {x : Int} (hx : x < 0) :
    (Instr.lookup t (.map (some b)) (.int .i64 x) true).run P w = .ok (.tuple #[z, .bool false]) w ∧ (Instr.lookup t (.map (some b)) (.int .i64 x) false).run P w = .ok z w := by
  obtain ⟨l, h1, _, h3⟩ := h
  exact h1.run_lookup_miss ht hk hz (fun p hp e => by
    obtain ⟨q, hq, rfl⟩ := List.mem_map.1 hp
    simp only at e; omega)

/-- A map of nodes in a block of its own. -/
def DmS (w : World) (db : Nat) (D : Nat → Option Nat) (G : Nat → Prop) : Prop := NMap w db natV D ∧ ¬ G db
section
variable {w w' : World} {db : Nat} {D : Nat → Option Nat} {G G' : Nat → Prop}
theorem DmS.op (h : DmS w db D G) (hk : Keeps G w w') (hn : ∀ q, G' q → G q ∨ w.heap.size ≤ q) : DmS w' db D G' :=
  ⟨h.1.keeps hk h.2, fun h' => (hn _ h').elim h.2 (fun hs => by have := h.1.lt; omega)⟩
theorem DmS.keeps {S : Nat → Prop} (h : DmS w db D G) (hk : Keeps S w w') (hs : ¬ S db) : DmS w' db D G := ⟨h.1.keeps hk hs, h.2⟩
theorem DmS.keeps0 (h : DmS w db D G) (hk : Keeps (fun _ => False) w w') : DmS w' db D G := h.keeps hk (fun h => h)
/-- What a look at the map says. -/
def LookIs (D : Nat → Option Nat) (x : Int) (k : Nat) : Prop := (∃ p : Nat, x = (p : Int) ∧ D p = some k) ∨ (k = 0 ∧ ∀ p : Nat, x = (p : Int) → D p = none)
theorem look_is (D : Nat → Option Nat) (x : Int) : ∃ k, LookIs D x k := by
  by_cases hx : x < 0
  · exact ⟨0, .inr ⟨rfl, fun p e => by omega⟩⟩
  · cases hd : D x.toNat with
    | none => exact ⟨0, .inr ⟨rfl, fun p e => by rw [show p = x.toNat from by omega]; exact hd⟩⟩
    | some k => exact ⟨k, .inl ⟨x.toNat, by omega, hd⟩⟩
theorem DmS.look (h : DmS w db D G) {x : Int} {k : Nat} (hk : LookIs D x k) : (Instr.lookup 73 (.map (some db)) (.int .i64 x) false).run Tryz.prog w = .ok (.int .i64 (k : Int)) w := by
  have hz : (zeroValue 3).run Tryz.prog w = .ok (.int .i64 0) w := by kernel_rfl
  rcases hk with ⟨p, rfl, hp⟩ | ⟨rfl, hn⟩
  · exact (h.1.look_some Tryz.underlying73 Tryz.underlying3 hp).2
  · by_cases hx : x < 0
    · exact (h.1.look_neg Tryz.underlying73 Tryz.underlying3 hz hx).2
    · obtain ⟨p, rfl⟩ := Int.eq_ofNat_of_zero_le (show 0 ≤ x by omega)
      exact (h.1.look_none Tryz.underlying73 Tryz.underlying3 hz (hn p rfl)).2
end
/-- The map holds the states of the prices that have been worked on: of all those below p0. -/
structure DoneI (L : Nat) (N : List Dn) (ops : List Wop) (s : Nat) (D : Nat → Option Nat) (p0 : Nat) : Prop where
  lt : ∀ p k, D p = some k → k < N.length + 2
  ok : ∀ p k, D p = some k → ∀ m, m < 2 ^ L → (dv N k m = true ↔ Pd ops s m p)
  all : ∀ x p, Pd ops s x p → p < p0 → ∃ k, D p = some k
section
variable {L : Nat} {N N' : List Dn} {ops : List Wop} {s : Nat} {D : Nat → Option Nat} {p0 : Nat}
theorem DoneI.le (h : DoneI L N ops s D p0) (ok : DgOk L N) (hl : DgLe N N') : DoneI L N' ops s D p0 :=
  ⟨fun p k hk => by have := h.lt p k hk; have := hl.len; omega, fun p k hk m hm => by rw [hl.dv ok (h.lt p k hk)]; exact h.ok p k hk m hm, h.all⟩
theorem DoneI.look (h : DoneI L N ops s D p0) {x : Int} {k : Nat} (hk : LookIs D x k) : k < N.length + 2 := by
  rcases hk with ⟨p, _, hp⟩ | ⟨rfl, _⟩
  · exact h.lt p k hp
  · omega
/-- What trace tries for an operator: the states from which it leads to m, with the price x. -/
def tryS (L m : Nat) (o : Opr) : Nat → Bool := litS true o.pre (exsT (o.add ++ o.del) (litS false o.del (litS true o.add (cubeS L m 0))))
theorem try_iff (hL : L ≤ 24) {o : Opr} (ho : o.Ok (L : Int)) {m z : Nat} (hm : m < 2 ^ L) (hz : z < 2 ^ L) : tryS L m o z = true ↔ o.word.can z = true ∧ o.word.next z = m := by
  unfold tryS
  rw [before_iff hL ho hz, cube_iff hm (symNextLt ho hz)]
theorem tr_hit (hL : L ≤ 24) {o : Opr} (ho : o.Ok (L : Int)) {m : Nat} (hm : m < 2 ^ L) {Nx : List Dn} {x k : Nat} {fr : Int} (h : DoneI L N ops s D p0) (okx : DgOk L Nx) (hx : x < Nx.length + 2) (h0 : x ≠ 0) (hv : ∀ z, dv Nx x z = (tryS L m o z && dv N k z)) (hk : LookIs D fr k) :
    ∃ p' : Nat, fr = (p' : Int) ∧ (∃ z, z < 2 ^ L ∧ dv Nx x z = true) ∧ ∀ z, z < 2 ^ L → dv Nx x z = true → o.word.can z = true ∧ o.word.next z = m ∧ Pd ops s z p' := by
  obtain ⟨z0, hz0, _, hz1⟩ := dv_some okx x hx h0
  rcases hk with ⟨p, rfl, hp⟩ | ⟨rfl, _⟩
  · refine ⟨p, rfl, ⟨z0, hz0, hz1⟩, fun z hz h1 => ?_⟩
    rw [hv, Bool.and_eq_true, try_iff hL ho hm hz, h.ok p k hp z hz] at h1
    exact ⟨h1.1.1, h1.1.2, h1.2⟩
  · rw [hv, dv_zero, Bool.and_false] at hz1; cases hz1
theorem tr_miss (hL : L ≤ 24) {o : Opr} (ho : o.Ok (L : Int)) {m p : Nat} (hm : m < 2 ^ L) {Nx : List Dn} {k : Nat} {fr : Int} (h : DoneI L N ops s D p0) (hp : p ≤ p0) (hst : ∀ q y, runOps ops s q = some y → y < 2 ^ L) (hfr : fr = (p : Int) - (prcN o.word : Int)) (hv : ∀ z, dv Nx 0 z = (tryS L m o z && dv N k z)) (hk : LookIs D fr k) :
    ∀ z p', Pd ops s z p' → o.word.can z = true → o.word.next z = m → p = p' + prcN o.word → False := by
  intro z p' hz hc hn he
  have hzl : z < 2 ^ L := by obtain ⟨⟨q, g1, _⟩, _⟩ := id hz; exact hst q z g1
  have hb : 1 ≤ prcN o.word := by unfold prcN; omega
  obtain ⟨k', hk'⟩ := h.all z p' hz (by omega)
  have hkk : k = k' := by
    rcases hk with ⟨p2, h1, h2⟩ | ⟨_, h2⟩
    · have : p2 = p' := by omega
      subst this; rw [hk'] at h2; cases h2; rfl
    · rw [h2 p' (by omega)] at hk'; cases hk'
  subst hkk
  have h1 := hv z
  rw [dv_zero, (try_iff hL ho hm hzl).2 ⟨hc, hn⟩, (h.ok p' k hk' z hzl).2 hz] at h1
  cases h1
end
theorem words_at {os : List Opr} {i : Nat} {op : Wop} (h : (wordsOf os)[i]? = some op) : ∃ o, os[i]? = some o ∧ op = o.word := by
  unfold wordsOf at h
  rw [List.getElem?_map] at h
  cases ho : os[i]? with
  | none => rw [ho] at h; cases h
  | some o => rw [ho] at h; cases h; exact ⟨o, rfl, rfl⟩
theorem words_of {os : List Opr} {i : Nat} {o : Opr} (h : os[i]? = some o) : (wordsOf os)[i]? = some o.word := by unfold wordsOf; rw [List.getElem?_map, h]; rfl
theorem sym_costs {t : Tsk} (ok : t.Ok) : CostsOk (wordsOf t.ops) := fun o ho => by
  unfold wordsOf at ho
  obtain ⟨o', ho', rfl⟩ := List.mem_map.1 ho
  exact ⟨(ok.ops o' ho').cost0, (ok.ops o' ho').cost1⟩
theorem bef_cost {a d c x : Nat} (h : a + d ≤ 24) (hc : c ≤ 524287) (hx : x ≤ 5242880) : (a + d) * (1 + c) + (a + d) * c + x ≤ 30408680 := by
  have h1 : (a + d) * (1 + c) ≤ 24 * 524288 := Nat.mul_le_mul h (by omega)
  have h2 : (a + d) * c ≤ 24 * 524287 := Nat.mul_le_mul h hc
  omega

end Go.Proofs.YtjcgkmodmjckjaaGreat
