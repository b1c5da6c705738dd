/- CostOf: the cost of a plan. -/
import Derived.Test.YtcfcmmajlkkabaaSmall
import Derived.BigQuiet
import Derived.Test.YtcfcmmajlkkabaaWay
namespace Go.Proofs.Ytcfcmmajlkkabaa
open Go.RowKit

def costAt (t : Tsk) (x : Int) : Int := ((t.ops[x.toNat]?).map Opr.cost).getD 0
def costL (t : Tsk) : List Int → Int
  | [] => 0
  | x :: r => costAt t x + costL t r
def PlanIn (t : Tsk) (p : List Int) : Prop := ∀ x ∈ p, 0 ≤ x ∧ x < (t.ops.length : Int)

theorem costL_append (t : Tsk) : ∀ (a b : List Int), costL t (a ++ b) = costL t a + costL t b
  | [], b => by simp [costL]
  | x :: a, b => by
    show costAt t x + costL t (a ++ b) = (costAt t x + costL t a) + costL t b
    rw [costL_append t a b]; omega
theorem costAt_bound {t : Tsk} (ok : t.Ok) (x : Int) : 0 ≤ costAt t x ∧ costAt t x ≤ 100 := by
  unfold costAt
  cases h : t.ops[x.toNat]? with
  | none => simp
  | some o =>
    have := ok.ops o (List.mem_of_getElem? h)
    simp; exact ⟨this.cost0, this.cost1⟩
theorem costL_bound {t : Tsk} (ok : t.Ok) : ∀ p : List Int, 0 ≤ costL t p ∧ costL t p ≤ 100 * (p.length : Int)
  | [] => by simp [costL]
  | x :: r => by
    have h1 := costAt_bound ok x
    have h2 := costL_bound ok r
    unfold costL
    rw [List.length_cons]
    omega

set_option maxRecDepth 100000 in
set_option maxHeartbeats 2000000 in
theorem costOf_any (w : World) (vi vg vo vp : Value) (t : Tsk) (p : List Int) (h : TaskAt w vi vg vo t) (ok : t.Ok) (hp : Ints w vp p) (hin : PlanIn t p) (hlen : p.length ≤ 1000000) :
    Calls Try.prog 37 #[.agg #[.int .i64 t.n, vi, vg, vo], vp] w fun e w' => e = .returned (.int .i64 (costL t p)) ∧ Keeps (fun _ => False) w w' := by
  obtain ⟨ai, ci, h1, _⟩ := h.init.form
  obtain ⟨ag, cg, h2, _⟩ := h.goal.form
  obtain ⟨ao, co, h3, hmo⟩ := h.ops.form
  obtain ⟨ap, cp, h4, _⟩ := hp.form
  subst h1 h2 h3 h4
  have K1 := (Keeps.refl (fun _ => False) w).alloc (.cells #[.int .i64 t.n, .slice ai t.init.length ci, .slice ag t.goal.length cg, .slice ao t.ops.length co] 25)
  have HB := Lib.hid (Four.new w (.int .i64 t.n) (.slice ai t.init.length ci) (.slice ag t.goal.length cg) (.slice ao t.ops.length co) 25)
  have HOC := Lib.hid (h.ops.cell rfl)
  have CP := Lib.hid (hp.cell rfl)
  have HK := Lib.hid K1; have OK := Lib.hid ok; have HIN := Lib.hid hin
  clear h K1 ok hin hp
  go_enter Try.func37, Try.ntmps37
  go_upto_region 1 with fail
  generalize (w.alloc (.cells #[.int .i64 t.n, .slice ai t.init.length ci, .slice ag t.goal.length cg, .slice ao t.ops.length co] 25)) = w1 at HB HK ⊢
  go_wp2_with fail
  go_loopw [5, 6] (fun v5 v6 wr => ∃ i : Nat, i ≤ p.length ∧ v6 = .int .i64 (i : Int) ∧ v5 = .int .i64 (costL t (p.take i)) ∧ Keeps (fun _ => False) w1 wr) (fun _ v6 _ => p.length - (intOf v6).toNat)
  case atStart => exact ⟨0, Nat.zero_le _, rfl, rfl, Keeps.refl _ _⟩
  case round =>
    obtain ⟨i, hi, rfl, rfl, hkr⟩ := hrel
    have HKR := Lib.hid hkr
    have HB2 := Lib.hid (HB.out.keeps0 hkr)
    obtain ⟨d0, d1, d2, d3⟩ := HB2.out
    have hbx := HB2.out.lt
    have hsz := hkr.size
    clear hkr
    by_cases hlt : i < p.length
    · obtain ⟨bp, op, rfl, hx'⟩ := CP.out (by omega)
      obtain ⟨x, hx⟩ : ∃ x, p[i]? = some x := ⟨_, List.getElem?_eq_getElem hlt⟩
      have hu := HKR.out.cell (HK.out.cell (hx' i x hx) (fun h => h)) (fun h => h)
      have hxi := HIN.out x (List.mem_of_getElem? hx)
      obtain ⟨xn, rfl⟩ : ∃ xn : Nat, x = (xn : Int) := ⟨x.toNat, by omega⟩
      obtain ⟨bo, oo, rfl, ho'⟩ := HOC.out (by omega)
      obtain ⟨o, ho⟩ : ∃ o, t.ops[xn]? = some o := ⟨_, List.getElem?_eq_getElem (by omega)⟩
      obtain ⟨va, vb, vc, _, _, _, c3, _⟩ := ho' xn o ho
      have c3' := HKR.out.cell (HK.out.cell c3 (fun h => h)) (fun h => h)
      have HTK : Hid (costL t (p.take (i + 1)) = costL t (p.take i) + o.cost) := by
        unfold Hid
        rw [take_getS hx, costL_append]
        simp [costL, costAt, ho]
      have hbd := costL_bound OK.out (p.take i)
      have hbl : ((p.take i).length : Int) ≤ 1000000 := by rw [List.length_take]; omega
      have hoc := OK.out.ops o (List.mem_of_getElem? ho)
      have ho0 := hoc.cost0
      have ho1 := hoc.cost1
      have q1 : IntKind.i64.wrap (costL t (p.take i) + o.cost) = costL t (p.take i) + o.cost := IntWalk.i64_in _ (by omega)
      have q2 : ((xn : Int)).toNat = xn := by omega
      have q3 : (0 : Int) ≤ (xn : Int) := by omega
      have q4 : (xn : Int) < (t.ops.length : Int) := hxi.2
      clear hx' hx ho' ho c3 hxi hoc hbl hbd
      go_wp2_with fail
      go_quiet (fail)
      have KD := Lib.hid (HKR.out.drewN nq)
      clear d0 d1 d2 d3 hu c3'
      generalize wr.drewN nq = w5 at KD ⊢
      go_wp2_with fail
      go_roundw
      case rel => exact ⟨i + 1, by omega, by go_num, by rw [HTK.out], KD.out⟩
      case measure => simp only [intOf]; omega
    · have hie : i = p.length := by omega
      subst hie
      go_wp2_with fail
      go_ret
      exact ⟨congrArg (fun u => Ending.returned (Value.int .i64 u)) (show costL t (p.take p.length) = costL t p by rw [List.take_length]), HK.out.trans HKR.out⟩

end Go.Proofs.Ytcfcmmajlkkabaa

/- space.Result. -/
namespace Go.Proofs.Ytcfcmmajlkkabaa
open Go.RowKit

/-- A SearchResult. -/
def resV (found : Bool) (vp : Value) (c n : Int) : Value := .agg #[.bool found, vp, .int .i64 c, .int .i64 n]

theorem quad_set {w : World} {B : Nat} {x0 x1 x2 x3 : Value} {T : TypeId} (h : w.heap[B]? = some (.cells #[x0, x1, x2, x3] T (0, 0))) (a b c d : Value) :
    ((((w.setCell ⟨B, 0, none⟩ a).setCell ⟨B, 1, none⟩ b).setCell ⟨B, 2, none⟩ c).setCell ⟨B, 3, none⟩ d).heap[B]? = some (.cells #[a, b, c, d] T (0, 0)) := by
  rw [blk_set_same (blk_set_same (blk_set_same (blk_set_same h a) b) c) d]; rfl
theorem keeps_quad {w : World} (B : Nat) (a b c d : Value) : Keeps (fun k => k = B) w ((((w.setCell ⟨B, 0, none⟩ a).setCell ⟨B, 1, none⟩ b).setCell ⟨B, 2, none⟩ c).setCell ⟨B, 3, none⟩ d) :=
  ((((Keeps.refl (fun k => k = B) w).setCell (p := ⟨B, 0, none⟩) (.inl rfl) _).setCell (p := ⟨B, 1, none⟩) (.inl rfl) _).setCell (p := ⟨B, 2, none⟩) (.inl rfl) _).setCell (p := ⟨B, 3, none⟩) (.inl rfl) _

def ResultPost (t : Tsk) (vp : Value) (p : List Int) (found : Bool) (n : Int) (w : World) (e : Ending) (w' : World) : Prop := Keeps (fun _ => False) w w' ∧
  ((60 < p.length ∧ e = .returned (.tuple #[resV false (.slice none 0 0) 0 0, fltV 10 (-9)])) ∨
   (p.length ≤ 60 ∧ e = .returned (.tuple #[resV found vp (costL t p) n, fltV 0 0])))

set_option maxRecDepth 100000 in
set_option maxHeartbeats 2000000 in
theorem result_any (w : World) (vi vg vo vp : Value) (t : Tsk) (p : List Int) (found : Bool) (n : Int) (h : TaskAt w vi vg vo t) (ok : t.Ok) (hp : Ints w vp p) (hin : PlanIn t p) :
    Calls Try.prog 73 #[.agg #[.int .i64 t.n, vi, vg, vo], vp, .bool found, .int .i64 n] w (ResultPost t vp p found n w) := by
  obtain ⟨ai, ci, h1, _⟩ := h.init.form
  obtain ⟨ag, cg, h2, _⟩ := h.goal.form
  obtain ⟨ao, co, h3, hmo⟩ := h.ops.form
  obtain ⟨ap, cp, h4, _⟩ := hp.form
  have K1 := (Keeps.refl (fun _ => False) w).alloc (.cells #[.int .i64 t.n, vi, vg, vo] 25)
  have KA := (Keeps.refl (fun _ => False) (w.alloc (.cells #[.int .i64 t.n, vi, vg, vo] 25))).alloc (.cells #[.bool false, .slice none 0 0, .int .i64 0, .int .i64 0] 52)
  have KB := (Keeps.refl (fun _ => False) ((w.alloc (.cells #[.int .i64 t.n, vi, vg, vo] 25)).alloc (.cells #[.bool false, .slice none 0 0, .int .i64 0, .int .i64 0] 52))).alloc (.cells #[.int .i64 0, .int .i64 0] 29)
  have HB := Lib.hid ((Four.new w (.int .i64 t.n) vi vg vo 25).keeps0 (KA.trans KB))
  have HR := Lib.hid (KB.heap (heap_alloc_new (w.alloc (.cells #[.int .i64 t.n, vi, vg, vo] 25)) (.cells #[.bool false, .slice none 0 0, .int .i64 0, .int .i64 0] 52)) (fun h => h))
  have HF : Flt w _ _ 29 := ⟨heap_alloc_new ((w.alloc (.cells #[.int .i64 t.n, vi, vg, vo] 25)).alloc (.cells #[.bool false, .slice none 0 0, .int .i64 0, .int .i64 0] 52)) (.cells #[.int .i64 0, .int .i64 0] 29), by simp; omega, K1.trans (KA.trans KB)⟩
  replace HF := Lib.hid HF
  have HT := Lib.hid (h.keeps0 (K1.trans (KA.trans KB))); have HP := Lib.hid (show Ints _ vp p from hp.keeps0 (K1.trans (KA.trans KB)))
  have OK := Lib.hid ok; have HIN := Lib.hid hin
  rw [World.size_alloc] at HR HF
  rw [World.size_alloc] at HF
  subst h1 h2 h3 h4
  clear h hp hin ok K1 KA KB
  go_enter Try.func73, Try.ntmps73
  go_upto_region 1 with fail
  generalize ((w.alloc (.cells #[.int .i64 t.n, .slice ai t.init.length ci, .slice ag t.goal.length cg, .slice ao t.ops.length co] 25)).alloc (.cells #[.bool false, .slice none 0 0, .int .i64 0, .int .i64 0] 52)).alloc (.cells #[.int .i64 0, .int .i64 0] 29) = w1 at HB HR HF HT HP ⊢
  have r0 : w1.cell? ⟨w.heap.size + 1, 0, none⟩ = some (.bool false) := by rw [cell_of_blk HR.out]; rfl
  have r1 : w1.cell? ⟨w.heap.size + 1, 1, none⟩ = some (.slice none 0 0) := by rw [cell_of_blk HR.out]; rfl
  have r2 : w1.cell? ⟨w.heap.size + 1, 2, none⟩ = some (.int .i64 0) := by rw [cell_of_blk HR.out]; rfl
  have r3 : w1.cell? ⟨w.heap.size + 1, 3, none⟩ = some (.int .i64 0) := by rw [cell_of_blk HR.out]; rfl
  have y0 := frozen_of_blk (o := 0) HR.out
  have y1 := frozen_of_blk (o := 1) HR.out
  have y2 := frozen_of_blk (o := 2) HR.out
  have y3 := frozen_of_blk (o := 3) HR.out
  have hlR := lt_of_heap HR.out
  obtain ⟨e0, e1, z0, z1, hF⟩ := HF.out.cells
  by_cases hlen : 60 < p.length
  · have q1 : decide ((60 : Int) < (p.length : Int)) = true := by simp; omega
    have HLEN := Lib.hid hlen
    have kq := keeps_quad (w := w1) (w.heap.size + 1) (.bool false) (.slice none 0 0) (.int .i64 0) (.int .i64 0)
    have HQ := Lib.hid (quad_set HR.out (.bool false) (.slice none 0 0) (.int .i64 0) (.int .i64 0))
    have HF2 := Lib.hid (HF.out.keepsS kq (by omega) (fun i hi => by omega))
    clear hlen kq
    go_wp2_with fail
    refine bodyPost_ret (results_cell_cell _ _ (w.heap.size + 1 + 1) 29 #[.int .i64 10, .int .i64 (-9)] (0, 0) _ rfl rfl (HF2.out.set (.int .i64 10) (.int .i64 (-9))).1 Try.underlying29 rfl (by kernel_rfl) rfl ((keeps_pair (w.heap.size + 1 + 1) _ _).heap HQ.out (by omega)) Try.underlying52 rfl (by kernel_rfl)) rfl ?_
    exact ⟨(HF2.out.set _ _).2, .inl ⟨HLEN.out, rfl⟩⟩
  · have q1 : decide ((60 : Int) < (p.length : Int)) = false := by simp; omega
    have hlen2 : p.length ≤ 60 := by omega
    have HLEN := Lib.hid hlen2
    have hs1 := HF.out.keep.size
    have HOC := Lib.hid (HT.out.ops.cell rfl)
    have CP := Lib.hid (HP.out.cell rfl)
    have K3 := Lib.hid ((Keeps.refl (fun _ => False) w1).alloc (.cells #[.bool found, .slice ap p.length cp, .int .i64 0, .int .i64 n] 52))
    have HX3 := Lib.hid (heap_alloc_new w1 (.cells #[.bool found, .slice ap p.length cp, .int .i64 0, .int .i64 n] 52))
    have hbw := HB.out.lt
    clear hlen HT HP r0 r1 r2 r3 y0 y1 y2 y3 e0 e1 z0 z1
    go_upto_region 5 with fail
    generalize w1.alloc (.cells #[.bool found, .slice ap p.length cp, .int .i64 0, .int .i64 n] 52) = w3 at K3 HX3 ⊢
    obtain ⟨bx, hbx⟩ : ∃ bx, w1.heap.size = bx := ⟨_, rfl⟩
    have HBX := Lib.hid hbx
    rw [hbx] at hF hlR hs1 hbw
    rw [show w1.heap.size = bx from hbx] at HX3
    rw [hbx]
    clear hbx
    go_loopw [24] (fun v24 wr => ∃ i : Nat, i ≤ p.length ∧ v24 = .int .i64 (i : Int) ∧ wr.heap[bx]? = some (.cells #[.bool found, .slice ap p.length cp, .int .i64 (costL t (p.take i)), .int .i64 n] 52 (0, 0)) ∧ Keeps (fun _ => False) w1 wr) (fun v24 _ => p.length - (intOf v24).toNat)
    case atStart => exact ⟨0, Nat.zero_le _, rfl, HX3.out, K3.out⟩
    case round =>
      obtain ⟨i, hi, rfl, hx, hkr⟩ := hrel
      have HX := Lib.hid hx
      have HKR := Lib.hid hkr
      have HB2 := Lib.hid (HB.out.keeps0 hkr)
      have HF2 := Lib.hid (HF.out.keeps0 hkr)
      have HR2 := Lib.hid (hkr.heap HR.out (fun h => h))
      have s0 : wr.cell? ⟨bx, 0, none⟩ = some (.bool found) := by rw [cell_of_blk hx]; rfl
      have s1 : wr.cell? ⟨bx, 1, none⟩ = some (.slice ap p.length cp) := by rw [cell_of_blk hx]; rfl
      have s2 : wr.cell? ⟨bx, 2, none⟩ = some (.int .i64 (costL t (p.take i))) := by rw [cell_of_blk hx]; rfl
      have s3 : wr.cell? ⟨bx, 3, none⟩ = some (.int .i64 n) := by rw [cell_of_blk hx]; rfl
      have v2 := frozen_of_blk (o := 2) hx
      have hlx := lt_of_heap hx
      clear hkr hx
      by_cases hlt : i < p.length
      · obtain ⟨d0, d1, d2, d3⟩ := HB2.out
        have hbl2 := HB2.out.lt
        obtain ⟨bp, op, rfl, hx'⟩ := CP.out (by omega)
        obtain ⟨x, hx⟩ : ∃ x, p[i]? = some x := ⟨_, List.getElem?_eq_getElem hlt⟩
        have hu := HKR.out.cell (hx' i x hx) (fun h => h)
        have hxi := HIN.out x (List.mem_of_getElem? hx)
        obtain ⟨xn, rfl⟩ : ∃ xn : Nat, x = (xn : Int) := ⟨x.toNat, by omega⟩
        obtain ⟨bo, oo, rfl, ho'⟩ := HOC.out (by omega)
        obtain ⟨o, ho⟩ : ∃ o, t.ops[xn]? = some o := ⟨_, List.getElem?_eq_getElem (by omega)⟩
        obtain ⟨va, vb, vc, _, _, _, c3, _⟩ := ho' xn o ho
        have c3' := HKR.out.cell c3 (fun h => h)
        have HTK : Hid (costL t (p.take (i + 1)) = costL t (p.take i) + o.cost) := by
          unfold Hid
          rw [take_getS hx, costL_append]
          simp [costL, costAt, ho]
        have hbd := costL_bound OK.out (p.take i)
        have hbl : ((p.take i).length : Int) ≤ 1000000 := by rw [List.length_take]; omega
        have hoc := OK.out.ops o (List.mem_of_getElem? ho)
        have ho0 := hoc.cost0
        have ho1 := hoc.cost1
        have q1 : IntKind.i64.wrap (costL t (p.take i) + o.cost) = costL t (p.take i) + o.cost := IntWalk.i64_in _ (by omega)
        have q2 : ((xn : Int)).toNat = xn := by omega
        have q3 : (0 : Int) ≤ (xn : Int) := by omega
        have q4 : (xn : Int) < (t.ops.length : Int) := hxi.2
        clear hx' hx ho' ho c3 hxi hoc hbl hbd
        go_upto_region 7 with fail
        go_still_tail 10, (by kernel_rfl)
        change wpList _ _ _ _ _ wr.drew
        have KD := (Keeps.refl (fun _ => False) wr).drew
        have HXD := Lib.hid (KD.heap HX.out (fun h => h))
        have HKD := Lib.hid (HKR.out.trans KD)
        clear KD d0 d1 d2 d3 hbl2 hu c3' s0 s1 s2 s3 v2 hlx
        generalize wr.drew = w5 at HXD HKD ⊢
        have s2 : w5.cell? ⟨bx, 2, none⟩ = some (.int .i64 (costL t (p.take i))) := by rw [cell_of_blk HXD.out]; rfl
        have v2 := frozen_of_blk (o := 2) HXD.out
        have hlx := lt_of_heap HXD.out
        have HN := Lib.hid (blk_set_same HXD.out (o := 2) (.int .i64 (costL t (p.take i) + o.cost)))
        have HKN := Lib.hid (HKD.out.trans' ((Keeps.refl (fun k => k = bx) w5).setCell (p := ⟨bx, 2, none⟩) (.inl rfl) (.int .i64 (costL t (p.take i) + o.cost))) (fun k hk => .inr (by have := HBX.out; omega)))
        go_wp2_with fail
        go_roundw
        case rel => exact ⟨i + 1, by omega, by go_num, by rw [HTK.out]; exact HN.out, HKN.out⟩
        case measure => simp only [intOf]; omega
      · have hie : i = p.length := by omega
        subst hie
        have r0 : wr.cell? ⟨w.heap.size + 1, 0, none⟩ = some (.bool false) := by rw [cell_of_blk HR2.out]; rfl
        have r1 : wr.cell? ⟨w.heap.size + 1, 1, none⟩ = some (.slice none 0 0) := by rw [cell_of_blk HR2.out]; rfl
        have r2 : wr.cell? ⟨w.heap.size + 1, 2, none⟩ = some (.int .i64 0) := by rw [cell_of_blk HR2.out]; rfl
        have r3 : wr.cell? ⟨w.heap.size + 1, 3, none⟩ = some (.int .i64 0) := by rw [cell_of_blk HR2.out]; rfl
        have y0 := frozen_of_blk (o := 0) HR2.out
        have y1 := frozen_of_blk (o := 1) HR2.out
        have y2 := frozen_of_blk (o := 2) HR2.out
        have y3 := frozen_of_blk (o := 3) HR2.out
        have hlR2 := lt_of_heap HR2.out
        obtain ⟨e0, e1, z0, z1, hF2⟩ := HF2.out.cells
        have HCE : Hid (costL t (p.take p.length) = costL t p) := by unfold Hid; rw [List.take_length]
        have kq := keeps_quad (w := wr) (w.heap.size + 1) (.bool found) (.slice ap p.length cp) (.int .i64 (costL t p)) (.int .i64 n)
        have HQ := Lib.hid (quad_set HR2.out (.bool found) (.slice ap p.length cp) (.int .i64 (costL t p)) (.int .i64 n))
        have HF4 := Lib.hid (HF2.out.keepsS kq (by omega) (fun i hi => by omega))
        rw [HCE.out] at s2
        clear kq HX
        go_wp2_with fail
        refine bodyPost_ret (results_cell_cell _ _ (w.heap.size + 1 + 1) 29 #[.int .i64 0, .int .i64 0] (0, 0) _ rfl rfl (HF4.out.set (.int .i64 0) (.int .i64 0)).1 Try.underlying29 rfl (by kernel_rfl) rfl ((keeps_pair (w.heap.size + 1 + 1) _ _).heap HQ.out (by omega)) Try.underlying52 rfl (by kernel_rfl)) rfl ?_
        exact ⟨(HF4.out.set _ _).2, .inr ⟨HLEN.out, rfl⟩⟩

end Go.Proofs.Ytcfcmmajlkkabaa
