/- lmcut: the walk of cut. bothends.Plan. lmcut: the walks of Find and Cuts. breadth: the beginnings of the plan are the least ways to the states on its way. The reference's StepsFault, Ends, Works, Solves and PlanFault, for a plan that can be followed. noResult, isOne, StateFault of the reference. The reference's IsBest, at a best plan; the law's bestMatches. astar: kinds that are not permitted; the reference's faults of a call with a kind. astar: Checked and Plan at a kind that is not permitted; KindFault. relaxplan: the walk of Plan. No condition beyond what each theorem says. -/
import Derived.Test.YtdokakhgflljgaaGreatK12
import Derived.Test.YtdokakhgflljgaaGreatK7
import Derived.Test.YtdokakhgflljgaaGreatK6
import Derived.Sort.LoopGhostIn
import Derived.Test.YtdokakhgflljgaaGreatK9
import Derived.Test.YtdokakhgflljgaaGreatK11
import Derived.Test.YtdokakhgflljgaaGreatK2
import Derived.Test.YtdokakhgflljgaaGreatK8
import Derived.Test.YtdokakhgflljgaaGreatK3
import Derived.Test.YtdokakhgflljgaaGreatK4
import Derived.Test.YtdokakhgflljgaaGreatK10
import Derived.Test.YtdokakhgflljgaaGreatK1

namespace Go.Proofs.YtdokakhgflljgaaGreat
open Go.RowKit Go.Shelf

theorem pair_set0 {w : World} {B : Nat} {x y : Value} {T : TypeId} (h : w.heap[B]? = some (.cells #[x, y] T (0, 0))) (c : Value) : (w.setCell ⟨B, 0, none⟩ c).heap[B]? = some (.cells #[c, y] T (0, 0)) := by rw [blk_set_same h]; rfl
theorem pair_set1 {w : World} {B : Nat} {x y : Value} {T : TypeId} (h : w.heap[B]? = some (.cells #[x, y] T (0, 0))) (c : Value) : (w.setCell ⟨B, 1, none⟩ c).heap[B]? = some (.cells #[x, c] T (0, 0)) := by rw [blk_set_same h]; rfl
theorem cutTo_succ {n : Int} {v : List Int} {z b : List Bool} {os : List (Opr × Int)} {k : Nat} {o : Opr × Int} (h : os[k]? = some o) : cutTo n v z b os (k + 1) = if inCut n v z b o.1 = true then ((cutTo n v z b os k).1 ++ [(k : Int)], min (cutTo n v z b os k).2 o.2) else cutTo n v z b os k := by
  rw [cutTo, h]

section
variable (w3 : World) (b5 : Nat) (q : List Int × Int)
/-- The cut so far: its operators and its cost. -/
def CutAt (wr : World) : Prop := ∃ vx, wr.heap[b5]? = some (.cells #[vx, .int .i64 q.2] 195 (0, 0)) ∧ wr.ownsRow w3.heap.size 3 1 vx q.1.length (q.1.map (Value.int .i64)) ∧ Keeps (fun b => b = b5) w3 wr
end

set_option maxRecDepth 100000 in
set_option maxHeartbeats 8000000 in
theorem cut_any (w : World) (X : Nat) (vi vg vo vs vc vv : Value) (t : Tsk) (n : Nat) (s costs : List Int) (hn : t.n = (n : Int)) (hX : SrchC w X n vi vg vo vs vc vv) (h : TaskAt w vi vg vo t) (ok : t.Ok) (hv : Ints w vv (valL t s costs))
    (hs : Ints w vs s) (hsb : ∀ p ∈ s, 0 ≤ p ∧ p < (n : Int)) (hcs : Ints w vc costs) (hc : CostsOk t costs) (hg : 0 < greatL (valL t s costs) t.goal) :
    Calls Tryz.prog 120 #[.pointer (some ⟨X, 0, none⟩)] w fun e w' => ∃ vx, e = .returned (.agg #[vx, .int .i64 (cutT t s costs).2]) ∧ w'.ownsRow w.heap.size 3 1 vx (cutT t s costs).1.length ((cutT t s costs).1.map (Value.int .i64)) ∧ Keeps (fun _ => False) w w' := by
  obtain ⟨i0, hi0, hz0, hz1, hz2⟩ := info_parts Tryz.info3
  obtain ⟨ai, ci, h1, _⟩ := h.init.form
  obtain ⟨ag, cg, h2, _⟩ := h.goal.form
  obtain ⟨ao, co, h3, hmo⟩ := h.ops.form
  obtain ⟨ac, cc, h4, hmc⟩ := hcs.form
  subst h1 h2 h3 h4
  have hop40 : t.ops.length ≤ 40 := ok.few
  have HC := Lib.hid (show CutIn (n : Int) (valL t s costs) (t.ops.zip costs) by rw [← hn]; exact cutIn ok hc s)
  have hbef := cut_start ok hc (by rw [hn]; exact hsb) hg
  have HBEF := Lib.hid (show BefI (n : Int) (zoneT t s costs) (bef0 (n : Int) s) by rw [← hn]; exact hbef)
  have HST := Lib.hid (cut_st ok hc (by rw [hn]; exact hsb) hg)
  have hvl : (valL t s costs).length = n + 1 := by unfold valL; rw [List.length_append, (vals_ok (t := t) (s := s) hc).len]; simp; omega
  have HCT := Lib.hid (show cutT t s costs = cutTo (n : Int) (valL t s costs) (zoneT t s costs) (befT t s costs) (t.ops.zip costs) t.ops.length by unfold cutT; rw [hn])
  have HZT := Lib.hid (show zoneV (n : Int) (valL t s costs) (t.ops.zip costs) t.goal = zoneT t s costs by unfold zoneT; rw [hn])
  have HBT := Lib.hid (show befV (n : Int) (valL t s costs) (zoneT t s costs) t.ops s = befT t s costs by unfold befT; rw [hn])
  have HN := Lib.hid hn
  have HPRE := Lib.hid (show ∀ o ∈ t.ops, ∀ p ∈ o.pre, 0 ≤ p ∧ p < (n : Int) from fun o ho => by have := (isSet_iff.1 (ok.ops o ho).pre).1; rw [hn] at this; exact this)
  have HADD := Lib.hid (show ∀ o ∈ t.ops, ∀ p ∈ o.add, 0 ≤ p ∧ p < (n : Int) from fun o ho => by have := (isSet_iff.1 (ok.ops o ho).add).1; rw [hn] at this; exact this)
  have HCL := Lib.hid hc.len
  have HCLO := Lib.hid hc.low
  clear hbef hg hc
  generalize valL t s costs = v at hv HC HST hvl HCT HZT HBT
  have HL := Lib.hid hvl
  have KA := (Keeps.refl (fun _ => False) w).alloc (.cells #[.slice none 0 0, .int .i64 0] 195)
  have HX := Lib.hid (hX.keeps0 KA); have HT := Lib.hid (h.keeps0 KA); have OK := Lib.hid ok; have HV := Lib.hid (hv.keeps0 KA); have HS := Lib.hid (hs.keeps0 KA); have HSB := Lib.hid hsb; have HCS := Lib.hid (hcs.keeps0 KA); have HKA := Lib.hid KA
  have HR := Lib.hid (heap_alloc_new w (.cells #[.slice none 0 0, .int .i64 0] 195))
  clear h ok hv hvl hs hsb hcs hX KA
  go_enter Tryz.func120, Tryz.ntmps120
  go_upto_region 1 with fail
  generalize w.alloc (.cells #[.slice none 0 0, .int .i64 0] 195) = w1 at HX HT HV HS HCS HKA HR ⊢
  go_wp2_with fail
  refine (zone_any w1 X _ _ _ _ _ vv t n v costs HN.out HX.out HT.out OK.out HV.out HL.out HCS.out HCL.out HC.out).mono ?_
  rintro e w2 ⟨gz, rfl, hza, hzb, hkz⟩
  rw [HZT.out] at hza
  have HZA := Lib.hid hza; have HKZ := Lib.hid hkz
  clear hza hkz
  go_wp2_with fail
  refine (before_any w2 X gz _ _ _ _ _ vv t n v s _ HN.out (HX.out.keeps0 HKZ.out) (HT.out.keeps0 HKZ.out) OK.out (HV.out.keeps0 HKZ.out) HL.out (HS.out.keeps0 HKZ.out) HSB.out HZA.out (by have := HST.out.zlen; rw [HN.out, Int.toNat_natCast] at this; exact this) HBEF.out).mono ?_
  rintro e w9 ⟨gb, rfl, hba, hbb, hkb⟩
  rw [HBT.out] at hba
  have HBA := Lib.hid (hba.keeps ((Keeps.refl (fun _ => False) w9).alloc (.cells #[.slice none 0 0, .int .i64 1000000000] 195)) (fun h => h))
  have KB := (hkb.trans ((Keeps.refl (fun _ => False) w9).alloc (.cells #[.slice none 0 0, .int .i64 1000000000] 195)))
  have HZB := Lib.hid (HZA.out.keeps KB (fun h => h)); have HKB := Lib.hid (HKZ.out.trans KB)
  have HC5 := Lib.hid (heap_alloc_new w9 (.cells #[.slice none 0 0, .int .i64 1000000000] 195))
  have hgb := hba.lt
  have hgz : gz < w9.heap.size := Nat.lt_of_lt_of_le HZA.out.lt hkb.size
  have hw1 : w1.heap.size ≤ w9.heap.size := Nat.le_trans HKZ.out.size hkb.size
  clear hba hkb KB HZA HKZ
  go_upto_region 4 with fail
  obtain ⟨b5, hb5⟩ : ∃ b5, w9.heap.size = b5 := ⟨_, rfl⟩
  rw [hb5] at HC5 hgb hgz hw1 ⊢
  generalize w9.alloc (.cells #[.slice none 0 0, .int .i64 1000000000] 195) = w3 at HBA HZB HKB HC5 ⊢
  have HR3 := Lib.hid (HKB.out.heap HR.out (fun h => h))
  have HB5 := Lib.hid (show w1.heap.size ≤ b5 from hw1)
  clear hb5 hzb hbb
  have HKW : ∀ wq : World, Keeps (fun b => b = b5) w3 wq → Keeps (fun _ => False) w1 wq := fun wq hk => HKB.out.trans' hk (fun i hi => .inr (by have := HB5.out; omega))
  replace HKW := Lib.hid HKW
  have HG5 := Lib.hid (show ¬ gb = b5 ∧ ¬ gz = b5 ∧ ¬ w.heap.size = b5 from ⟨fun e => by omega, fun e => by omega, fun e => by have := lt_of_heap HR.out; have := HB5.out; omega⟩)
  obtain ⟨d0, d1, d2, d3, d4, d5, d6⟩ := HX.out.keeps0 HKB.out
  have hxl := (HX.out.keeps0 HKB.out).lt
  go_wp2_with fail
  clear d0 d1 d2 d3 d4 d5 d6 hxl
  go_loopw [22] (fun v22 wr => ∃ k : Nat, v22 = .int .i64 (k : Int) ∧ k ≤ t.ops.length ∧ CutAt w3 b5 (cutTo (n : Int) v (zoneT t s costs) (befT t s costs) (t.ops.zip costs) k) wr) (fun v22 _ => t.ops.length - (intOf v22).toNat)
  case atStart => exact ⟨0, rfl, Nat.zero_le _, _, HC5.out, World.ownsRow_nil _ _ _ _, Keeps.refl _ _⟩
  case round =>
    obtain ⟨k, rfl, hk, vx, hcb, hcr, hck⟩ := hrel
    have HCB := Lib.hid hcb; have HCR := Lib.hid hcr; have HCK := Lib.hid hck
    have KW := Lib.hid (HKW.out wr hck)
    clear hcb hcr hck
    by_cases hkl : k < t.ops.length
    · obtain ⟨bo, oo, rfl, hcell⟩ := HT.out.ops.cell rfl (by omega)
      obtain ⟨o, ho⟩ : ∃ o, t.ops[k]? = some o := ⟨_, List.getElem?_eq_getElem hkl⟩
      obtain ⟨va, vb, vd, p0', p1', p2', p3', i1, i2, i3⟩ := hcell k o ho
      have p0 := KW.out.cell p0' (fun h => h); have p1 := KW.out.cell p1' (fun h => h); have p2 := KW.out.cell p2' (fun h => h); have p3 := KW.out.cell p3' (fun h => h)
      clear p0' p1' p2' p3'
      obtain ⟨a1, k1, f1, _⟩ := i1.form
      obtain ⟨a2, k3, f2, _⟩ := i2.form
      obtain ⟨a3, k4, f3, _⟩ := i3.form
      subst f1 f2 f3
      have I1 := Lib.hid i1; have I2 := Lib.hid i2
      obtain ⟨c, hcj⟩ : ∃ c, costs[k]? = some c := ⟨_, List.getElem?_eq_getElem (by rw [HCL.out]; exact hkl)⟩
      have HZJ := Lib.hid (show (t.ops.zip costs)[k]? = some (o, c) by rw [List.getElem?_zip_eq_some]; exact ⟨ho, hcj⟩)
      have HCJ := Lib.hid hcj
      have HPO := Lib.hid (HPRE.out o (List.mem_of_getElem? ho)); have HAO := Lib.hid (HADD.out o (List.mem_of_getElem? ho))
      have HNX := Lib.hid (cutTo_succ (n := (n : Int)) (v := v) (z := zoneT t s costs) (b := befT t s costs) HZJ.out)
      obtain ⟨_, _, hqk, _, _⟩ := cutTo_spec (n := (n : Int)) (v := v) HC.out.cost (zoneT t s costs) (befT t s costs) k (by rw [List.length_zip, HCL.out]; omega)
      have K4 := (Keeps.refl (fun _ => False) wr).alloc (.cells #[.slice a1 o.pre.length k1, .slice a2 o.add.length k3, .slice a3 o.del.length k4, .int .i64 o.cost] 80)
      have HO4 := Lib.hid (Four.new wr (.slice a1 o.pre.length k1) (.slice a2 o.add.length k3) (.slice a3 o.del.length k4) (.int .i64 o.cost) 80)
      have HCB4 := Lib.hid (K4.heap HCB.out (fun h => h)); have HCR4 := Lib.hid (K4.ownsRow HCR.out (fun _ _ h => h)); have HCK4 := Lib.hid (HCK.out.trans (K4.mono (fun _ _ h => h.elim))); have KW4 := Lib.hid (KW.out.trans K4)
      clear hcell ho i1 i2 i3 K4 hcj HCB HCR HCK KW
      go_upto_region 7 with fail
      generalize hw4 : (wr.alloc (.cells #[.slice a1 o.pre.length k1, .slice a2 o.add.length k3, .slice a3 o.del.length k4, .int .i64 o.cost] 80)) = w4 at HCB4 HCR4 HCK4 HO4 KW4 ⊢
      clear p0 p1 p2 p3 hw4
      obtain ⟨b4, hb4⟩ : ∃ b4, wr.heap.size = b4 := ⟨_, rfl⟩
      rw [hb4] at HO4 ⊢
      clear hb4
      generalize cutTo (n : Int) v (zoneT t s costs) (befT t s costs) (t.ops.zip costs) k = q at HCB4 HCR4 HNX hqk ⊢
      obtain ⟨q0, q1, q2, q3⟩ := HO4.out
      have hq4 := HO4.out.lt
      go_wp2_with fail
      refine (hardest_any w4 X n _ _ _ _ _ vv _ v o.pre (HX.out.keeps0 KW4.out) (HV.out.keeps0 KW4.out) HL.out (I1.out.keeps0 KW4.out) HPO.out).mono ?_
      rintro e w5 ⟨rfl, hk5⟩
      have KW5 := Lib.hid (KW4.out.trans hk5); have HO5 := Lib.hid (HO4.out.keeps0 hk5)
      have HCB5 := Lib.hid (hk5.heap HCB4.out (fun h => h)); have HCR5 := Lib.hid (hk5.ownsRow HCR4.out (fun _ _ h => h)); have HCK5 := Lib.hid (HCK4.out.trans (hk5.mono (fun _ _ h => h.elim)))
      have hin := hard_in (n := (n : Int)) (v := v) (ps := o.pre) (by omega) HPO.out
      obtain ⟨f, hf⟩ : ∃ f : Nat, hardI (n : Int) v o.pre = (f : Int) := ⟨(hardI (n : Int) v o.pre).toNat, by omega⟩
      have HF := Lib.hid hf
      rw [hf] at hin ⊢
      have hfi : (f : Int) < ((n + 1 : Nat) : Int) := by omega
      have HBL := Lib.hid (show (befT t s costs).length = n + 1 by have := HST.out.blen; rw [HN.out, Int.toNat_natCast] at this; exact this)
      have HZL := Lib.hid (show (zoneT t s costs).length = n + 1 by have := HST.out.zlen; rw [HN.out, Int.toNat_natCast] at this; exact this)
      have hb5' := HBA.out.keeps HCK5.out HG5.out.1
      have hg1 := hb5'.get (j := f) (by rw [HBL.out]; omega)
      have hgl := hb5'.lt
      clear hf hk5 HCB4 HCR4 HCK4 HO4 q0 q1 q2 q3 hq4 hin hb5' KW4
      cases hb : getB (befT t s costs) (f : Int) with
      | false =>
        rw [hb] at hg1
        have HNE := Lib.hid (show cutTo (n : Int) v (zoneT t s costs) (befT t s costs) (t.ops.zip costs) (k + 1) = q by rw [HNX.out, if_neg (by unfold inCut; rw [HF.out, hb]; simp)])
        clear hb
        go_wp2_with fail
        go_roundw
        case rel => exact ⟨k + 1, by go_num, by omega, by rw [HNE.out]; exact ⟨vx, HCB5.out, HCR5.out, HCK5.out⟩⟩
        case measure => simp [intOf]; omega
      | true =>
        rw [hb] at hg1
        have HBT2 := Lib.hid hb
        obtain ⟨q0, q1, q2, q3⟩ := HO5.out
        have hq5 := HO5.out.lt
        clear hb
        go_wp2_with fail
        clear q0 q1 q2 q3 hq5 hg1 hgl
        go_loopw [38] (fun v38 wr' => ∃ i : Nat, v38 = .int .i64 (i : Int) ∧ i ≤ o.add.length ∧ (o.add.take i).any (getB (zoneT t s costs)) = false ∧ CutAt w3 b5 q wr') (fun v38 _ => o.add.length - (intOf v38).toNat)
        case atStart => exact ⟨0, rfl, Nat.zero_le _, rfl, vx, HCB5.out, HCR5.out, HCK5.out⟩
        case round =>
          obtain ⟨i, rfl, hi, hany, vy, hcb, hcr, hck⟩ := hrel
          have HCB := Lib.hid hcb; have HCR := Lib.hid hcr; have HCK := Lib.hid hck; have HANY := Lib.hid hany
          have KW6 := Lib.hid (HKW.out wr hck)
          clear hcb hcr hck hany
          by_cases hil : i < o.add.length
          · obtain ⟨b2, o2, rfl, hca⟩ := (I2.out.keeps0 KW6.out).cell rfl (by omega)
            obtain ⟨p, hp⟩ : ∃ p, o.add[i]? = some p := ⟨_, List.getElem?_eq_getElem hil⟩
            have hpb := HAO.out p (List.mem_of_getElem? hp)
            have HPM := Lib.hid (List.mem_of_getElem? hp)
            obtain ⟨p, rfl⟩ := Int.eq_ofNat_of_zero_le hpb.1
            have hc2 := hca i _ hp
            have hpi : (p : Int) < ((n + 1 : Nat) : Int) := by omega
            have HTK := Lib.hid (show (o.add.take (i + 1)).any (getB (zoneT t s costs)) = getB (zoneT t s costs) (p : Int) by rw [take_getS hp, List.any_append, HANY.out]; simp)
            have hz6 := HZB.out.keeps HCK.out HG5.out.2.1
            have hg2 := hz6.get (j := p) (by rw [HZL.out]; omega)
            have hgl := hz6.lt
            clear hca hp hpb hz6
            cases hz : getB (zoneT t s costs) (p : Int) with
            | false =>
              rw [hz] at hg2 HTK
              clear hz
              go_wp2_with fail
              go_roundw
              case rel => exact ⟨i + 1, by go_num, by omega, HTK.out, vy, HCB.out, HCR.out, HCK.out⟩
              case measure => simp [intOf]; omega
            | true =>
              rw [hz] at hg2
              have HNE := Lib.hid (show cutTo (n : Int) v (zoneT t s costs) (befT t s costs) (t.ops.zip costs) (k + 1) = (q.1 ++ [(k : Int)], min q.2 c) by
                rw [HNX.out, if_pos (by unfold inCut; rw [HF.out, HBT2.out, List.any_eq_true.2 ⟨_, HPM.out, hz⟩]; rfl)])
              obtain ⟨ao3, cap3, hv3⟩ := ownsRow_form1 HCR.out
              subst hv3
              obtain ⟨r0, r1, z0, z1, hl5⟩ := pair_cells HCB.out
              have hs3 := HCK.out.size
              clear hz
              go_wp2_with (at_builtin; refine wpList_append_lies _ rfl _ _ _ rfl w3.heap.size 3 i0 _ 1 8 Tryz.underlying22 hi0 hz0 hz1 hz2 rfl (by omega) _ q.1.length _ (by rfl) (HCR.out.alloc _) ⟨wr.heap.size, 0, none⟩ 1 1 [.int .i64 (k : Int)] (by rfl) (by rfl) ?hnews ?hone (by omega) (by unfold maxLen; omega) (by omega) (by simp; omega) (wr.heap.size + 1) (by simp) ?_)
              case hnews => exact World.news_of_block (cs := #[.int .i64 (k : Int)]) (t := 3) (fr := (0, 0)) (heap_alloc_new _ _)
              case hone => simp [Value.oneCell']
              intro g2 cap2 w6 hown2 hgrow hat hlt3
              have k6 := ((Keeps.refl (fun b => (Value.slice ao3 q.1.length cap3).ownBlock = some b) wr).alloc (.cells #[.int .i64 (k : Int)] 3)).grown hgrow (fun k hk => .inl hk)
              have hb53 : b5 < w3.heap.size := lt_of_heap HC5.out
              have kk := HCK.out.trans' k6 (fun i hi => .inr (HCR.out.lt i hi).1)
              have hcb6 := k6.heap HCB.out (fun e => by have := (HCR.out.lt b5 e).1; omega)
              obtain ⟨s0, s1, y0, y1, hl6⟩ := pair_cells hcb6
              have HC7 := Lib.hid (pair_set0 hcb6 (.slice (some ⟨g2, 0, none⟩) (q.1.length + 1) cap2))
              have HK7 := Lib.hid (kk.trans (keeps_set w6 b5 0 (.slice (some ⟨g2, 0, none⟩) (q.1.length + 1) cap2)))
              have HO7 := Lib.hid ((keeps_set w6 b5 0 (.slice (some ⟨g2, 0, none⟩) (q.1.length + 1) cap2)).ownsRow hown2 (fun k hk e => by have := (World.ownsRow.lt hown2 k hk).1; omega))
              clear hown2 hgrow hat k6 kk hcb6 r0 r1 z0 z1 hl5
              go_upto_region 13 with fail
              generalize w6.setCell ⟨b5, 0, none⟩ (.slice (some ⟨g2, 0, none⟩) (q.1.length + 1) cap2) = w7 at HC7 HK7 HO7 ⊢
              clear s0 s1 y0 y1 hl6 hg2 hgl hc2
              have KW7 := Lib.hid (HKW.out w7 HK7.out)
              obtain ⟨s0, s1, y0, y1, hl6⟩ := pair_cells HC7.out
              obtain ⟨d0, d1, d2, d3, d4, d5, d6⟩ := HX.out.keeps0 KW7.out
              have hxl := (HX.out.keeps0 KW7.out).lt
              obtain ⟨bc, oc, rfl, hccell⟩ := (HCS.out.keeps0 KW7.out).cell rfl (by rw [HCL.out]; omega)
              have hc1 := hccell k c HCJ.out
              have hki : (k : Int) < (costs.length : Int) := by rw [HCL.out]; omega
              have HFIN := Lib.hid (show CutAt w3 b5 (q.1 ++ [(k : Int)], min q.2 c) (w7.setCell ⟨b5, 1, none⟩ (.int .i64 (min q.2 c))).drew from
                ⟨_, ((Keeps.refl (fun _ => False) _).drew).heap (pair_set1 HC7.out (.int .i64 (min q.2 c))) (fun h => h), ((Keeps.refl (fun _ => False) _).drew).ownsRow ((keeps_set w7 b5 1 (.int .i64 (min q.2 c))).ownsRow (by
                  have h := HO7.out
                  rw [show (q.1 ++ [(k : Int)], min q.2 c).1.length = q.1.length + 1 by simp, show (q.1 ++ [(k : Int)], min q.2 c).1.map (Value.int .i64) = q.1.map (Value.int .i64) ++ [.int .i64 (k : Int)] by simp]
                  exact h) (fun k hk e => by have := (World.ownsRow.lt HO7.out k hk).1; omega)) (fun _ _ h => h), (HK7.out.trans (keeps_set w7 b5 1 _)).drew⟩)
              clear hccell
              go_region
              all_goals
                go_wp2_with fail
                go_roundw
                case rel => exact ⟨k + 1, by go_num, by omega, by rw [HNE.out]; exact HFIN.out⟩
                case measure => simp [intOf]; omega
          · have HNE := Lib.hid (show cutTo (n : Int) v (zoneT t s costs) (befT t s costs) (t.ops.zip costs) (k + 1) = q by
              rw [HNX.out, if_neg]
              unfold inCut
              have h := HANY.out
              rw [List.take_of_length_le (by omega)] at h
              rw [h, Bool.and_false]; decide)
            go_wp2_with fail
            go_roundw
            case rel => exact ⟨k + 1, by go_num, by omega, by rw [HNE.out]; exact ⟨vy, HCB.out, HCR.out, HCK.out⟩⟩
            case measure => simp [intOf]; omega
    · have hkz : k = t.ops.length := by omega
      rw [hkz, ← HCT.out] at HCB HCR
      obtain ⟨ao3, cap3, hv3⟩ := ownsRow_form1 HCR.out
      subst hv3
      have hrr := HCK.out.heap HR3.out HG5.out.2.2
      obtain ⟨r0, r1, z0, z1, hl5⟩ := pair_cells HCB.out
      obtain ⟨s0, s1, y0, y1, hl6⟩ := pair_cells hrr
      have HFR := Lib.hid (pair_set hrr (.slice ao3 (cutT t s costs).1.length cap3) (.int .i64 (cutT t s costs).2))
      have HFK := Lib.hid (HKA.out.trans' ((KW.out.mono (fun _ _ h => h.elim)).trans (keeps_pair (w := wr) w.heap.size (.slice ao3 (cutT t s costs).1.length cap3) (.int .i64 (cutT t s costs).2))) (fun i hi => .inr (by omega)))
      have HFO := Lib.hid ((keeps_pair (w := wr) w.heap.size (.slice ao3 (cutT t s costs).1.length cap3) (.int .i64 (cutT t s costs).2)).ownsRow HCR.out (fun k hk e => by have := (World.ownsRow.lt HCR.out k hk).1; have := HKB.out.size; have := lt_of_heap HR.out; omega))
      clear hrr
      go_wp2_with fail
      refine bodyPost_ret (results_cell_row rfl _ _ w.heap.size 195 _ (0, 0) _ rfl HFR.out Tryz.underlying195 rfl (by kernel_rfl)) rfl ?_
      exact ⟨_, rfl, ownsRow_mono HFO.out (by have := HKB.out.size; have := HKA.out.size; omega), HFK.out⟩

end Go.Proofs.YtdokakhgflljgaaGreat

namespace Go.Proofs.YtdokakhgflljgaaGreat
open Go.RowKit Go.Shelf

theorem step_append_src {P : Program} {w : World} {ops : Array Oper} {o : Oper} {a : Act} {K : Act → World → Prop} {Q : Exit → Act → World → Prop} {E : Prop} (hgd : o.guard = none) (s x : Operand) (t : TypeId)
    (ho : o.op = .call { callee := .builtin .append, args := #[s, x], argTypes := #[t, t] })
    (base : Nat) (e : TypeId) (i : TypeInfo) (z : Value) (bytes : Nat) (ht : P.underlying t = some (.slice e)) (hi : P.info? e = some i) (hz : i.zero = some z) (hsize : i.size = 1) (hby : i.bytes = bytes) (hzs : z.cells.size = 1)
    (v : Value) (n : Nat) (xs : List Value) (hs : a.eval s = v) (hown : w.ownsRow base e 1 v n xs) (vx : Value) (m : Nat) (news : List Value) (hx : a.eval x = vx) (hsl : Sl w vx m news) (hl : news.length = m) (h1 : ∀ u ∈ news, u.oneCell' = true)
    (h63 : n + m ≤ maxLen) (hbytes : (n + m) * bytes ≤ 140737488355328) (hbase : base ≤ w.heap.size)
    (h : ∀ v' w', w'.ownsRow base e 1 v' (n + m) (xs ++ news) → w.grownBy w' v.ownBlock → K (a.put o.dst v') w') :
    if Region.wanted o (yielded ops a.tmps) = true then Oper.wp P o a w K Q else E := by
  obtain ⟨ao, c, rfl, hm, hc⟩ := hsl
  have hw : Region.wanted o (yielded ops a.tmps) = true := by simp [Region.wanted, hgd]
  rcases Nat.eq_zero_or_pos m with h0 | h0
  · subst h0
    have : news = [] := List.length_eq_zero_iff.1 hl
    subst this
    rw [if_pos hw]
    have hrun := run_appendS_zero (P := P) (w := w) base t o.type e i 1 ht hi v n xs hown ao c
    unfold Oper.wp
    simp [execOp, ho, resolve, invoke, builtin, hs, hx, hrun, Result.andThen]
    exact h v w (by simpa using hown) (grownBy_refl w _)
  · obtain ⟨b, off, rfl, hcell⟩ := hc h0
    exact step_append_lies w hgd s x t ho base e i z 1 bytes ht hi hz hsize hby hzs (by omega) v n xs hs hown ⟨b, off, none⟩ m c news hx (by omega) (fun j u hj => by
      have h := hcell j u hj
      by_cases hj0 : j = 0
      · subst hj0; simpa [Addr.add] using h
      · simpa [Addr.add, hj0] using h) h1 h0 h63 hbytes hbase w.heap.size rfl (fun g cap w' h2 h3 _ _ => h _ w' h2 h3)

end Go.Proofs.YtdokakhgflljgaaGreat

namespace Go.Proofs.YtdokakhgflljgaaGreat
open Go.RowKit Go.Shelf

/-- A slice of ints whose array may be stored into. -/
def CRow (W : World) (gc : Nat) (vc : Value) (l : List Int) : Prop := ∃ ao cap, vc = .slice ao l.length cap ∧ (l.length ≤ maxLen ∧ l.length ≤ cap) ∧ (0 < l.length → ao = some ⟨gc, 0, none⟩ ∧ ∃ cur T, W.heap[gc]? = some (.cells cur T (0, 0)) ∧ ∀ (j : Nat) (x : Int), l[j]? = some x → cur[j]? = some (.int .i64 x))
theorem CRow.ints {W : World} {gc : Nat} {vc : Value} {l : List Int} (h : CRow W gc vc l) : Ints W vc l := by
  obtain ⟨ao, cap, h1, h2, h3⟩ := h
  refine ⟨ao, cap, h1, h2, fun h0 => ?_⟩
  obtain ⟨rfl, cur, T, hb, hc⟩ := h3 h0
  refine ⟨gc, 0, rfl, fun j x hx => ?_⟩
  rw [List.getElem?_map] at hx
  cases hj : l[j]? with
  | none => rw [hj] at hx; cases hx
  | some y => rw [hj] at hx; cases hx; rw [Nat.zero_add, cell_of_blk hb]; exact hc j y hj
theorem CRow.keeps {S : Nat → Prop} {W W' : World} {gc : Nat} {vc : Value} {l : List Int} (h : CRow W gc vc l) (hk : Keeps S W W') (hs : ¬ S gc) : CRow W' gc vc l := by
  obtain ⟨ao, cap, h1, h2, h3⟩ := h
  refine ⟨ao, cap, h1, h2, fun h0 => ?_⟩
  obtain ⟨e, cur, T, hb, hc⟩ := h3 h0
  exact ⟨e, cur, T, hk.heap hb hs, hc⟩
theorem CRow.at {W : World} {gc : Nat} {vc : Value} {l : List Int} (h : CRow W gc vc l) {j : Nat} (hj : j < l.length) : ∃ cap, vc = .slice (some ⟨gc, 0, none⟩) l.length cap ∧ W.cell? ⟨gc, j, none⟩ = some (.int .i64 (getV l (j : Int))) ∧ W.frozen? ⟨gc, j, none⟩ = false ∧ gc < W.heap.size := by
  obtain ⟨ao, cap, h1, h2, h3⟩ := h
  obtain ⟨e, cur, T, hb, hc⟩ := h3 (by omega)
  exact ⟨cap, by rw [h1, e], by rw [cell_of_blk hb]; exact hc j _ (getV_at hj), frozen_of_blk hb, lt_of_heap hb⟩
theorem CRow.set {W : World} {gc : Nat} {vc : Value} {l : List Int} (h : CRow W gc vc l) {j : Nat} (x : Int) (hj : j < l.length) : CRow (W.setCell ⟨gc, j, none⟩ (.int .i64 x)) gc vc (l.set j x) := by
  obtain ⟨ao, cap, h1, h2, h3⟩ := h
  obtain ⟨e, cur, T, hb, hc⟩ := h3 (by omega)
  refine ⟨ao, cap, by rw [List.length_set]; exact h1, by rw [List.length_set]; exact h2, fun _ => ⟨e, cur.setIfInBounds j (.int .i64 x), T, blk_set_same hb _, fun i y hy => ?_⟩⟩
  have hcj := hc j _ (getV_at hj)
  have hjc : j < cur.size := (Array.getElem?_eq_some_iff.1 hcj).1
  rw [List.getElem?_set] at hy
  rw [Array.getElem?_setIfInBounds]
  split at hy
  · rename_i e2
    first | (rw [if_pos hj] at hy; cases hy; rw [if_pos e2, if_pos hjc]) | (cases hy; rw [if_pos e2, if_pos hjc])
  · rename_i e2
    rw [if_neg e2]; exact hc i y hy
theorem CRow.of_own {W : World} {base X : Nat} {v : Value} {l : List Int} (h : W.ownsRow base 3 1 v l.length (l.map (Value.int .i64))) (hb : base ≤ X) (hX : W.heap.size ≤ X) : ∃ gc, CRow W gc v l ∧ base ≤ gc ∧ gc ≠ X := by
  rcases h.2 with ⟨hv, h0⟩ | ⟨g, cap, cur, hv, hb, hg, hn, hm, hs, ht⟩
  · exact ⟨X + 1, ⟨none, 0, by rw [hv, h0], by omega, fun h => by omega⟩, by omega, by omega⟩
  · refine ⟨g, ⟨_, cap, hv, by omega, fun _ => ⟨rfl, cur, _, hg, fun j x hj => ?_⟩⟩, hb, by have := lt_of_heap hg; omega⟩
    have h1 : (l.map (Value.int .i64))[j]? = some (.int .i64 x) := by rw [List.getElem?_map, hj]; rfl
    rw [← ht, List.getElem?_take] at h1
    split at h1
    · simpa using h1
    · cases h1

theorem Tryz.info_cut : (Tryz.prog.info? 195).map (fun i => (i.zero, i.size, i.bytes)) = some (some (.agg #[.slice none 0 0, .int .i64 0]), 2, 32) := by kernel_rfl

theorem cell_set_ne {W : World} {X i j : Nat} {u v : Value} (h : W.cell? ⟨X, i, none⟩ = some u) (hij : j ≠ i) : (W.setCell ⟨X, j, none⟩ v).cell? ⟨X, i, none⟩ = some u :=
  (World.cell?_setCell_other _ _ _ _ (by intro e; injection e with _ e2; exact hij e2)).trans h
/-- The search gets other values. -/
theorem SrchC.put {W : World} {X n : Nat} {vi vg vo vs vc vv : Value} (h : SrchC W X n vi vg vo vs vc vv) (v' : Value) {cur : Array Value} {T : TypeId} (hb : W.heap[X]? = some (.cells cur T (0, 0))) : SrchC (W.setCell ⟨X, 6, none⟩ v') X n vi vg vo vs vc v' := by
  refine ⟨cell_set_ne h.c0 (by decide), cell_set_ne h.c1 (by decide), cell_set_ne h.c2 (by decide), cell_set_ne h.c3 (by decide), cell_set_ne h.c4 (by decide), cell_set_ne h.c5 (by decide), ?_⟩
  have h6 := h.c6
  rw [cell_of_blk hb] at h6
  rw [cell_of_blk (blk_set_same hb _), Array.getElem?_setIfInBounds, if_pos rfl, if_pos (Array.getElem?_eq_some_iff.1 h6).1]

theorem lowC_snoc (ix : List Int) (c : Int) (costs : List Int) (i : Int) : lowC (ix ++ [i]) c costs = (lowC ix c costs).set i.toNat (getV (lowC ix c costs) i - c) := by unfold lowC; rw [List.foldl_append]; rfl

section
variable (w3 : World) (X gc n : Nat) (vi vg vo vs vc : Value) (t : Tsk) (s : List Int) (R : Int)
/-- Between the rounds of Find. -/
def FAt (k : Nat) (v7 v8 : Value) (wr : World) : Prop :=
  ∃ (costs : List Int) (tot : Int) (m : Nat) (xs : List Value) (vv : Value), v8 = .int .i64 tot ∧ CostsOk t costs ∧ CRow wr gc vc costs ∧ SrchC wr X n vi vg vo vs vc vv ∧ payL costs (List.range costs.length) < k ∧ 0 ≤ tot ∧ tot + payL costs (List.range costs.length) ≤ 4000 ∧ cutsT t s k costs tot = R ∧
    wr.ownsRow w3.heap.size 195 2 v7 m xs ∧ (m : Int) ≤ tot ∧ (∃ cur T, wr.heap[X]? = some (.cells cur T (0, 0))) ∧ Keeps (fun b => b = X ∨ b = gc) w3 wr
end

set_option maxRecDepth 100000 in
set_option maxHeartbeats 8000000 in
theorem find_any (w : World) (vi vg vo vs : Value) (t : Tsk) (s : List Int) (h : TaskAt w vi vg vo t) (ok : t.Ok) (hs : Ints w vs s) (hsb : ∀ p ∈ s, 0 ≤ p ∧ p < t.n) :
    Calls Tryz.prog 100 #[.agg #[.int .i64 t.n, vi, vg, vo], vs] w fun e w' => ∃ vx, e = .returned (.tuple #[vx, .int .i64 (cutsT t s (fuelC (costsV t)) (costsV t) 0)]) ∧ Keeps (fun _ => False) w w' := by
  obtain ⟨i0, hi0, hz0, hz1, hz2⟩ := info_parts Tryz.info3
  obtain ⟨j0, hj0, jz0, jz1, jz2⟩ := info_parts Tryz.info_cut
  obtain ⟨ai, ci, h1, _⟩ := h.init.form
  obtain ⟨ag, cg, h2, _⟩ := h.goal.form
  obtain ⟨ao, co, h3, hmo⟩ := h.ops.form
  obtain ⟨a4, cs, h4, hms⟩ := hs.form
  subst h1 h2 h3 h4
  have hn0 : 0 ≤ t.n ∧ t.n ≤ 24 := ⟨by have := ok.n0; omega, ok.n1⟩
  obtain ⟨n, hn⟩ : ∃ n : Nat, t.n = (n : Int) := ⟨t.n.toNat, by omega⟩
  have HNT := Lib.hid (show t.n.toNat = n by omega)
  have hn24 : n ≤ 24 := by omega
  have HN := Lib.hid hn; clear hn
  have HSBn := Lib.hid (show ∀ p ∈ s, 0 ≤ p ∧ p < (n : Int) by have := hsb; rw [HN.out] at this; exact this)
  have HGB := Lib.hid (isSet_iff.1 ok.goal).1
  have hpf := payL_few ok
  have hco := costs_first ok
  have hp0 := payL_low (fun c h => (hco.low c h).1) (List.range (costsV t).length)
  have HFU := Lib.hid (show payL (costsV t) (List.range (costsV t).length) < (fuelC (costsV t) : Nat) by unfold fuelC; omega)
  have HPF := Lib.hid hpf; have HCO := Lib.hid hco
  have K1 := (Keeps.refl (fun _ => False) w).alloc (.cells #[.int .i64 t.n, .slice ai t.init.length ci, .slice ag t.goal.length cg, .slice ao t.ops.length co] 25)
  have HB := Lib.hid (Four.new w (.int .i64 t.n) (.slice ai t.init.length ci) (.slice ag t.goal.length cg) (.slice ao t.ops.length co) 25)
  have HT := Lib.hid (h.keeps0 K1); have HS := Lib.hid (hs.keeps0 K1); have HK1 := Lib.hid K1; have OK := Lib.hid ok; have HSB := Lib.hid hsb
  have hen := enters_of (P := Tryz.prog) Tryz.func92 (by kernel_rfl) rfl
  have HEN := Lib.hid hen
  clear h ok hs hsb K1 hen hpf hco hp0
  generalize hR : cutsT t s (fuelC (costsV t)) (costsV t) 0 = R
  have HR := Lib.hid hR
  clear hR
  go_enter Tryz.func100, Tryz.ntmps100
  go_upto_region 1 with fail
  generalize (w.alloc (.cells #[.int .i64 t.n, .slice ai t.init.length ci, .slice ag t.goal.length cg, .slice ao t.ops.length co] 25)) = w1 at HT HB HK1 HS ⊢
  have KD := (Keeps.refl (fun _ => False) w1).drew
  have HT4 := Lib.hid (HT.out.keeps0 KD); have HB4 := Lib.hid (HB.out.keeps0 KD); have HKD := Lib.hid KD
  obtain ⟨d0, d1, d2, d3⟩ := HB4.out
  have hbx := HB4.out.lt
  clear KD
  go_region_held3 (fun w' => w'.cell? ⟨w.heap.size, 0, none⟩ = some (.int .i64 t.n) ∧ w'.cell? ⟨w.heap.size, 1, none⟩ = some (.slice ai t.init.length ci) ∧ w'.cell? ⟨w.heap.size, 2, none⟩ = some (.slice ag t.goal.length cg) ∧ w'.cell? ⟨w.heap.size, 3, none⟩ = some (.slice ao t.ops.length co))
    (go_keep)
    (first
      | (go_at_call 116; refine (rcost_any _ _ _ _ t HT4.out OK.out).mono ?_; rintro en wa ⟨vc, rfl, hrow, hka⟩; obtain ⟨a5, c5, hv5⟩ := ownsRow_form1 hrow; subst hv5; have HROW := Lib.hid hrow; have HKA := Lib.hid hka; have a0 := hka.cell d0 (fun h => h); have a1 := hka.cell d1 (fun h => h); have a2 := hka.cell d2 (fun h => h); have a3 := hka.cell d3 (fun h => h); clear hrow hka))
  all_goals
    have hX0 := heap_alloc_new wa (.cells #[.int .i64 t.n, .slice ai t.init.length ci, .slice ag t.goal.length cg, .slice ao t.ops.length co, .slice a4 s.length cs, .slice a5 t.ops.length c5, .slice none 0 0] 193)
    have KA := (Keeps.refl (fun _ => False) wa).alloc (.cells #[.int .i64 t.n, .slice ai t.init.length ci, .slice ag t.goal.length cg, .slice ao t.ops.length co, .slice a4 s.length cs, .slice a5 t.ops.length c5, .slice none 0 0] 193)
    have hrow := HROW.out
    have hcl : (costsV t).length = t.ops.length := costsV_len t
    rw [← hcl] at hrow
    obtain ⟨gc, hcr, hgb, hgx⟩ := CRow.of_own (X := wa.heap.size) hrow HKA.out.size (Nat.le_refl _)
    rw [hcl] at hcr
    have HCR := Lib.hid (hcr.keeps KA (fun h => h))
    have HSX := Lib.hid (show SrchC _ wa.heap.size n (.slice ai t.init.length ci) (.slice ag t.goal.length cg) (.slice ao t.ops.length co) (.slice a4 s.length cs) (.slice a5 t.ops.length c5) (.slice none 0 0) from
      ⟨by rw [← HN.out]; exact (cell_of_blk hX0).trans rfl, (cell_of_blk hX0).trans rfl, (cell_of_blk hX0).trans rfl, (cell_of_blk hX0).trans rfl, (cell_of_blk hX0).trans rfl, (cell_of_blk hX0).trans rfl, (cell_of_blk hX0).trans rfl⟩)
    have HK3 := Lib.hid ((HKD.out.trans HKA.out).trans KA)
    have hxs : wa.heap.size < (wa.alloc (.cells #[.int .i64 t.n, .slice ai t.init.length ci, .slice ag t.goal.length cg, .slice ao t.ops.length co, .slice a4 s.length cs, .slice a5 t.ops.length c5, .slice none 0 0] 193)).heap.size := lt_of_heap hX0
    have hwx : w1.heap.size ≤ wa.heap.size := HKA.out.size
    obtain ⟨X, hX⟩ : ∃ X, wa.heap.size = X := ⟨_, rfl⟩
    have HXB := Lib.hid hX0
    rw [hX] at HSX hgx hxs hwx HXB ⊢
    generalize (wa.alloc (.cells #[.int .i64 t.n, .slice ai t.init.length ci, .slice ag t.goal.length cg, .slice ao t.ops.length co, .slice a4 s.length cs, .slice a5 t.ops.length c5, .slice none 0 0] 193)) = w3 at HSX HCR HK3 hxs HXB ⊢
    have HGX := Lib.hid hgx; have HGB2 := Lib.hid (show w1.heap.size ≤ gc from hgb); have HXW := Lib.hid hwx; have HXS := Lib.hid hxs
    clear hX0 KA hrow hcr hgb hgx hX a0 a1 a2 a3 d0 d1 d2 d3 hbx hxs hwx
    have HKW : ∀ wq : World, Keeps (fun b => b = X ∨ b = gc) w3 wq → Keeps (fun _ => False) w1 wq := fun wq hk => HK3.out.trans' hk (fun i hi => .inr (by have := HGB2.out; have := HXW.out; rcases hi with e | e <;> omega))
    replace HKW := Lib.hid HKW
    have HG3 := Lib.hid (show 0 < t.ops.length → gc < w3.heap.size from fun h => (HCR.out.at (j := 0) (by rw [costsV_len]; exact h)).elim fun _ h => h.2.2.2)
    have HBX := Lib.hid (show w.heap.size < w1.heap.size from HB.out.lt)
    go_wp2_with fail
    go_loopg [7, 8] (fuelC (costsV t)) (fun k v7 v8 wr => FAt w3 X gc n (.slice ai t.init.length ci) (.slice ag t.goal.length cg) (.slice ao t.ops.length co) (.slice a4 s.length cs) (.slice a5 t.ops.length c5) t s R k v7 v8 wr)
    case atStart => exact ⟨costsV t, 0, 0, [], _, rfl, HCO.out, HCR.out, HSX.out, HFU.out, Int.le_refl _, by have := HPF.out; omega, HR.out, World.ownsRow_nil _ _ _ _, Int.le_refl _, ⟨_, _, HXB.out⟩, Keeps.refl _ _⟩
    case round =>
      obtain ⟨costs, tot, m, xs, vv, rfl, hco, hcr, hsx, hpk, ht0, ht4, hct, hrow, hmt, hxb, hkp⟩ := hrel
      have HCO := Lib.hid hco; have HCR := Lib.hid hcr; have HSX := Lib.hid hsx; have HPK := Lib.hid hpk; have HT0 := Lib.hid ht0; have HT4' := Lib.hid ht4; have HCT := Lib.hid hct; have HRW := Lib.hid hrow; have HMT := Lib.hid hmt; have HKP := Lib.hid hkp
      obtain ⟨xcur, xT, hxb⟩ := hxb
      have HXB' := Lib.hid hxb
      have KW := Lib.hid (HKW.out wr hkp)
      clear hco hcr hsx hpk ht0 ht4 hct hrow hmt hkp hxb
      have KDr := (Keeps.refl (fun _ => False) wr).drew
      have HTD := Lib.hid ((HT.out.keeps0 KW.out).keeps0 KDr); have HBD := Lib.hid ((HB.out.keeps0 KW.out).keeps0 KDr); have HSD := Lib.hid ((HS.out.keeps0 KW.out).keeps0 KDr)
      have HCD := Lib.hid (HCR.out.keeps KDr (fun h => h)); have HXD := Lib.hid (HSX.out.keeps0 KDr)
      have HKDr := Lib.hid KDr
      obtain ⟨d0, d1, d2, d3⟩ := HBD.out
      have hbx := HBD.out.lt
      obtain ⟨e0, e1, e2, e3, e4, e5, e6⟩ := HXD.out
      have hxl := HXD.out.lt
      have HNG1 : ∀ g, wr.drew.heap.size ≤ g → (Value.slice (some ⟨g, 0, none⟩) t.n.toNat t.n.toNat).ownBlock = some w.heap.size → False := fun g h e => by
        have h2 : g = w.heap.size := by simpa [Value.ownBlock] using e
        have := HBX.out; have := KW.out.size; have h3 : wr.heap.size ≤ g := h; omega
      have HNG2 : ∀ g, wr.drew.heap.size ≤ g → (Value.slice (some ⟨g, 0, none⟩) t.n.toNat t.n.toNat).ownBlock = some X → False := fun g h e => by
        have h2 : g = X := by simpa [Value.ownBlock] using e
        have := HSX.out.lt; have h3 : wr.heap.size ≤ g := h; omega
      have HWX := Lib.hid (show ¬ w.heap.size = X from fun e => by have := HBX.out; have := HXW.out; omega)
      replace HNG1 := Lib.hid HNG1; replace HNG2 := Lib.hid HNG2
      have hnt : t.n.toNat ≤ 24 := by omega
      have KE := ((Keeps.refl (fun _ => False) wr).alloc (.cells #[.int .i64 0] 3)).drew
      have HTE := Lib.hid ((HT.out.keeps0 KW.out).keeps0 KE); have HSE := Lib.hid ((HS.out.keeps0 KW.out).keeps0 KE); have HCE := Lib.hid (HCR.out.keeps KE (fun h => h))
      obtain ⟨E0, E1, E2, E3⟩ := (HB.out.keeps0 KW.out).keeps0 KE
      obtain ⟨_, _, _, _, _, E5, E6⟩ := HSX.out.keeps0 KE
      have HSLE := Lib.hid (show Sl (wr.alloc (.cells #[.int .i64 0] 3)).drew (.slice (some ⟨wr.heap.size, 0, none⟩) 1 1) 1 [.int .i64 0] from Sl.keeps0 ((IArr.new wr [0]).ints (by simp [maxLen])) (Keeps.refl (fun _ => False) _).drew)
      have HKE := Lib.hid KE
      clear KDr KE
      go_upto_region 4 with fail
      go_region_held3 (fun w' => w'.cell? ⟨w.heap.size, 0, none⟩ = some (.int .i64 t.n) ∧ w'.cell? ⟨w.heap.size, 1, none⟩ = some (.slice ai t.init.length ci) ∧ w'.cell? ⟨w.heap.size, 2, none⟩ = some (.slice ag t.goal.length cg) ∧ w'.cell? ⟨w.heap.size, 3, none⟩ = some (.slice ao t.ops.length co) ∧ w'.cell? ⟨X, 5, none⟩ = some (.slice a5 t.ops.length c5))
        (first | go_keep | exact ⟨(keeps_set wB X 6 _).cell B0 HWX.out, (keeps_set wB X 6 _).cell B1 HWX.out, (keeps_set wB X 6 _).cell B2 HWX.out, (keeps_set wB X 6 _).cell B3 HWX.out, (World.cell?_setCell_other _ _ _ _ (by simp)).trans B5⟩ | exact ⟨E0, E1, E2, E3, E5⟩)
        (first
          | (go_at_call 115; refine (values_any 92 greatL HEN.out combF_great comb_great _ _ _ _ _ _ t s costs HTD.out OK.out HSD.out HSB.out HCD.out.ints HCO.out.len (fun c hc => ⟨(HCO.out.low c hc).1, by have := (HCO.out.low c hc).2; omega⟩)).mono ?_; rintro en wv ⟨g, rfl, hia, hgl, hkv⟩; have HIA := Lib.hid hia; have HKV := Lib.hid hkv; have HGL := Lib.hid hgl; have a0 := hkv.cell d0 (fun h => h); have a1 := hkv.cell d1 (fun h => h); have a2 := hkv.cell d2 (fun h => h); have a3 := hkv.cell d3 (fun h => h); have b5 := hkv.cell e5 (fun h => h); have b6 := hkv.cell e6 (fun h => h); have KL := (Keeps.refl (fun _ => False) wv).alloc (.cells #[.int .i64 0] 3); have HKL := Lib.hid KL; have A0 := KL.cell a0 (fun h => h); have A1 := KL.cell a1 (fun h => h); have A2 := KL.cell a2 (fun h => h); have A3 := KL.cell a3 (fun h => h); have A5 := KL.cell b5 (fun h => h); have A6 := KL.cell b6 (fun h => h); have HXL := Lib.hid (KL.heap (hkv.heap (HKDr.out.heap HXB'.out (fun h => h)) (fun h => h)) (fun h => h)); have HOW := Lib.hid (show (wv.alloc (.cells #[.int .i64 0] 3)).ownsRow wr.heap.size 3 1 (.slice (some ⟨g, 0, none⟩) t.n.toNat t.n.toNat) t.n.toNat ((valuesV greatL t costs s).map (Value.int .i64)) from (by have hl := (vals_ok (t := t) (s := s) HCO.out).len; have h := IArr.own (base := wr.heap.size) (hia.keeps KL (fun h => h)) hgl (by rw [hl]; unfold maxLen; omega); rw [hl] at h; exact h)); have HSL := Lib.hid (show Sl (wv.alloc (.cells #[.int .i64 0] 3)) (.slice (some ⟨wv.heap.size, 0, none⟩) 1 1) 1 [.int .i64 0] from (IArr.new wv [0]).ints (by simp [maxLen])); have hbz : wr.heap.size ≤ (wv.alloc (.cells #[.int .i64 0] 3)).heap.size := Nat.le_trans hkv.size KL.size; clear hia hgl hkv KL)
          | (refine step_append_src rfl _ _ _ rfl wr.heap.size 3 i0 _ 8 Tryz.underlying22 hi0 hz0 hz1 hz2 rfl (.slice (some ⟨g, 0, none⟩) t.n.toNat t.n.toNat) t.n.toNat ((valuesV greatL t costs s).map (Value.int .i64)) (by rfl) HOW.out (.slice (some ⟨wv.heap.size, 0, none⟩) 1 1) 1 [.int .i64 0] (by rfl) HSL.out (by rfl) (by simp [Value.oneCell']) (by unfold maxLen; omega) (by omega) hbz ?_; rintro v3 wB hrow3 hgr3; obtain ⟨ao3, cap3, hv3⟩ := ownsRow_form1 hrow3; subst hv3; have KBG : Keeps (fun k => (Value.slice (some ⟨g, 0, none⟩) t.n.toNat t.n.toNat).ownBlock = some k) (wv.alloc (.cells #[.int .i64 0] 3)) wB := (Keeps.refl _ _).grown hgr3 (fun k hk => .inl hk); have B0 := KBG.cell A0 (fun e => HNG1.out g HGL.out e); have B1 := KBG.cell A1 (fun e => HNG1.out g HGL.out e); have B2 := KBG.cell A2 (fun e => HNG1.out g HGL.out e); have B3 := KBG.cell A3 (fun e => HNG1.out g HGL.out e); have B5 := KBG.cell A5 (fun e => HNG2.out g HGL.out e); have B6 := KBG.cell A6 (fun e => HNG2.out g HGL.out e); have HXB2 := Lib.hid (KBG.heap HXL.out (fun e => HNG2.out g HGL.out e)); have bf6 := frozen_of_blk (o := 6) HXB2.out; have HRB := Lib.hid hrow3; have HKB := Lib.hid (((HKDr.out.trans HKV.out).trans HKL.out).trans' KBG (fun i hi => .inr (by have h1 : wr.heap.size ≤ g := HGL.out; have h2 : g = i := (by simpa [Value.ownBlock] using hi); omega))); clear hrow3 hgr3 KBG)
          | (go_at_call 115; refine (values_any 92 greatL HEN.out combF_great comb_great _ _ _ _ _ _ t s costs HTE.out OK.out HSE.out HSB.out HCE.out.ints HCO.out.len (fun c hc => ⟨(HCO.out.low c hc).1, by have := (HCO.out.low c hc).2; omega⟩)).mono ?_; rintro en wv ⟨g, rfl, hia, hgl, hkv⟩; have HGL := Lib.hid (show wr.drew.heap.size ≤ g from Nat.le_trans HKE.out.size hgl); have HKV2 := Lib.hid (HKE.out.trans hkv); have A0 := hkv.cell E0 (fun h => h); have A1 := hkv.cell E1 (fun h => h); have A2 := hkv.cell E2 (fun h => h); have A3 := hkv.cell E3 (fun h => h); have A5 := hkv.cell E5 (fun h => h); have A6 := hkv.cell E6 (fun h => h); have HXL := Lib.hid (hkv.heap (HKE.out.heap HXB'.out (fun h => h)) (fun h => h)); have HOW := Lib.hid (show wv.ownsRow wr.heap.size 3 1 (.slice (some ⟨g, 0, none⟩) t.n.toNat t.n.toNat) t.n.toNat ((valuesV greatL t costs s).map (Value.int .i64)) from (by have hl := (vals_ok (t := t) (s := s) HCO.out).len; have h := IArr.own (base := wr.heap.size) hia HGL.out (by rw [hl]; unfold maxLen; omega); rw [hl] at h; exact h)); have HSL := Lib.hid (show Sl wv (.slice (some ⟨wr.heap.size, 0, none⟩) 1 1) 1 [.int .i64 0] from Sl.keeps0 HSLE.out hkv); have hbz : wr.heap.size ≤ wv.heap.size := HKV2.out.size; clear hia hgl hkv)
          | (refine step_append_src rfl _ _ _ rfl wr.heap.size 3 i0 _ 8 Tryz.underlying22 hi0 hz0 hz1 hz2 rfl (.slice (some ⟨g, 0, none⟩) t.n.toNat t.n.toNat) t.n.toNat ((valuesV greatL t costs s).map (Value.int .i64)) (by rfl) HOW.out (.slice (some ⟨wr.heap.size, 0, none⟩) 1 1) 1 [.int .i64 0] (by rfl) HSL.out (by rfl) (by simp [Value.oneCell']) (by unfold maxLen; omega) (by omega) hbz ?_; rintro v3 wB hrow3 hgr3; obtain ⟨ao3, cap3, hv3⟩ := ownsRow_form1 hrow3; subst hv3; have KBG : Keeps (fun k => (Value.slice (some ⟨g, 0, none⟩) t.n.toNat t.n.toNat).ownBlock = some k) wv wB := (Keeps.refl _ _).grown hgr3 (fun k hk => .inl hk); have B0 := KBG.cell A0 (fun e => HNG1.out g HGL.out e); have B1 := KBG.cell A1 (fun e => HNG1.out g HGL.out e); have B2 := KBG.cell A2 (fun e => HNG1.out g HGL.out e); have B3 := KBG.cell A3 (fun e => HNG1.out g HGL.out e); have B5 := KBG.cell A5 (fun e => HNG2.out g HGL.out e); have B6 := KBG.cell A6 (fun e => HNG2.out g HGL.out e); have HXB2 := Lib.hid (KBG.heap HXL.out (fun e => HNG2.out g HGL.out e)); have bf6 := frozen_of_blk (o := 6) HXB2.out; have HRB := Lib.hid hrow3; have HKB := Lib.hid (HKV2.out.trans' KBG (fun i hi => .inr (by have h1 : wr.heap.size ≤ g := HGL.out; have h2 : g = i := (by simpa [Value.ownBlock] using hi); omega))); clear hrow3 hgr3 KBG))
      all_goals
        have hvl : (valL t s costs).length = t.n.toNat + 1 := by unfold valL; rw [List.length_append, (vals_ok (t := t) (s := s) HCO.out).len]; rfl
        have ks := keeps_set wB X 6 (.slice ao3 (t.n.toNat + 1) cap3)
        have HX6 := Lib.hid ((HSX.out.keeps0 HKB.out).put (.slice ao3 (t.n.toNat + 1) cap3) HXB2.out)
        have HV6 := Lib.hid (show Ints (wB.setCell ⟨X, 6, none⟩ (.slice ao3 (t.n.toNat + 1) cap3)) (.slice ao3 (t.n.toNat + 1) cap3) (valL t s costs) from Ints.of_own (base := wr.heap.size) (e := 3) (by
          have h := ks.ownsRow HRB.out (fun k hk e => by have h1 := (World.ownsRow.lt HRB.out k hk).1; have h2 := HSX.out.lt; have h3 : k = X := e; omega)
          rw [hvl, show (valL t s costs).map (Value.int .i64) = (valuesV greatL t costs s).map (Value.int .i64) ++ [.int .i64 0] by unfold valL; rw [List.map_append] <;> rfl]
          exact h))
        have HC6 := Lib.hid ((HCR.out.keeps HKB.out (fun h => h)).keeps ks HGX.out)
        have HR6 := Lib.hid (ks.ownsRow (HKB.out.ownsRow HRW.out (fun _ _ h => h)) (fun k hk e => by have h1 := (World.ownsRow.lt HRW.out k hk).1; have h2 := HXS.out; have h3 : k = X := e; omega))
        have HP6 := Lib.hid (show Keeps (fun b => b = X ∨ b = gc) w3 (wB.setCell ⟨X, 6, none⟩ (.slice ao3 (t.n.toNat + 1) cap3)) from (HKP.out.trans (HKB.out.mono (fun _ _ h => h.elim))).trans (ks.mono (fun _ _ h => .inl h)))
        have HXB6 := Lib.hid (blk_set_same HXB2.out (.slice ao3 (t.n.toNat + 1) cap3) (o := 6))
        clear d0 d1 d2 d3 hbx e0 e1 e2 e3 e4 e5 e6 hxl E0 E1 E2 E3 E5 E6 A0 A1 A2 A3 A5 A6 B0 B1 B2 B3 B5 B6 bf6 hbz ks
        generalize wB.setCell ⟨X, 6, none⟩ (.slice ao3 (t.n.toNat + 1) cap3) = w6 at HX6 HV6 HC6 HR6 HP6 HXB6 ⊢
        have KW6 := Lib.hid (HKW.out w6 HP6.out)
        have KD6 := (Keeps.refl (fun _ => False) w6).drew
        have HX7 := Lib.hid (HX6.out.keeps0 KD6); have HV7 := Lib.hid (HV6.out.keeps0 KD6); have HC7 := Lib.hid (HC6.out.keeps KD6 (fun h => h)); have HR7 := Lib.hid (KD6.ownsRow HR6.out (fun _ _ h => h)); have HP7 := Lib.hid (HP6.out.trans (KD6.mono (fun _ _ h => h.elim))); have HXB7 := Lib.hid (KD6.heap HXB6.out (fun h => h)); have KW7 := Lib.hid (KW6.out.trans KD6)
        have HB7 := Lib.hid (HB.out.keeps0 KW7.out); have HT7 := Lib.hid (HT.out.keeps0 KW7.out)
        clear KD6 HX6 HV6 HC6 HR6 HP6 HXB6 KW6
        obtain ⟨d0, d1, d2, d3⟩ := HB7.out
        have hbx := HB7.out.lt
        obtain ⟨e0, e1, e2, e3, e4, e5, e6⟩ := HX7.out
        have hxl := HX7.out.lt
        have HLO := Lib.hid (cutIn OK.out HCO.out s).low
        have HGV := Lib.hid (show ∀ p ∈ t.goal, 0 ≤ p ∧ p < ((valL t s costs).length : Int) from fun p hp => by have := HGB.out p hp; rw [hvl]; omega)
        go_upto_region 5 with fail
        go_region_held3 (fun w' => w'.cell? ⟨w.heap.size, 2, none⟩ = some (.slice ag t.goal.length cg) ∧ w'.cell? ⟨X, 6, none⟩ = some (.slice ao3 (t.n.toNat + 1) cap3))
          (go_keep)
          (first | (go_at_call 92; refine (greatest_any _ _ _ (valL t s costs) t.goal HV7.out HT7.out.goal HGV.out HLO.out).mono ?_; rintro en w9 ⟨rfl, rfl⟩))
        all_goals
          have HGL2 := Lib.hid (comb_great (valL t s costs) t.goal HLO.out)
          obtain ⟨G, hG⟩ : ∃ G, greatL (valL t s costs) t.goal = G := ⟨_, rfl⟩
          have HGE := Lib.hid hG
          rw [hG] at HGL2 ⊢
          have hG0 := HGL2.out
          clear hG
          obtain ⟨k', hk'⟩ : ∃ k', gk = k' + 1 := ⟨gk - 1, by have := payL_low (fun c h => (HCO.out.low c h).1) (List.range costs.length); have := HPK.out; omega⟩
          have HCT2 := Lib.hid (show R = if G = 0 then tot else if G = 1000000000 then 1000000000 else cutsT t s k' (lowC (cutT t s costs).1 (cutT t s costs).2 costs) (tot + (cutT t s costs).2) by
            have h := HCT.out
            rw [hk', cutsT, HGE.out] at h
            exact h.symm)
          by_cases h0 : G = 0
          · subst h0
            have HRT := Lib.hid (show R = tot by rw [HCT2.out, if_pos rfl])
            go_wp2_with fail
            go_ret2
            exact ⟨⟨_, by rw [HRT.out] <;> rfl⟩, HK1.out.trans KW7.out⟩
          · by_cases h1 : G = 1000000000
            · subst h1
              have HRT := Lib.hid (show R = 1000000000 by rw [HCT2.out, if_neg h0, if_pos rfl])
              clear h0
              go_wp2_with fail
              go_ret2
              exact ⟨⟨_, by rw [HRT.out] <;> rfl⟩, HK1.out.trans KW7.out⟩
            · have HRT := Lib.hid (show R = cutsT t s k' (lowC (cutT t s costs).1 (cutT t s costs).2 costs) (tot + (cutT t s costs).2) by rw [HCT2.out, if_neg h0, if_neg h1])
              have HRO := Lib.hid (round_ok OK.out HCO.out HSB.out (by rw [HGE.out]; omega) (by rw [HGE.out]; omega))
              have HGP := Lib.hid (show 0 < greatL (valL t s costs) t.goal by rw [HGE.out]; omega)
              have b0 : (G == 0) = false := by simp; omega
              have b1 : (G == 1000000000) = false := by simp; omega
              clear h0 h1
              have HGC := Lib.hid (show gc < w6.drew.heap.size from by
                obtain ⟨ix, hix⟩ := HRO.out.ne
                have hi := HRO.out.inn ix hix
                exact (HC7.out.at (j := ix.toNat) (by have := HCO.out.len; omega)).elim fun _ h => h.2.2.2)
              go_wp2_with fail
              refine (cut_any _ X _ _ _ _ _ _ t n s costs HN.out HX7.out HT7.out OK.out HV7.out (HS.out.keeps0 KW7.out) HSBn.out HC7.out.ints HCO.out HGP.out).mono ?_
              rintro en w8 ⟨vx, rfl, hown, hk8⟩
              obtain ⟨a9, c9, hv9⟩ := ownsRow_form1 hown
              subst hv9
              have HPAY := Lib.hid (low_fuel HCO.out HRO.out)
              have HLOK := Lib.hid (low_ok HCO.out HRO.out)
              generalize cutT t s costs = q at HRT HRO hown HPAY HLOK ⊢
              have KL := (Keeps.refl (fun _ => False) w8).alloc (.cells #[.slice a9 q.1.length c9, .int .i64 q.2] 195)
              have HB9 := Lib.hid (heap_alloc_new w8 (.cells #[.slice a9 q.1.length c9, .int .i64 q.2] 195))
              have KK := hk8.trans KL
              have HX9 := Lib.hid (HX7.out.keeps0 KK); have HC9 := Lib.hid (HC7.out.keeps KK (fun h => h)); have HR9 := Lib.hid (KK.ownsRow HR7.out (fun _ _ h => h)); have HP9 := Lib.hid (HP7.out.trans (KK.mono (fun _ _ h => h.elim))); have HXB9 := Lib.hid (KK.heap HXB7.out (fun h => h)); have KW9 := Lib.hid (KW7.out.trans KK)
              have HO9 := Lib.hid (KL.ownsRow hown (fun _ _ h => h))
              have hb98 : w6.drew.heap.size ≤ w8.heap.size := hk8.size
              obtain ⟨b9, hb9⟩ : ∃ b9, w8.heap.size = b9 := ⟨_, rfl⟩
              clear hk8 KL KK hown d0 d1 d2 d3 hbx e0 e1 e2 e3 e4 e5 e6 hxl b0 b1 hG0
              have hfew : q.1.length ≤ 40 := by have := HRO.out.few; have := OK.out.few; omega
              go_upto_region 11 with fail
              rw [hb9] at HB9 hb98
              generalize (w8.alloc (.cells #[.slice a9 q.1.length c9, .int .i64 q.2] 195)) = w9 at HB9 HX9 HC9 HR9 HP9 HXB9 KW9 HO9 ⊢
              have HBG := Lib.hid (show ¬ b9 = gc from fun e => by have := HGC.out; omega)
              obtain ⟨r0, r1, z0, z1, hl9⟩ := pair_cells HB9.out
              go_wp2_with fail
              clear r0 r1 z0 z1 hl9 hb9
              go_loopw [48] (fun v48 wr' => ∃ i : Nat, v48 = .int .i64 (i : Int) ∧ i ≤ q.1.length ∧ CRow wr' gc (.slice a5 t.ops.length c5) (lowC (q.1.take i) q.2 costs) ∧ Keeps (fun b => b = gc) w9 wr') (fun v48 _ => q.1.length - (intOf v48).toNat)
              case atStart => exact ⟨0, rfl, Nat.zero_le _, HC9.out, Keeps.refl _ _⟩
              case round =>
                obtain ⟨i, rfl, hi, hcr, hkr⟩ := hrel
                have HB9r := Lib.hid (hkr.heap HB9.out HBG.out)
                obtain ⟨r0, r1, z0, z1, hl9⟩ := pair_cells HB9r.out
                by_cases hil : i < q.1.length
                · obtain ⟨ix, hix⟩ : ∃ ix, q.1[i]? = some ix := ⟨_, List.getElem?_eq_getElem hil⟩
                  have hxi := HRO.out.inn ix (List.mem_of_getElem? hix)
                  obtain ⟨jx, rfl⟩ := Int.eq_ofNat_of_zero_le hxi.1
                  have hjl : jx < costs.length := by have := HCO.out.len; omega
                  obtain ⟨l1, l2⟩ := lowC_spec q.2 (q.1.take i) costs (HRO.out.nodup.sublist (List.take_sublist i q.1)) (fun y hy => by have := HRO.out.inn y (List.mem_of_mem_take hy); have := HCO.out.len; omega)
                  have hnot : (jx : Int) ∉ q.1.take i := fun hm => by
                    obtain ⟨j', hj'⟩ := List.mem_iff_getElem?.1 hm
                    rw [List.getElem?_take] at hj'
                    split at hj'
                    · have := (List.getElem?_inj (List.getElem?_eq_some_iff.1 hj').1 HRO.out.nodup).1 (hj'.trans hix.symm)
                      omega
                    · cases hj'
                  have hgv : getV (lowC (q.1.take i) q.2 costs) (jx : Int) = getV costs (jx : Int) := by rw [l2 _ (by omega), if_neg hnot]
                  have hgb : getV costs (jx : Int) ≤ 100 := (HCO.out.low _ (List.mem_of_getElem? (getV_at hjl))).2
                  have HTK := Lib.hid (show lowC (q.1.take (i + 1)) q.2 costs = (lowC (q.1.take i) q.2 costs).set jx (getV costs (jx : Int) - q.2) by rw [take_getS hix, lowC_snoc, hgv, Int.toNat_natCast])
                  obtain ⟨cap, hvc, hc1, hf1, hgl⟩ := hcr.at (j := jx) (by rw [l1]; exact hjl)
                  simp only [Value.slice.injEq] at hvc
                  obtain ⟨rfl, _, _⟩ := hvc
                  rw [hgv] at hc1
                  have hpos := HRO.out.pos
                  have hown := hkr.ownsRow HO9.out (fun k hk e => by have h1 := (World.ownsRow.lt HO9.out k hk).1; have h2 := HGC.out; have h3 : k = gc := e; omega)
                  obtain ⟨b2, o2, rfl, hca⟩ := (Ints.of_own hown).cell rfl (by omega)
                  have hc2 := hca i _ hix
                  have HN2 := Lib.hid (show CRow (wr.setCell ⟨gc, jx, none⟩ (.int .i64 (getV costs (jx : Int) - q.2))) gc (.slice (some ⟨gc, 0, none⟩) t.ops.length c5) (lowC (q.1.take (i + 1)) q.2 costs) by rw [HTK.out]; exact hcr.set _ (by rw [l1]; exact hjl))
                  have HK2 := Lib.hid (hkr.trans (keeps_set wr gc jx (.int .i64 (getV costs (jx : Int) - q.2))))
                  have hsx := HX9.out.keeps hkr (fun e => HGX.out e.symm)
                  have hxl := hsx.lt
                  obtain ⟨e0, e1, e2, e3, e4, e5, e6⟩ := hsx
                  have hjo : (jx : Int) < (t.ops.length : Int) := by omega
                  have hsub : q.2 ≤ getV costs (jx : Int) := hxi.2.2
                  clear hcr hkr hca hown l1 l2 hnot hgv hix hxi
                  generalize getV costs (jx : Int) = y at hc1 hgb hsub HN2 HK2 HTK
                  go_wp2_with fail
                  go_region
                  all_goals
                    go_wp2_with fail
                    go_roundw
                    case rel => exact ⟨i + 1, by go_num, by omega, HN2.out.keeps ((Keeps.refl (fun _ => False) _).drew) (fun h => h), HK2.out.drew⟩
                    case measure => simp [intOf]; omega
                · rw [List.take_of_length_le (by omega)] at hcr
                  have hsx := HX9.out.keeps hkr (fun e => HGX.out e.symm)
                  have hrr := hkr.ownsRow HR9.out (fun k hk e => by
                    have h1 := (World.ownsRow.lt HR9.out k hk).1; have h2 := HGC.out; have h3 : k = gc := e
                    obtain ⟨ix, hix⟩ := HRO.out.ne
                    have hi2 := HRO.out.inn ix hix
                    have h4 := HG3.out (by omega)
                    omega)
                  obtain ⟨a7, c7, hv7⟩ := ownsRow_formN hrr
                  subst hv7
                  have HCRz := Lib.hid hcr; have HSXz := Lib.hid hsx; have HRRz := Lib.hid hrr; have HKRz := Lib.hid hkr
                  have hsz : w3.heap.size ≤ wr.heap.size := Nat.le_trans HP9.out.size hkr.size
                  have hpos := HRO.out.pos
                  have hm4 : (m : Int) ≤ 4000 := by have := HMT.out; have := HT4'.out; have := payL_low (fun c h => (HCO.out.low c h).1) (List.range costs.length); omega
                  have htt : 0 ≤ tot ∧ tot ≤ 4000 := by have := HT0.out; have := HT4'.out; have := payL_low (fun c h => (HCO.out.low c h).1) (List.range costs.length); omega
                  clear hcr hsx hrr hkr
                  go_wp2_with (at_builtin; refine wpList_append_lies _ rfl _ _ _ rfl w3.heap.size 195 j0 _ 2 32 Tryz.underlying149 hj0 jz0 jz1 jz2 rfl (by omega) _ m xs (by rfl) (HRRz.out.alloc _) ⟨wr.heap.size, 0, none⟩ 1 1 [.slice a9 q.1.length c9, .int .i64 q.2] (by rfl) (by rfl) ?hnews ?hone (by omega) (by unfold maxLen; omega) (by omega) (by simp; omega) (wr.heap.size + 1) (by simp) ?_)
                  case hnews => exact World.news_of_block (cs := #[.slice a9 q.1.length c9, .int .i64 q.2]) (t := 195) (fr := (0, 0)) (heap_alloc_new _ _)
                  case hone => simp [Value.oneCell']
                  intro g2 cap2 w5 hown2 hgrow hat hlt3
                  have k5 := ((Keeps.refl (fun b => (Value.slice a7 m c7).ownBlock = some b) wr).alloc (.cells #[.slice a9 q.1.length c9, .int .i64 q.2] 195)).grown hgrow (fun k hk => .inl hk)
                  have hb3 : b9 < wr.heap.size := hl9
                  have kall := (HP9.out.trans (HKRz.out.mono (fun _ _ h => .inr h))).trans' k5 (fun i hi => .inr (HRRz.out.lt i hi).1)
                  have hnb : ∀ k, (Value.slice a7 m c7).ownBlock = some k → w3.heap.size ≤ k := fun k hk => (World.ownsRow.lt HRRz.out k hk).1
                  have hg3 := HG3.out (by obtain ⟨ix, hix⟩ := HRO.out.ne; have hi2 := HRO.out.inn ix hix; omega)
                  have hx3 := HXS.out
                  have hb93 : w3.heap.size ≤ b9 := by have := HP7.out.size; omega
                  have hnb9 : ¬ (Value.slice a7 m c7).ownBlock = some b9 := fun e => by have := (World.ownsRow.lt HR7.out b9 e).2; omega
                  have r0' := k5.cell r0 hnb9
                  have r1' := k5.cell r1 hnb9
                  have hl9' : b9 < w5.heap.size := World.block_lt_of_cell? w5 _ r0'
                  have HCRf := Lib.hid (HCRz.out.keeps k5 (fun e => by have := hnb gc e; omega))
                  have HSXf := Lib.hid (HSXz.out.keeps k5 (fun e => by have := hnb X e; omega))
                  have HXBf := Lib.hid (k5.heap (HKRz.out.heap HXB9.out (fun e => HGX.out e.symm)) (fun e => by have := hnb X e; omega))
                  have HKf := Lib.hid kall; have HOf := Lib.hid hown2
                  have HPAY2 := HPAY.out; have HPK2 := HPK.out; have HT42 := HT4'.out; have HMT2 := HMT.out; have HT02 := HT0.out
                  have HFAT := Lib.hid (show FAt w3 X gc n (.slice ai t.init.length ci) (.slice ag t.goal.length cg) (.slice ao t.ops.length co) (.slice a4 s.length cs) (.slice a5 t.ops.length c5) t s R k' (.slice (some ⟨g2, 0, none⟩) (m + 1) cap2) (.int .i64 (tot + q.2)) w5 from
                    ⟨lowC q.1 q.2 costs, tot + q.2, m + 1, xs ++ [.slice a9 q.1.length c9, .int .i64 q.2], _, rfl, HLOK.out, HCRf.out, HSXf.out, by rw [hk'] at HPK2; omega, by omega, by omega, HRT.out.symm, HOf.out, by omega, ⟨_, _, HXBf.out⟩, HKf.out⟩)
                  clear hown2 hgrow hat k5 kall hnb hg3 hx3 hb93 hnb9 r0 r1 z0 z1 hl9 hb3 HPAY2 HPK2 HT42 HMT2 HT02
                  go_wp2_with fail
                  go_roundg k'
                  case rel => exact HFAT.out
                  case measure => omega

set_option maxRecDepth 100000 in
set_option maxHeartbeats 4000000 in
theorem cuts_any (w : World) (vi vg vo vs : Value) (t : Tsk) (x : Nat) (h : TaskAt w vi vg vo t) (ok : t.Ok) (hg : Good t.n x) (hs : Ints w vs (facts x)) :
    Calls Tryz.prog 79 #[.agg #[.int .i64 t.n, vi, vg, vo], vs] w fun e w' => ∃ vx, e = .returned (.tuple #[vx, .int .i64 (cutsH t x), fltV 0 0]) ∧ Keeps (fun _ => False) w w' := by
  obtain ⟨ai, ci, h1, _⟩ := h.init.form
  obtain ⟨ag, cg, h2, _⟩ := h.goal.form
  obtain ⟨ao, co, h3, hmo⟩ := h.ops.form
  subst h1 h2 h3
  obtain ⟨aa, cs, h4, _⟩ := hs.form
  subst h4
  have HE := Lib.hid (show stateFault t (facts x) = (0, 0) by unfold stateFault; rw [if_pos (taskFault_zero.2 ok), if_pos hg.1])
  have HSB := Lib.hid (isSet_iff.1 hg.1).1
  have K1 := (Keeps.refl (fun _ => False) w).alloc (.cells #[.int .i64 t.n, .slice ai t.init.length ci, .slice ag t.goal.length cg, .slice ao t.ops.length co] 25)
  have KA2 := K1.alloc (.cells #[.int .i64 0, .int .i64 0] 31)
  have HT := Lib.hid (h.keeps0 KA2)
  have HB := Lib.hid ((Four.new w (.int .i64 t.n) (.slice ai t.init.length ci) (.slice ag t.goal.length cg) (.slice ao t.ops.length co) 25).keeps0 ((Keeps.refl _ _).alloc (.cells #[.int .i64 0, .int .i64 0] 31)))
  have HF : Flt w ((w.alloc (.cells #[.int .i64 t.n, .slice ai t.init.length ci, .slice ag t.goal.length cg, .slice ao t.ops.length co] 25)).alloc (.cells #[.int .i64 0, .int .i64 0] 31)) (w.heap.size + 1) 31 :=
    ⟨by have := heap_alloc_new (w.alloc (.cells #[.int .i64 t.n, .slice ai t.init.length ci, .slice ag t.goal.length cg, .slice ao t.ops.length co] 25)) (.cells #[.int .i64 0, .int .i64 0] 31); rwa [World.size_alloc] at this, by omega, KA2⟩
  replace HF := Lib.hid HF
  have HS := Lib.hid (show Ints _ (.slice aa (facts x).length cs) (facts x) from hs.keeps0 KA2)
  have OK := Lib.hid ok
  clear h hs ok hg K1 KA2
  go_enter Tryz.func79, Tryz.ntmps79
  go_upto_region 1 with fail
  generalize ((w.alloc (.cells #[.int .i64 t.n, .slice ai t.init.length ci, .slice ag t.goal.length cg, .slice ao t.ops.length co] 25)).alloc (.cells #[.int .i64 0, .int .i64 0] 31)) = w1 at HT HB HF HS ⊢
  obtain ⟨d0, d1, d2, d3⟩ := HB.out
  have hbx := HB.out.lt
  go_wp2_with fail
  refine (stateFault_any _ _ _ _ _ t (facts x) HT.out HS.out).mono ?_; rintro e w2 ⟨rfl, hk⟩
  rw [HE.out]
  have KA := hk.trans ((Keeps.refl (fun _ => False) w2).alloc (.cells #[.int .i64 0, .int .i64 0] 31))
  have HT3 := Lib.hid (HT.out.keeps0 KA); have HB3 := Lib.hid (HB.out.keeps0 KA); have HF3 := Lib.hid (HF.out.keeps0 KA); have HS3 := Lib.hid (HS.out.keeps0 KA)
  have F0 := Lib.hid (heap_alloc_new w2 (.cells #[.int .i64 0, .int .i64 0] 31))
  clear d0 d1 d2 d3 hbx hk KA HT HB HF HS
  go_upto_region 2 with fail
  generalize (w2.alloc (.cells #[.int .i64 0, .int .i64 0] 31)) = w3 at HT3 HB3 HF3 HS3 F0 ⊢
  generalize w2.heap.size = b9 at F0 ⊢
  obtain ⟨f0, f1, y0, y1, fl⟩ := pair_cells F0.out
  clear y0 y1
  obtain ⟨d0, d1, d2, d3⟩ := HB3.out
  have hbx := HB3.out.lt
  go_wp2_with fail
  refine (find_any _ _ _ _ _ t (facts x) HT3.out OK.out HS3.out HSB.out).mono ?_; rintro en w4 ⟨vx, rfl, hk4⟩
  have HF4 := Lib.hid (HF3.out.keeps0 hk4)
  have HST := Lib.hid (HF4.out.set (.int .i64 0) (.int .i64 0))
  obtain ⟨c0, c1, z0, z1, hF⟩ := HF4.out.cells
  clear d0 d1 d2 d3 hbx f0 f1 fl hk4
  go_wp2_with fail
  refine bodyPost_ret (results_tmp2_cell _ _ (w.heap.size + 1) 31 #[.int .i64 0, .int .i64 0] (0, 0) _ rfl rfl HST.out.1 Tryz.underlying31 rfl (by kernel_rfl)) rfl ?_
  exact ⟨vx, rfl, HST.out.2⟩

end Go.Proofs.YtdokakhgflljgaaGreat

namespace Go.Proofs.YtdokakhgflljgaaGreat
open Go.RowKit

theorem in_true (w : World) (x lo hi : Int) (h : inB x lo hi = true) : Calls Tryz.prog 11 #[.int .i64 x, .int .i64 lo, .int .i64 hi] w fun e w' => e = .returned (.bool true) ∧ w' = w :=
  (in_any w x lo hi).mono fun _ _ k => ⟨by rw [k.1, h], k.2.symm⟩

end Go.Proofs.YtdokakhgflljgaaGreat

namespace Go.Proofs.YtdokakhgflljgaaGreat
open Go.RowKit

set_option maxRecDepth 100000 in
set_option maxHeartbeats 2000000 in
theorem stepsFault_good (w : World) (vp : Value) (p : List Int) (n : Int) (hp : Ints w vp p) (hl : p.length ≤ 60) (hin : ∀ x ∈ p, 0 ≤ x ∧ x < n) (hn : 0 ≤ n ∧ n ≤ 1000000) :
    Calls Tryz.prog 62 #[.int .i64 n, vp] w fun e w' => e = .returned (.agg #[.int .i64 0, .int .i64 0]) ∧ Keeps (fun _ => False) w w' := by
  obtain ⟨ap, cp, h1, hpl⟩ := hp.form
  subst h1
  have K1 := (Keeps.refl (fun _ => False) w).alloc (.cells #[.int .i64 0, .int .i64 0] 31)
  have HF := Lib.hid (show Flt w (w.alloc (.cells #[.int .i64 0, .int .i64 0] 31)) w.heap.size 31 from ⟨heap_alloc_new w _, Nat.le_refl _, K1⟩)
  have HC := Lib.hid ((hp.keeps0 K1).cell rfl)
  have HIN := Lib.hid hin
  clear hp K1 hin
  have hgt : decide (60 < (p.length : Int)) = false := by simp; omega
  go_enter Tryz.func62, Tryz.ntmps62
  go_upto_region 1 with fail
  generalize (w.alloc (.cells #[.int .i64 0, .int .i64 0] 31)) = w1 at HF HC ⊢
  go_wp2_with fail
  go_loopw [5] (fun v5 wr => ∃ i : Nat, i ≤ p.length ∧ v5 = .int .i64 (i : Int) ∧ Keeps (fun _ => False) w1 wr) (fun v5 _ => p.length - (intOf v5).toNat)
  case atStart => exact ⟨0, Nat.zero_le _, rfl, Keeps.refl _ _⟩
  case round =>
    obtain ⟨i, hi, rfl, hkr⟩ := hrel
    have HKR := Lib.hid hkr
    clear hkr
    by_cases hlt : i < p.length
    · obtain ⟨x, hx⟩ : ∃ x, p[i]? = some x := ⟨_, List.getElem?_eq_getElem hlt⟩
      obtain ⟨bp, op, rfl, hpc⟩ := HC.out (by omega)
      have q1 := HKR.out.cell (hpc i x hx) (fun h => h)
      have hxn := HIN.out x (List.mem_of_getElem? hx)
      clear hpc hx
      have hilt : (i : Int) < (p.length : Int) := by omega
      go_wp2_with fail
      refine (in_true _ x 0 (n - 1) (by unfold inB; simp; omega)).mono ?_; rintro e w2 ⟨rfl, hw⟩
      subst hw
      go_wp2_with fail
      go_roundw
      case rel => exact ⟨i + 1, by omega, by go_num, HKR.out⟩
      case measure => simp [intOf]; omega
    · obtain rfl : i = p.length := by omega
      have HF2 := Lib.hid (HF.out.keeps0 HKR.out)
      obtain ⟨e0, e1, z0, z1, hF⟩ := HF2.out.cells
      go_wp2_with fail
      refine bodyPost_ret (results_cell_row rfl _ _ w.heap.size 31 _ (0, 0) _ rfl (HF2.out.set (.int .i64 0) (.int .i64 0)).1 Tryz.underlying31 rfl (by kernel_rfl)) rfl ?_
      exact ⟨rfl, (HF2.out.set (.int .i64 0) (.int .i64 0)).2⟩

theorem run_take {ops : List Wop} : ∀ {q : List Nat} {x y : Nat}, runOps ops x q = some y → ∀ i, i < q.length → ∃ z a o, runOps ops x (q.take i) = some z ∧ q[i]? = some a ∧ ops[a]? = some o ∧ o.can z = true ∧ runOps ops x (q.take (i + 1)) = some (o.next z) := fun {q x y} hr i hi => by
  obtain ⟨z, hz, hd⟩ := run_cut hr i
  obtain ⟨a, ha⟩ : ∃ a, q[i]? = some a := ⟨_, List.getElem?_eq_getElem hi⟩
  rw [drop_getS ha, runOps] at hd
  cases ho : ops[a]? with
  | none => rw [ho] at hd; cases hd
  | some o =>
    rw [ho] at hd; simp only at hd
    by_cases hc : o.can z = true
    · exact ⟨z, a, o, hz, ha, ho, hc, by rw [take_getS ha, runOps_append, hz]; simp [runOps, ho, hc]⟩
    · rw [if_neg hc] at hd; cases hd

set_option maxRecDepth 100000 in
set_option maxHeartbeats 4000000 in
theorem ends_good (w : World) (vi vg vo vs vp : Value) (t : Tsk) (x y : Nat) (q : List Nat) (h : TaskAt w vi vg vo t) (ok : t.Ok) (hs : Ints w vs (facts x)) (hg : Good t.n x) (hp : Ints w vp (intsP q)) (hr : runOps (wordsOf t.ops) x q = some y) (hl : q.length ≤ 100000) :
    Calls Tryz.prog 81 #[.agg #[.int .i64 t.n, vi, vg, vo], vs, vp] w fun e w' => ∃ v, e = .returned (.tuple #[v, .bool true]) ∧ Ints w' v (facts y) ∧ Keeps (fun _ => False) w w' := by
  obtain ⟨ai, ci, h1, _⟩ := h.init.form
  obtain ⟨ag, cg, h2, _⟩ := h.goal.form
  obtain ⟨ao, co, h3, hmo⟩ := h.ops.form
  obtain ⟨ap, cp, h4, hpl⟩ := hp.form
  have hil : (intsP q).length = q.length := by simp [intsP]
  rw [hil] at h4
  subst h1 h2 h3 h4
  have HB := Lib.hid (Four.new w (.int .i64 t.n) (.slice ai t.init.length ci) (.slice ag t.goal.length cg) (.slice ao t.ops.length co) 25)
  have K1 := (Keeps.refl (fun _ => False) w).alloc (.cells #[.int .i64 t.n, .slice ai t.init.length ci, .slice ag t.goal.length cg, .slice ao t.ops.length co] 25)
  have HT := Lib.hid (h.keeps0 K1); have HK := Lib.hid K1; have HS := Lib.hid (hs.keeps0 K1); have HCP := Lib.hid ((hp.keeps0 K1).cell rfl)
  have OK := Lib.hid ok; have HG := Lib.hid hg; have HR := Lib.hid hr; have HIL := Lib.hid hil
  clear h K1 hs hp ok hg hr hil
  go_enter Tryz.func81, Tryz.ntmps81
  go_upto_region 1 with fail
  generalize (w.alloc (.cells #[.int .i64 t.n, .slice ai t.init.length ci, .slice ag t.goal.length cg, .slice ao t.ops.length co] 25)) = w1 at HB HT HK HS HCP ⊢
  generalize w.heap.size = bt at HB ⊢
  go_wp2_with fail
  go_loopw [1, 8] (fun v1 v8 wr => ∃ (i z : Nat), i ≤ q.length ∧ v8 = .int .i64 (i : Int) ∧ runOps (wordsOf t.ops) x (q.take i) = some z ∧ Good t.n z ∧ Ints wr v1 (facts z) ∧ Keeps (fun _ => False) w1 wr) (fun _ v8 _ => q.length - (intOf v8).toNat)
  case atStart => exact ⟨0, x, Nat.zero_le _, rfl, rfl, HG.out, HS.out, Keeps.refl _ _⟩
  case round =>
    obtain ⟨i, z, hi, rfl, hz, hgz, hv, hkr⟩ := hrel
    obtain ⟨av, cv, hvf, _⟩ := hv.form
    subst hvf
    have HV := Lib.hid hv; have HKR := Lib.hid hkr; have HGZ := Lib.hid hgz; have HZ := Lib.hid hz
    clear hv hkr hgz hz
    by_cases hlt : i < q.length
    · obtain ⟨z', a, o, g1, g2, g3, g4, g5⟩ := run_take HR.out i hlt
      obtain rfl : z' = z := by have := g1.symm.trans HZ.out; cases this; rfl
      obtain ⟨o', ho', rfl⟩ : ∃ o', t.ops[a]? = some o' ∧ o'.word = o := by
        unfold wordsOf at g3
        rw [List.getElem?_map] at g3
        obtain ⟨o', h1, h2⟩ := Option.map_eq_some_iff.1 g3
        exact ⟨o', h1, h2⟩
      obtain ⟨hap, haf, hgn⟩ := good_next (by have := OK.out.n1; omega) (OK.out.ops o' (List.mem_of_getElem? ho')) HGZ.out
      rw [g4] at hap
      obtain ⟨bp, op, rfl, hpc⟩ := HCP.out (by rw [HIL.out]; omega)
      have q1 := HKR.out.cell (hpc i (a : Int) (by unfold intsP; rw [List.getElem?_map, g2]; rfl)) (fun h => h)
      have HAP := Lib.hid hap; have HAF := Lib.hid haf; have HGN := Lib.hid hgn; have HOO := Lib.hid ho'; have HNX := Lib.hid g5
      have HBq := Lib.hid (HB.out.keeps0 HKR.out); have HTq := Lib.hid (HT.out.keeps0 HKR.out)
      have hbx := HBq.out.lt
      obtain ⟨d0, d1, d2, d3⟩ := HBq.out
      have hilt : (i : Int) < (q.length : Int) := by omega
      have hi0 : (0 : Int) ≤ (i : Int) := by omega
      clear g1 g2 g3 g4 g5 hpc hap haf hgn ho'
      go_upto_region 4 with fail
      go_still_tail 6, (by kernel_rfl)
      change wpList _ _ _ _ _ wr.drew
      have KD := (Keeps.refl (fun _ => False) wr).drew
      have HTD := Lib.hid (HTq.out.keeps0 KD); have HVD := Lib.hid (show Ints wr.drew (.slice av (facts z').length cv) (facts z') from HV.out.keeps0 KD); have HBD := Lib.hid (HBq.out.keeps0 KD); have KRD := Lib.hid (HKR.out.trans KD)
      have q1 := KD.cell q1 (fun h => h)
      clear KD d0 d1 d2 d3 hbx HBq HTq HV HKR
      generalize wr.drew = w4 at HTD HVD HBD KRD q1 ⊢
      go_wp2_with fail
      refine (applies_any _ _ _ _ _ t (facts z') a o' HTD.out HVD.out HOO.out).mono ?_; rintro en w5 ⟨rfl, hk⟩
      rw [HAP.out]
      have HT5 := Lib.hid (HTD.out.keeps0 hk); have HV5 := Lib.hid (show Ints w5 (.slice av (facts z').length cv) (facts z') from HVD.out.keeps0 hk); have HB5 := Lib.hid (HBD.out.keeps0 hk); have KR5 := Lib.hid (KRD.out.trans hk)
      have q1 := hk.cell q1 (fun h => h)
      clear hk HTD HVD HBD KRD
      have hbx := HB5.out.lt
      obtain ⟨d0, d1, d2, d3⟩ := HB5.out
      go_upto_region 6 with fail
      go_still_tail 6, (by kernel_rfl)
      change wpList _ _ _ _ _ w5.drew
      have KD := (Keeps.refl (fun _ => False) w5).drew
      have HTD := Lib.hid (HT5.out.keeps0 KD); have HVD := Lib.hid (show Ints w5.drew (.slice av (facts z').length cv) (facts z') from HV5.out.keeps0 KD); have KRD := Lib.hid (KR5.out.trans KD)
      clear KD d0 d1 d2 d3 hbx HB5 HT5 HV5 KR5 q1
      generalize w5.drew = w6 at HTD HVD KRD ⊢
      go_wp2_with fail
      refine (after_any _ _ _ _ _ t (facts z') a o' HTD.out HVD.out HOO.out OK.out.n0 (by have := OK.out.n1; omega)).mono ?_; rintro en w7 ⟨v, rfl, hown, hk⟩
      have HV7 := Lib.hid (show Ints w7 v (facts (o'.word.next z')) by have := Ints.of_own hown; rwa [HAF.out] at this)
      have KR7 := Lib.hid (KRD.out.trans hk)
      clear hown hk
      go_wp2_with fail
      go_roundw
      case rel => exact ⟨i + 1, o'.word.next z', by omega, by go_num, HNX.out, HGN.out, HV7.out, KR7.out⟩
      case measure => simp [intOf]; omega
    · obtain rfl : i = q.length := by omega
      have hzy : z = y := by have := HZ.out; rw [List.take_length] at this; have := this.symm.trans HR.out; cases this; rfl
      subst hzy
      go_wp2_with fail
      go_ret2
      exact ⟨_, rfl, HV.out, HK.out.trans HKR.out⟩

set_option maxRecDepth 100000 in
set_option maxHeartbeats 2000000 in
theorem worksR_good (w : World) (vi vg vo vs vp : Value) (t : Tsk) (x y : Nat) (q : List Nat) (h : TaskAt w vi vg vo t) (ok : t.Ok) (hs : Ints w vs (facts x)) (hg : Good t.n x) (hp : Ints w vp (intsP q)) (hr : runOps (wordsOf t.ops) x q = some y) (hl : q.length ≤ 100000) :
    Calls Tryz.prog 63 #[.agg #[.int .i64 t.n, vi, vg, vo], vs, vp] w fun e w' => e = .returned (.bool (goalW t y)) ∧ Keeps (fun _ => False) w w' := by
  obtain ⟨ai, ci, h1, _⟩ := h.init.form
  obtain ⟨ag, cg, h2, _⟩ := h.goal.form
  obtain ⟨ao, co, h3, hmo⟩ := h.ops.form
  subst h1 h2 h3
  have HB := Lib.hid (Four.new w (.int .i64 t.n) (.slice ai t.init.length ci) (.slice ag t.goal.length cg) (.slice ao t.ops.length co) 25)
  have K1 := (Keeps.refl (fun _ => False) w).alloc (.cells #[.int .i64 t.n, .slice ai t.init.length ci, .slice ag t.goal.length cg, .slice ao t.ops.length co] 25)
  have HT := Lib.hid (h.keeps0 K1); have HK := Lib.hid K1; have HS := Lib.hid (hs.keeps0 K1); have HP := Lib.hid (hp.keeps0 K1)
  have OK := Lib.hid ok; have HG := Lib.hid hg; have HR := Lib.hid hr
  clear h K1 hs hp ok hg hr
  go_enter Tryz.func63, Tryz.ntmps63
  go_upto_region 1 with fail
  generalize (w.alloc (.cells #[.int .i64 t.n, .slice ai t.init.length ci, .slice ag t.goal.length cg, .slice ao t.ops.length co] 25)) = w1 at HB HT HK HS HP ⊢
  generalize w.heap.size = bt at HB ⊢
  have hbx := HB.out.lt
  obtain ⟨d0, d1, d2, d3⟩ := HB.out
  go_wp2_with fail
  refine (ends_good _ _ _ _ _ _ t x y q HT.out OK.out HS.out HG.out HP.out HR.out hl).mono ?_; rintro e w2 ⟨v, rfl, hv, hk⟩
  have HB2 := Lib.hid (HB.out.keeps0 hk); have HT2 := Lib.hid (HT.out.keeps0 hk); have K2 := Lib.hid (HK.out.trans hk); have HV := Lib.hid hv
  clear d0 d1 d2 d3 hbx hk hv
  have hbx := HB2.out.lt
  obtain ⟨d0, d1, d2, d3⟩ := HB2.out
  go_wp2_with fail
  refine (subset_goal _ _ _ t y HT2.out.goal HV.out).mono ?_; rintro e w3 ⟨rfl, rfl⟩
  go_wp2_with fail
  go_ret
  exact ⟨rfl, K2.out⟩

set_option maxRecDepth 100000 in
set_option maxHeartbeats 2000000 in
theorem solvesR_good (w : World) (vi vg vo vp : Value) (t : Tsk) (y : Nat) (q : List Nat) (h : TaskAt w vi vg vo t) (ok : t.Ok) (hp : Ints w vp (intsP q)) (hr : runOps (wordsOf t.ops) (wd t.init) q = some y) (hl : q.length ≤ 100000) :
    Calls Tryz.prog 42 #[.agg #[.int .i64 t.n, vi, vg, vo], vp] w fun e w' => e = .returned (.bool (goalW t y)) ∧ Keeps (fun _ => False) w w' := by
  obtain ⟨ai, ci, h1, _⟩ := h.init.form
  obtain ⟨ag, cg, h2, _⟩ := h.goal.form
  obtain ⟨ao, co, h3, hmo⟩ := h.ops.form
  subst h1 h2 h3
  have HB := Lib.hid (Four.new w (.int .i64 t.n) (.slice ai t.init.length ci) (.slice ag t.goal.length cg) (.slice ao t.ops.length co) 25)
  have K1 := (Keeps.refl (fun _ => False) w).alloc (.cells #[.int .i64 t.n, .slice ai t.init.length ci, .slice ag t.goal.length cg, .slice ao t.ops.length co] 25)
  have HT := Lib.hid (h.keeps0 K1); have HK := Lib.hid K1; have HP := Lib.hid (hp.keeps0 K1)
  have OK := Lib.hid ok; have HR := Lib.hid hr
  have HG := Lib.hid (good_wd (by have := ok.n1; omega : t.n ≤ 32) ok.init)
  have hfi : facts (wd t.init) = t.init := facts_wd (isSet_mono ok.init (by have := ok.n1; omega))
  have HFI := Lib.hid hfi
  clear h K1 hp ok hr hfi
  go_enter Tryz.func42, Tryz.ntmps42
  go_upto_region 1 with fail
  generalize (w.alloc (.cells #[.int .i64 t.n, .slice ai t.init.length ci, .slice ag t.goal.length cg, .slice ao t.ops.length co] 25)) = w1 at HB HT HK HP ⊢
  generalize w.heap.size = bt at HB ⊢
  have hbx := HB.out.lt
  obtain ⟨d0, d1, d2, d3⟩ := HB.out
  go_wp2_with fail
  refine (worksR_good _ _ _ _ _ _ t (wd t.init) y q HT.out OK.out (by rw [HFI.out]; exact HT.out.init) HG.out HP.out HR.out hl).mono ?_; rintro e w2 ⟨rfl, hk⟩
  go_wp2_with fail
  go_ret
  exact ⟨rfl, HK.out.trans hk⟩

set_option maxRecDepth 100000 in
set_option maxHeartbeats 2000000 in
theorem planFaultR_good (w : World) (vi vg vo vp : Value) (t : Tsk) (p : List Int) (h : TaskAt w vi vg vo t) (ok : t.Ok) (hp : Ints w vp p) (hl : p.length ≤ 60) (hin : PlanIn t p) :
    Calls Tryz.prog 41 #[.agg #[.int .i64 t.n, vi, vg, vo], vp] w fun e w' => e = .returned (.agg #[.int .i64 0, .int .i64 0]) ∧ Keeps (fun _ => False) w w' := by
  obtain ⟨ai, ci, h1, _⟩ := h.init.form
  obtain ⟨ag, cg, h2, _⟩ := h.goal.form
  obtain ⟨ao, co, h3, hmo⟩ := h.ops.form
  subst h1 h2 h3
  have K1 := (Keeps.refl (fun _ => False) w).alloc (.cells #[.int .i64 t.n, .slice ai t.init.length ci, .slice ag t.goal.length cg, .slice ao t.ops.length co] 25)
  have KA := K1.alloc (.cells #[.int .i64 0, .int .i64 0] 31)
  have HT := Lib.hid (h.keeps0 KA); have HP := Lib.hid (hp.keeps0 KA)
  have HB := Lib.hid ((Four.new w (.int .i64 t.n) (.slice ai t.init.length ci) (.slice ag t.goal.length cg) (.slice ao t.ops.length co) 25).keeps0 ((Keeps.refl _ _).alloc (.cells #[.int .i64 0, .int .i64 0] 31)))
  have HF := Lib.hid (show Flt w ((w.alloc (.cells #[.int .i64 t.n, .slice ai t.init.length ci, .slice ag t.goal.length cg, .slice ao t.ops.length co] 25)).alloc (.cells #[.int .i64 0, .int .i64 0] 31)) (w.heap.size + 1) 31 from
    ⟨by have := heap_alloc_new (w.alloc (.cells #[.int .i64 t.n, .slice ai t.init.length ci, .slice ag t.goal.length cg, .slice ao t.ops.length co] 25)) (.cells #[.int .i64 0, .int .i64 0] 31); rwa [World.size_alloc] at this, by omega, KA⟩)
  have OK := Lib.hid ok; have HIN := Lib.hid hin
  have hfew := ok.few
  clear h K1 KA hp ok hin
  go_enter Tryz.func41, Tryz.ntmps41
  go_upto_region 1 with fail
  generalize ((w.alloc (.cells #[.int .i64 t.n, .slice ai t.init.length ci, .slice ag t.goal.length cg, .slice ao t.ops.length co] 25)).alloc (.cells #[.int .i64 0, .int .i64 0] 31)) = w1 at HB HT HF HP ⊢
  have hbx := HB.out.lt
  obtain ⟨d0, d1, d2, d3⟩ := HB.out
  go_wp2_with fail
  refine (taskFault_any _ _ _ _ t HT.out).mono ?_; rintro e w2 ⟨rfl, hk⟩
  rw [taskFault_ok OK.out]
  have KB := (Keeps.refl (fun _ => False) w2).alloc (.cells #[.int .i64 0, .int .i64 0] 31)
  have HB3 := Lib.hid (HB.out.keeps0 (hk.trans KB)); have HP3 := Lib.hid (HP.out.keeps0 (hk.trans KB)); have HF3 := Lib.hid (HF.out.keeps0 (hk.trans KB))
  have F0 := Lib.hid (heap_alloc_new w2 (.cells #[.int .i64 0, .int .i64 0] 31))
  have hlt2 : w.heap.size + 1 < w2.heap.size := Nat.lt_of_lt_of_le HF.out.cells.2.2.2.2 hk.size
  clear d0 d1 d2 d3 hbx hk KB HB HT HF HP
  go_upto_region 2 with fail
  generalize w2.alloc (.cells #[.int .i64 0, .int .i64 0] 31) = w3 at HB3 HF3 HP3 F0 ⊢
  generalize w2.heap.size = b3 at F0 hlt2 ⊢
  obtain ⟨p0, p1, y0, y1, pl⟩ := pair_cells F0.out
  have hbx := HB3.out.lt
  obtain ⟨d0, d1, d2, d3⟩ := HB3.out
  go_wp2_with fail
  refine (stepsFault_good _ _ p (t.ops.length : Int) HP3.out hl HIN.out (by omega)).mono ?_; rintro e w4 ⟨rfl, hk⟩
  have HF4 := Lib.hid (HF3.out.keeps0 hk)
  have F4 := hk.heap F0.out (fun h => h)
  clear p0 p1 y0 y1 pl d0 d1 d2 d3 hbx hk
  obtain ⟨p0, p1, y0, y1, pl⟩ := pair_cells F4
  obtain ⟨e0, e1, z0, z1, hF⟩ := HF4.out.cells
  have hne : b3 ≠ w.heap.size + 1 := by omega
  have i0 := setCell_id p0
  have i1 := setCell_id p1
  go_wp2_with fail
  refine bodyPost_ret (results_cell_row rfl _ _ (w.heap.size + 1) 31 _ (0, 0) _ rfl (HF4.out.set (.int .i64 0) (.int .i64 0)).1 Tryz.underlying31 rfl (by kernel_rfl)) rfl ?_
  exact ⟨rfl, (HF4.out.set _ _).2⟩

end Go.Proofs.YtdokakhgflljgaaGreat

namespace Go.Proofs.YtdokakhgflljgaaGreat
open Go.RowKit

def noResB (f : Bool) (m : Nat) (c n : Int) : Bool := !f && (m == 0) && (c == 0) && (n == 0)

set_option maxRecDepth 100000 in
set_option maxHeartbeats 1000000 in
theorem noResult_any (w : World) (f : Bool) (ao : Option Addr) (m cap : Nat) (c n : Int) (hm : m ≤ 9223372036854775807) :
    Calls Tryz.prog 12 #[resV f (.slice ao m cap) c n] w fun e w' => e = .returned (.bool (noResB f m c n)) ∧ Keeps (fun _ => False) w w' := by
  have HK := Lib.hid ((Keeps.refl (fun _ => False) w).alloc (.cells #[.bool f, .slice ao m cap, .int .i64 c, .int .i64 n] 29))
  have HX := heap_alloc_new w (.cells #[.bool f, .slice ao m cap, .int .i64 c, .int .i64 n] 29)
  have HE : Hid (noResB f m c n = (!f && (m == 0) && (c == 0) && (n == 0))) := rfl
  unfold resV
  go_enter Tryz.func12, Tryz.ntmps12
  go_upto_region 1 with fail
  generalize w.alloc (.cells #[.bool f, .slice ao m cap, .int .i64 c, .int .i64 n] 29) = w1 at HX HK ⊢
  have s0 : w1.cell? ⟨w.heap.size, 0, none⟩ = some (.bool f) := by rw [cell_of_blk HX]; rfl
  have s1 : w1.cell? ⟨w.heap.size, 1, none⟩ = some (.slice ao m cap) := by rw [cell_of_blk HX]; rfl
  have s2 : w1.cell? ⟨w.heap.size, 2, none⟩ = some (.int .i64 c) := by rw [cell_of_blk HX]; rfl
  have s3 : w1.cell? ⟨w.heap.size, 3, none⟩ = some (.int .i64 n) := by rw [cell_of_blk HX]; rfl
  have hl := lt_of_heap HX
  clear HX
  cases f with
  | true =>
    go_wp2_with fail
    go_ret
    exact ⟨congrArg (fun b => Ending.returned (Value.bool b)) (show false = noResB true m c n by rw [HE.out]; rfl), HK.out⟩
  | false =>
    by_cases h1 : m = 0
    · subst h1
      cases h2 : (c == 0) with
      | true =>
        go_wp2_with fail
        go_ret
        exact ⟨congrArg (fun b => Ending.returned (Value.bool b)) (show (n == 0) = noResB false 0 c n by rw [HE.out, h2]; rfl), HK.out⟩
      | false =>
        go_wp2_with fail
        go_ret
        exact ⟨congrArg (fun b => Ending.returned (Value.bool b)) (show false = noResB false 0 c n by rw [HE.out, h2]; rfl), HK.out⟩
    · have h2 : ((m : Int) == 0) = false := by simp; omega
      go_wp2_with fail
      go_ret
      exact ⟨congrArg (fun b => Ending.returned (Value.bool b)) (show false = noResB false m c n by rw [HE.out]; simp [h1]), HK.out⟩

/-! ### StateFault of the reference -/
end Go.Proofs.YtdokakhgflljgaaGreat

/- isOne at the task step. -/
namespace Go.Proofs.YtdokakhgflljgaaGreat
open Go.RowKit

end Go.Proofs.YtdokakhgflljgaaGreat

namespace Go.Proofs.YtdokakhgflljgaaGreat
open Go.RowKit

theorem costL_is (t : Tsk) : ∀ q : List Nat, costL t (intsP q) = costN (wordsOf t.ops) q
  | [] => rfl
  | a :: r => by
    have h := costL_is t r
    unfold intsP at h ⊢
    rw [List.map_cons, costL, costN, h]
    congr 1
    unfold costAt wordsOf
    rw [List.getElem?_map, Int.toNat_natCast, Option.map_map]
    rfl

theorem goal_reached {t : Tsk} (ok : t.Ok) {q : List Nat} {y : Nat} (hr : runOps (wordsOf t.ops) (wd t.init) q = some y) (ha : goalB (wd t.goal) y = true) : goalW t y = true := by
  rw [goalW_goalB ok (good_reach ok (good_wd (by have := ok.n1; omega) ok.init) (reach_run q .refl hr))]
  exact ha

theorem fld_fault (x y : Value) (W : World) : (Instr.field 31 (.agg #[x, y]) 0).run Tryz.prog W = .ok x W := by kernel_rfl

end Go.Proofs.YtdokakhgflljgaaGreat

namespace Go.Proofs.YtdokakhgflljgaaGreat
open Go.RowKit Go.Shelf

def admK (k : Int) : Bool := decide (k = 0 ∨ k = 1 ∨ k = 4 ∨ k = 5)
/-- The faults of a call with a kind. -/
def kindF (t : Tsk) (b : Bool) : Int × Int := if (taskFault t).1 = 0 then (if b = true then expF t else (4, -8)) else taskFault t
theorem kindF_true (t : Tsk) : kindF t true = expF t := by
  unfold kindF expF
  split <;> simp_all

theorem admissible_any (k : Int) (w : World) : Calls Tryz.prog 44 #[.int .i64 k] w fun e w' => e = .returned (.bool (admK k)) ∧ w = w' := by
  by_cases h0 : k = 0
  · subst h0
    go_enter Tryz.func44, Tryz.ntmps44
    go_wp2_with fail
    go_ret
    exact ⟨rfl, rfl⟩
  · by_cases h1 : k = 1
    · subst h1
      go_enter Tryz.func44, Tryz.ntmps44
      go_wp2_with fail
      go_ret
      exact ⟨rfl, rfl⟩
    · by_cases h4 : k = 4
      · subst h4
        go_enter Tryz.func44, Tryz.ntmps44
        go_wp2_with fail
        go_ret
        exact ⟨rfl, rfl⟩
      · by_cases h5 : k = 5
        · subst h5
          go_enter Tryz.func44, Tryz.ntmps44
          go_wp2_with fail
          go_ret
          exact ⟨rfl, rfl⟩
        · have HR := Lib.hid (show admK k = false by unfold admK; simp [h0, h1, h4, h5])
          have b0 : (k == 0) = false := by simpa using h0
          have b1 : (k == 1) = false := by simpa using h1
          have b4 : (k == 4) = false := by simpa using h4
          have b5 : (k == 5) = false := by simpa using h5
          clear h0 h1 h4 h5
          go_enter Tryz.func44, Tryz.ntmps44
          go_wp2_with fail
          go_ret
          exact ⟨congrArg (fun b => Ending.returned (Value.bool b)) HR.out.symm, rfl⟩

theorem refAdm_any (k : Int) (w : World) : Calls Tryz.prog 21 #[.int .i64 k] w fun e w' => e = .returned (.bool (admK k)) ∧ w = w' := by
  by_cases h0 : k = 0
  · subst h0
    go_enter Tryz.func21, Tryz.ntmps21
    go_wp2_with fail
    go_ret
    exact ⟨rfl, rfl⟩
  · by_cases h1 : k = 1
    · subst h1
      go_enter Tryz.func21, Tryz.ntmps21
      go_wp2_with fail
      go_ret
      exact ⟨rfl, rfl⟩
    · by_cases h4 : k = 4
      · subst h4
        go_enter Tryz.func21, Tryz.ntmps21
        go_wp2_with fail
        go_ret
        exact ⟨rfl, rfl⟩
      · have b0 : (k == 0) = false := by simpa using h0
        have b1 : (k == 1) = false := by simpa using h1
        have b4 : (k == 4) = false := by simpa using h4
        cases h5 : (k == 5) with
        | true =>
          have HR := Lib.hid (show admK k = true by unfold admK; simp at h5; simp [h5])
          clear h0 h1 h4
          go_enter Tryz.func21, Tryz.ntmps21
          go_wp2_with fail
          go_ret
          exact ⟨congrArg (fun b => Ending.returned (Value.bool b)) HR.out.symm, rfl⟩
        | false =>
          have HR := Lib.hid (show admK k = false by unfold admK; simp at h5; simp [h0, h1, h4, h5])
          clear h0 h1 h4
          go_enter Tryz.func21, Tryz.ntmps21
          go_wp2_with fail
          go_ret
          exact ⟨congrArg (fun b => Ending.returned (Value.bool b)) HR.out.symm, rfl⟩

set_option maxRecDepth 100000 in
set_option maxHeartbeats 4000000 in
theorem value4_any (t : Tsk) (ok : t.Ok) (L : List Nat) (hL : ∀ x ∈ L, Good t.n x) : ValC t 4 L (cutsH t) := by
  intro w vi vg vo vs x h hx hs
  obtain ⟨ai, ci, h1, _⟩ := h.init.form
  obtain ⟨ag, cg, h2, _⟩ := h.goal.form
  obtain ⟨ao, co, h3, hmo⟩ := h.ops.form
  subst h1 h2 h3
  have K1 := (Keeps.refl (fun _ => False) w).alloc (.cells #[.int .i64 t.n, .slice ai t.init.length ci, .slice ag t.goal.length cg, .slice ao t.ops.length co] 25)
  have HB := Lib.hid (Four.new w (.int .i64 t.n) (.slice ai t.init.length ci) (.slice ag t.goal.length cg) (.slice ao t.ops.length co) 25)
  have HT := Lib.hid (h.keeps0 K1); have HS := Lib.hid (hs.keeps0 K1); have HK1 := Lib.hid K1
  have OK := Lib.hid ok; have HX := Lib.hid (hL x hx)
  clear h hs K1 ok hL hx
  go_enter Tryz.func59, Tryz.ntmps59
  go_upto_region 20 with fail
  generalize (w.alloc (.cells #[.int .i64 t.n, .slice ai t.init.length ci, .slice ag t.goal.length cg, .slice ao t.ops.length co] 25)) = w1 at HT HB HK1 HS ⊢
  obtain ⟨d0, d1, d2, d3⟩ := HB.out
  have hbx := HB.out.lt
  go_wp2_with fail
  refine (cuts_any _ _ _ _ _ t x HT.out OK.out HX.out HS.out).mono ?_
  rintro e w2 ⟨vx, rfl, hk⟩
  have HK2 := Lib.hid (HK1.out.trans hk)
  unfold fltV
  clear hk d0 d1 d2 d3
  go_wp2_with fail
  go_ret
  exact ⟨rfl, HK2.out.trans ((Keeps.refl (fun _ => False) w2).alloc _)⟩

/-- What Value says of a state. -/
def kindH (t : Tsk) (k : Int) : Nat → Int := if k = 1 then maxH t else if k = 2 then addH t else if k = 4 then cutsH t else if k = 5 then pairsH t else fun _ => 0
/-- What is said at the permitted kinds. -/
theorem says_kind {k : Int} (h : admK k = true) (t : Tsk) : SaysH t k (kindH t k) := fun l ok hx => by
  have hg := good_explored ok hx
  unfold admK at h
  rcases of_decide_eq_true h with rfl | rfl | rfl | rfl
  · have e : kindH t 0 = fun _ => 0 := rfl
    rw [e]
    exact ⟨value0_any t l, ⟨fun x _ => ⟨by decide, by decide⟩, fun x _ p y _ _ => ⟨(costN_bound (ops_cost ok) p).1, by decide⟩⟩⟩
  · exact ⟨value1_any t ok l hg, max_adm ok l⟩
  · exact ⟨value4_any t ok l hg, cuts_adm ok l hg⟩
  · exact ⟨value5_any t ok l hg, pairs_adm ok l hg⟩

end Go.Proofs.YtdokakhgflljgaaGreat

namespace Go.Proofs.YtdokakhgflljgaaGreat
open Go.RowKit Go.Shelf

theorem opsFault_at (n : Int) : ∀ (os : List Opr) (k : Int), 0 ≤ k → (opsFault n k os).1 ≠ 0 → (opsFault n k os).2 ≠ -7
  | [], k, _, h => absurd rfl h
  | o :: r, k, hk, h => by
    unfold opsFault at h ⊢
    split
    · exact opsFault_at n r (k + 1) (by omega) (by rename_i he; rw [if_pos he] at h; exact h)
    · simp only; omega
theorem taskFault_at7 {t : Tsk} (h : (taskFault t).1 ≠ 0) : (taskFault t).2 ≠ -7 := by
  unfold taskFault at h ⊢
  split
  · decide
  · split
    · decide
    · split
      · decide
      · split
        · decide
        · rename_i a b c d
          rw [if_neg a, if_neg b, if_neg c, if_neg d] at h
          exact opsFault_at _ _ _ (Int.le_refl _) h

def NoPost (t : Tsk) (w : World) (e : Ending) (w' : World) : Prop := ∃ pv lv c i, e = .returned (.tuple #[.pointer pv, lv, .agg #[.int .i64 c, .int .i64 i]]) ∧ (c, i) = kindF t false ∧ c ≠ 0 ∧ Keeps (fun _ => False) w w'

set_option maxRecDepth 100000 in
set_option maxHeartbeats 2000000 in
theorem acheckNo_any (w : World) (vi vg vo : Value) (t : Tsk) (h : TaskAt w vi vg vo t) :
    Calls Tryz.prog 29 #[.agg #[.int .i64 t.n, vi, vg, vo], .bool false] w (NoPost t w) := by
  obtain ⟨ai, ci, h1, _⟩ := h.init.form
  obtain ⟨ag, cg, h2, _⟩ := h.goal.form
  obtain ⟨ao, co, h3, hmo⟩ := h.ops.form
  subst h1 h2 h3
  have K1 := (Keeps.refl (fun _ => False) w).alloc (.cells #[.int .i64 t.n, .slice ai t.init.length ci, .slice ag t.goal.length cg, .slice ao t.ops.length co] 25)
  have HT := h.keeps0 (K1.alloc (.cells #[.int .i64 0, .int .i64 0] 31))
  have HB := (Four.new w (.int .i64 t.n) (.slice ai t.init.length ci) (.slice ag t.goal.length cg) (.slice ao t.ops.length co) 25).keeps0 ((Keeps.refl _ _).alloc (.cells #[.int .i64 0, .int .i64 0] 31))
  have HF : Flt w ((w.alloc (.cells #[.int .i64 t.n, .slice ai t.init.length ci, .slice ag t.goal.length cg, .slice ao t.ops.length co] 25)).alloc (.cells #[.int .i64 0, .int .i64 0] 31)) (w.heap.size + 1) 31 :=
    ⟨by have := heap_alloc_new (w.alloc (.cells #[.int .i64 t.n, .slice ai t.init.length ci, .slice ag t.goal.length cg, .slice ao t.ops.length co] 25)) (.cells #[.int .i64 0, .int .i64 0] 31); rwa [World.size_alloc] at this, by omega, K1.alloc _⟩
  replace HT := Lib.hid HT; replace HB := Lib.hid HB; replace HF := Lib.hid HF
  clear h K1
  go_enter Tryz.func29, Tryz.ntmps29
  go_upto_region 1 with fail
  generalize ((w.alloc (.cells #[.int .i64 t.n, .slice ai t.init.length ci, .slice ag t.goal.length cg, .slice ao t.ops.length co] 25)).alloc (.cells #[.int .i64 0, .int .i64 0] 31)) = w1 at HT HB HF ⊢
  have hbx := HB.out.lt
  obtain ⟨d0, d1, d2, d3⟩ := HB.out
  go_wp2_with fail
  refine (checked_any _ _ _ _ t HT.out).mono ?_; rintro e w2 hr
  have hform : (∃ pv lv c i, e = .returned (.tuple #[.pointer pv, lv, .agg #[.int .i64 c, .int .i64 i]]) ∧ ((c ≠ 0 ∧ i ≠ -7 ∧ (c, i) = kindF t false) ∨ (((c = 0 ∧ i = 0) ∨ (c ≠ 0 ∧ i = -7)) ∧ (4, -8) = kindF t false))) := by
    rcases hr.2 with ⟨hc, he⟩ | ⟨hok, hx, he⟩ | ⟨hok, l, hx, b, v, vl, ws, he, _⟩
    · refine ⟨_, _, _, _, he, .inl ⟨hc, taskFault_at7 hc, ?_⟩⟩
      unfold kindF; rw [if_neg hc]
    · refine ⟨_, _, _, _, he, .inr ⟨.inr ⟨by decide, rfl⟩, ?_⟩⟩
      unfold kindF; rw [if_pos (taskFault_zero.2 hok)]; rfl
    · refine ⟨_, _, _, _, he, .inr ⟨.inl ⟨rfl, rfl⟩, ?_⟩⟩
      unfold kindF; rw [if_pos (taskFault_zero.2 hok)]; rfl
  obtain ⟨pv, lv, c, i, rfl, hcase⟩ := hform
  have HC := Lib.hid hcase
  have KA := (Keeps.refl (fun _ => False) w2).alloc (.cells #[.int .i64 c, .int .i64 i] 31)
  have HF3 := Lib.hid (HF.out.keeps0 (hr.1.trans KA))
  have F0 := Lib.hid (heap_alloc_new w2 (.cells #[.int .i64 c, .int .i64 i] 31))
  clear d0 d1 d2 d3 hbx hr KA HT HB HF hcase
  go_upto_region 2 with fail
  generalize w2.alloc (.cells #[.int .i64 c, .int .i64 i] 31) = w3 at HF3 F0 ⊢
  generalize w2.heap.size = b3 at F0 ⊢
  obtain ⟨f0, f1, _, _, fl⟩ := pair_cells F0.out
  obtain ⟨e0, e1, z0, z1, hF⟩ := HF3.out.cells
  rcases HC.out with ⟨hc, hi, hk⟩ | ⟨hci, hk⟩
  · have HK := Lib.hid hk; have HCZ := Lib.hid hc
    have b0 : (c == 0) = false := by simpa using hc
    have b1 : (i == -7) = false := by simpa using hi
    clear hc hi hk
    go_wp2_with fail
    go_region
    all_goals
      go_wp2
      refine bodyPost_ret (results_tmp2_cell _ _ (w.heap.size + 1) 31 #[.int .i64 c, .int .i64 i] (0, 0) _ rfl rfl (((Keeps.refl (fun _ => False) _).drew).heap (HF3.out.set (.int .i64 c) (.int .i64 i)).1 (fun h => h)) Tryz.underlying31 rfl (by kernel_rfl)) rfl ?_
      exact ⟨_, _, c, i, rfl, HK.out, HCZ.out, (HF3.out.set (.int .i64 c) (.int .i64 i)).2.drew⟩
  · have HK := Lib.hid hk
    have HST := Lib.hid (HF3.out.set (.int .i64 4) (.int .i64 (-8)))
    clear hk
    rcases hci with ⟨rfl, rfl⟩ | ⟨hc, rfl⟩
    · go_wp2_with fail
      refine bodyPost_ret (results_tmp2_cell _ _ (w.heap.size + 1) 31 #[.int .i64 4, .int .i64 (-8)] (0, 0) _ rfl rfl HST.out.1 Tryz.underlying31 rfl (by kernel_rfl)) rfl ?_
      exact ⟨_, _, 4, -8, rfl, HK.out, by decide, HST.out.2⟩
    · have b0 : (c == 0) = false := by simpa using hc
      clear hc
      go_wp2_with fail
      refine bodyPost_ret (results_tmp2_cell _ _ (w.heap.size + 1) 31 #[.int .i64 4, .int .i64 (-8)] (0, 0) _ rfl rfl HST.out.1 Tryz.underlying31 rfl (by kernel_rfl)) rfl ?_
      exact ⟨_, _, 4, -8, rfl, HK.out, by decide, HST.out.2⟩

set_option maxRecDepth 100000 in
set_option maxHeartbeats 4000000 in
theorem aplanNo_any (w : World) (vi vg vo : Value) (t : Tsk) (kind : Int) (hK : admK kind = false) (h : TaskAt w vi vg vo t) :
    Calls Tryz.prog 25 #[.agg #[.int .i64 t.n, vi, vg, vo], .int .i64 kind] w fun e w' => ∃ c i, e = .returned (.tuple #[resV false (.slice none 0 0) 0 0, fltV c i]) ∧ (c, i) = kindF t false ∧ c ≠ 0 ∧ Keeps (fun _ => False) w w' := by
  obtain ⟨ai, ci, h1, _⟩ := h.init.form
  obtain ⟨ag, cg, h2, _⟩ := h.goal.form
  obtain ⟨ao, co, h3, hmo⟩ := h.ops.form
  have K1 := (Keeps.refl (fun _ => False) w).alloc (.cells #[.int .i64 t.n, vi, vg, vo] 25)
  have KA := (Keeps.refl (fun _ => False) (w.alloc (.cells #[.int .i64 t.n, vi, vg, vo] 25))).alloc (.cells #[.bool false, .slice none 0 0, .int .i64 0, .int .i64 0] 29)
  have KB := (Keeps.refl (fun _ => False) ((w.alloc (.cells #[.int .i64 t.n, vi, vg, vo] 25)).alloc (.cells #[.bool false, .slice none 0 0, .int .i64 0, .int .i64 0] 29))).alloc (.cells #[.int .i64 0, .int .i64 0] 31)
  have HB := Lib.hid ((Four.new w (.int .i64 t.n) vi vg vo 25).keeps0 (KA.trans KB))
  have hr := KB.heap (heap_alloc_new (w.alloc (.cells #[.int .i64 t.n, vi, vg, vo] 25)) (.cells #[.bool false, .slice none 0 0, .int .i64 0, .int .i64 0] 29)) (fun h => h)
  have hf : Flt w _ _ 31 := ⟨heap_alloc_new ((w.alloc (.cells #[.int .i64 t.n, vi, vg, vo] 25)).alloc (.cells #[.bool false, .slice none 0 0, .int .i64 0, .int .i64 0] 29)) (.cells #[.int .i64 0, .int .i64 0] 31), by simp; omega, K1.trans (KA.trans KB)⟩
  have HT := Lib.hid (h.keeps0 (K1.trans (KA.trans KB)))
  rw [World.size_alloc] at hr hf
  rw [World.size_alloc] at hf
  have HR := Lib.hid (show RFl w _ (w.heap.size + 1) (w.heap.size + 1 + 1) from ⟨hr, hf, by omega, by omega⟩)
  have HAD := Lib.hid hK
  subst h1 h2 h3
  clear h K1 KA KB hr hf hK
  go_enter Tryz.func25, Tryz.ntmps25
  go_upto_region 1 with fail
  generalize ((w.alloc (.cells #[.int .i64 t.n, .slice ai t.init.length ci, .slice ag t.goal.length cg, .slice ao t.ops.length co] 25)).alloc (.cells #[.bool false, .slice none 0 0, .int .i64 0, .int .i64 0] 29)).alloc (.cells #[.int .i64 0, .int .i64 0] 31) = w1 at HB HR HT ⊢
  have KD : Keeps (fun _ => False) w1 w1.drew := (Keeps.refl (fun _ => False) w1).drew
  have KA : Keeps (fun _ => False) w1.drew (w1.alloc (.cells #[.int .i64 0, .int .i64 0] 31)).drew := by
    have h := (Keeps.refl (fun _ => False) w1.drew).alloc (.cells #[.int .i64 0, .int .i64 0] 31)
    exact h
  have HTD := Lib.hid (HT.out.keeps0 KD); have HKD := Lib.hid KD; have HKA := Lib.hid KA
  have HZ8 := Lib.hid (show (w1.alloc (.cells #[.int .i64 0, .int .i64 0] 31)).drew.heap[w1.heap.size]? = some (.cells #[.int .i64 0, .int .i64 0] 31 (0, 0)) from heap_alloc_new w1 _)
  have HB1 := HB.out.keeps0 KD
  have hbx := HB1.lt
  have HBX := Lib.hid (show w.heap.size < w1.heap.size from HB.out.lt)
  obtain ⟨d0, d1, d2, d3⟩ := HB1
  obtain ⟨d0', d1', d2', d3'⟩ := (HB.out.keeps0 KD).keeps0 KA
  clear KD KA
  go_region_held3 (fun w' => w'.cell? ⟨w.heap.size, 0, none⟩ = some (.int .i64 t.n) ∧ w'.cell? ⟨w.heap.size, 1, none⟩ = some (.slice ai t.init.length ci) ∧ w'.cell? ⟨w.heap.size, 2, none⟩ = some (.slice ag t.goal.length cg) ∧ w'.cell? ⟨w.heap.size, 3, none⟩ = some (.slice ao t.ops.length co))
    (first | go_keep | with_reducible exact ⟨(keeps_pair (w := w9) w1.heap.size (.int .i64 fc) (.int .i64 fi)).cell t0 (show ¬ w.heap.size = w1.heap.size by have := HBX.out; omega), (keeps_pair (w := w9) w1.heap.size (.int .i64 fc) (.int .i64 fi)).cell t1 (show ¬ w.heap.size = w1.heap.size by have := HBX.out; omega), (keeps_pair (w := w9) w1.heap.size (.int .i64 fc) (.int .i64 fi)).cell t2 (show ¬ w.heap.size = w1.heap.size by have := HBX.out; omega), (keeps_pair (w := w9) w1.heap.size (.int .i64 fc) (.int .i64 fi)).cell t3 (show ¬ w.heap.size = w1.heap.size by have := HBX.out; omega)⟩)
    (first
      | (go_at_call 44; refine (admissible_any kind _).mono ?_; rintro e wq ⟨rfl, rfl⟩; rw [HAD.out])
      | (go_at_call 29; refine (acheckNo_any _ _ _ _ t HTD.out).mono ?_; rintro e w9 ⟨pv, lv, fc, fi, rfl, hki, hcz, hk⟩; have HKI := Lib.hid hki; have HCZ := Lib.hid hcz; have HK9 := Lib.hid hk; have t0 := hk.cell d0 (fun h => h); have t1 := hk.cell d1 (fun h => h); have t2 := hk.cell d2 (fun h => h); have t3 := hk.cell d3 (fun h => h); clear hk hki hcz)
      | (go_at_call 29; refine (acheckNo_any _ _ _ _ t (HTD.out.keeps0 HKA.out)).mono ?_; rintro e w9 ⟨pv, lv, fc, fi, rfl, hki, hcz, hk⟩; have HKI := Lib.hid hki; have HCZ := Lib.hid hcz; have HK9 := Lib.hid hk; have HZ9 := Lib.hid (hk.heap HZ8.out (fun h => h)); obtain ⟨q0, q1, y0, y1, hl6⟩ := pair_cells HZ9.out; have t0 := hk.cell d0' (fun h => h); have t1 := hk.cell d1' (fun h => h); have t2 := hk.cell d2' (fun h => h); have t3 := hk.cell d3' (fun h => h); clear hk hki hcz))
  all_goals
    first
      | (have HFZ := Lib.hid (pair_set HZ9.out (.int .i64 fc) (.int .i64 fi))
         have HC := Lib.hid (show Keeps (fun _ => False) w1 ((w9.setCell ⟨w1.heap.size, 0, none⟩ (.int .i64 fc)).setCell ⟨w1.heap.size, 1, none⟩ (.int .i64 fi)) from ((HKD.out.trans HKA.out).trans HK9.out).trans' (keeps_pair (w := w9) w1.heap.size (.int .i64 fc) (.int .i64 fi)) (fun k hk => .inr (Nat.le_of_eq hk.symm)))
         clear t0 t1 t2 t3 q0 q1 y0 y1 HZ9 hl6 HK9
         generalize (w9.setCell ⟨w1.heap.size, 0, none⟩ (.int .i64 fc)).setCell ⟨w1.heap.size, 1, none⟩ (.int .i64 fi) = wz at HFZ HC ⊢
         generalize w1.heap.size = b8 at HFZ ⊢)
      | (have HFZ := Lib.hid (heap_alloc_new w9 (.cells #[.int .i64 fc, .int .i64 fi] 31))
         have HC := Lib.hid (show Keeps (fun _ => False) w1 (w9.alloc (.cells #[.int .i64 fc, .int .i64 fi] 31)) from (HKD.out.trans HK9.out).trans ((Keeps.refl (fun _ => False) w9).alloc _))
         clear t0 t1 t2 t3 HK9
         generalize w9.alloc (.cells #[.int .i64 fc, .int .i64 fi] 31) = wz at HFZ HC ⊢
         generalize w9.heap.size = b8 at HFZ ⊢)
  all_goals
    have HR4 := Lib.hid (HR.out.keeps0 HC.out)
    obtain ⟨f0, f1, y0, y1, hlf⟩ := pair_cells HFZ.out
    clear y0 y1 hlf d0 d1 d2 d3 d0' d1' d2' d3' hbx HB HT HR HZ8 HTD HKD HKA
    have hc2 : (fc == 0) = false := by have := HCZ.out; simpa using this
    have HFIN := Lib.hid (HR4.out.fin (.int .i64 fc) (.int .i64 fi))
    obtain ⟨r0, r1, r2, r3, y0, y1, y2, y3, hlR⟩ := HR4.out.cells
    obtain ⟨e0, e1, z0, z1, hF⟩ := HR4.out.flt.cells
    obtain ⟨s0, s1, s2, s3⟩ := HR4.out.ids
    go_wp2_with fail
    go_region
    all_goals
      go_wp2
      refine bodyPost_ret (results_cell_cell _ _ (w.heap.size + 1 + 1) 31 #[.int .i64 fc, .int .i64 fi] (0, 0) _ rfl rfl HFIN.out.2.1 Tryz.underlying31 rfl (by kernel_rfl) rfl HFIN.out.1 Tryz.underlying29 rfl (by kernel_rfl)) rfl ?_
      exact ⟨fc, fi, rfl, HKI.out, HCZ.out, HFIN.out.2.2⟩

/-- What Plan hands back at a kind. -/
def PlanIsK (t : Tsk) (b fnd : Bool) (lp : List Int) (c n fc fi : Int) : Prop := (b = true ∧ BPlanIs t fnd lp c n fc fi) ∨ (b = false ∧ (fc, fi) = kindF t false ∧ fc ≠ 0 ∧ fnd = false ∧ lp = [] ∧ c = 0 ∧ n = 0)
theorem aplanK_any (w : World) (vi vg vo : Value) (t : Tsk) (k : Int) (h : TaskAt w vi vg vo t) :
    Calls Tryz.prog 25 #[.agg #[.int .i64 t.n, vi, vg, vo], .int .i64 k] w fun e w' => Keeps (fun _ => False) w w' ∧ ∃ fnd vp lp c n fc fi, e = .returned (.tuple #[resV fnd vp c n, fltV fc fi]) ∧ Ints w' vp lp ∧ PlanIsK t (admK k) fnd lp c n fc fi ∧ AExp t (kindH t k) fnd lp n := by
  cases hk : admK k with
  | true =>
    refine (aplanH_any w vi vg vo t k _ (fun W => by have h := admissible_any k W; rw [hk] at h; exact h) (says_kind hk t) h).mono ?_
    rintro e w' ⟨h1, fnd, vp, lp, c, n, fc, fi, h2, h3, h4, h5⟩
    exact ⟨h1, fnd, vp, lp, c, n, fc, fi, h2, h3, .inl ⟨rfl, h4⟩, h5⟩
  | false =>
    refine (aplanNo_any w vi vg vo t k hk h).mono ?_
    rintro e w' ⟨c, i, h1, h2, h3, h4⟩
    exact ⟨h4, false, _, [], 0, 0, c, i, h1, Ints.nil _, .inr ⟨rfl, h2, h3, rfl, rfl, rfl, rfl⟩, (fun h => by cases h)⟩

end Go.Proofs.YtdokakhgflljgaaGreat

namespace Go.Proofs.YtdokakhgflljgaaGreat
open Go.RowKit Go.Shelf

theorem store_func {P : Program} {w : World} (a : Addr) (m : Mode) (fn : Fn) (first captured : Array Value) : (store a (.func fn first captured) m).run P w = stored P w a (.func fn first captured) m := run_store P w a _ m rfl
attribute [local go_sem] store_func

end Go.Proofs.YtdokakhgflljgaaGreat
