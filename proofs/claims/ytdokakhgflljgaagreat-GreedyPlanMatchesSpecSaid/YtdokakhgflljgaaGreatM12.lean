/- lmcut: the walk of zone. lmcut: the walk of before. lmcut: the walk of cut. bothends.Plan. lmcut: the walks of Find and Cuts. breadth: the beginnings of the plan are the least ways to the states on its way. No condition beyond what each theorem says. -/
import Derived.Test.YtdokakhgflljgaaGreatM11
import Derived.Test.YtdokakhgflljgaaGreatM7
import Derived.Test.YtdokakhgflljgaaGreatM6
import Derived.Sort.LoopGhostIn
import Derived.Test.YtdokakhgflljgaaGreatM9
import Derived.Test.YtdokakhgflljgaaGreatM10

namespace Go.Proofs.YtdokakhgflljgaaGreat
open Go.RowKit Go.Shelf

theorem BArr.get {W : World} {g : Nat} {z : List Bool} (h : BArr W g z) {j : Nat} (hj : j < z.length) : W.cell? ⟨g, j, none⟩ = some (.bool (getB z (j : Int))) := by
 refine h.cell ?_
 unfold getB; rw [List.getD_eq_getElem?_getD, Int.toNat_natCast, List.getElem?_eq_getElem hj]; rfl
theorem set_again (z : List Bool) (f : Nat) : (z.set f true).set f true = z.set f true := by rw [List.set_set]

section
variable (w3 : World) (g n : Nat) (v goal : List Int) (os : List (Opr × Int)) (z0 z : List Bool)
def ZHead (k : Nat) (v4 : Value) (wr : World) : Prop :=
 ∃ (z : List Bool) (ch : Bool), v4 = .bool ch ∧ ZoneI (n : Int) v (greatL v goal) z ∧ BArr wr g z ∧ Keeps (fun b => b = g) w3 wr ∧ fixG (zoneR (n : Int) v os) (n + 1) z = fixG (zoneR (n : Int) v os) (n + 1) z0 ∧ (ch = false → zoneR (n : Int) v os z = z) ∧ k = 2 * offs z + (if ch = true then 1 else 0)
def ZMid (j : Nat) (v4 : Value) (wr : World) : Prop := ∃ ch : Bool, v4 = .bool ch ∧ BArr wr g (zoneR (n : Int) v (os.take j) z) ∧ Keeps (fun b => b = g) w3 wr ∧ Flag offs z (zoneR (n : Int) v (os.take j) z) ch
def ZAdd (zj : List Bool) (ch : Bool) (f : Nat) (ps : List Int) (v4 : Value) (wr : World) : Prop := v4 = .bool (ps.any (getB zj) || ch) ∧ BArr wr g (if ps.any (getB zj) = true then zj.set f true else zj) ∧ Keeps (fun b => b = g) w3 wr
end
theorem zoneOp_flag {n : Nat} {v : List Int} {os : List (Opr × Int)} (C : CutIn (n : Int) v os) {o : Opr × Int} (ho : o ∈ os) {z : List Bool} (hl : z.length = n + 1) (hc : ¬ 0 < o.2) (hf : getB z (hardI (n : Int) v o.1.pre) = false) :
  zoneOp (n : Int) v o z = (if o.1.add.any (getB z) = true then z.set (hardI (n : Int) v o.1.pre).toNat true else z) ∧ Flag offs z (zoneOp (n : Int) v o z) (o.1.add.any (getB z)) := by
 have e : zoneOp (n : Int) v o z = (if o.1.add.any (getB z) = true then z.set (hardI (n : Int) v o.1.pre).toNat true else z) := by
  unfold zoneOp; rw [if_neg (by rintro (h | h); exact hc h; rw [hf] at h; cases h)]
 refine ⟨e, ?_⟩
 rw [e]
 have hin := hard_in (v := v) C.n0 (C.pre o ho)
 cases h : o.1.add.any (getB z) with
 | false => exact .inl ⟨rfl, by simp⟩
 | true => exact .inr ⟨rfl, by simp only [if_true]; exact offs_set z _ (getB_false (by omega) hf)⟩

set_option maxRecDepth 100000 in
set_option maxHeartbeats 8000000 in
theorem zone_any (w : World) (X : Nat) (vi vg vo vs vc vv : Value) (t : Tsk) (n : Nat) (v costs : List Int) (hn : t.n = (n : Int)) (hX : SrchC w X n vi vg vo vs vc vv) (h : TaskAt w vi vg vo t) (ok : t.Ok) (hv : Ints w vv v) (hl : v.length = n + 1)
  (hcs : Ints w vc costs) (hcl : costs.length = t.ops.length) (C : CutIn (n : Int) v (t.ops.zip costs)) :
  Calls Tryz.prog 130 #[.pointer (some ⟨X, 0, none⟩)] w fun e w' => ∃ g, e = .returned (.slice (some ⟨g, 0, none⟩) (n + 1) (n + 1)) ∧ BArr w' g (zoneV (n : Int) v (t.ops.zip costs) t.goal) ∧ w.heap.size ≤ g ∧ Keeps (fun _ => False) w w' := by
 obtain ⟨ai, ci, h1, _⟩ := h.init.form
 obtain ⟨ag, cg, h2, _⟩ := h.goal.form
 obtain ⟨ao, co, h3, hmo⟩ := h.ops.form
 obtain ⟨ac, cc, h4, hmc⟩ := hcs.form
 subst h1 h2 h3 h4
 have hn24 : n ≤ 24 := by have := ok.n1; omega
 have HX := Lib.hid hX; have HT := Lib.hid h; have OK := Lib.hid ok; have HV := Lib.hid hv; have HL := Lib.hid hl; have HCS := Lib.hid hcs; have HCL := Lib.hid hcl; have HC := Lib.hid C
 have HGB := Lib.hid (show ∀ p ∈ t.goal, 0 ≤ p ∧ p < (n : Int) by have := (isSet_iff.1 ok.goal).1; rw [hn] at this; exact this)
 obtain ⟨d0, d1, d2, d3, d4, d5, d6⟩ := hX
 have hxl := HX.out.lt
 have hmk := run_make_bools w ((n : Int) + 1) (n + 1) (by omega) (by omega)
 clear h ok hv hl hcs hcl C hn
 go_enter Tryz.func130, Tryz.ntmps130
 go_upto_region 2 with fail
 have KM := (Keeps.refl (fun _ => False) w).alloc (.cells (Array.replicate (n + 1) (Value.bool false)) 4)
 have HA := Lib.hid (BArr.falses w (n + 1))
 have HK1 := Lib.hid KM
 obtain ⟨g, hg⟩ : ∃ g, w.heap.size = g := ⟨_, rfl⟩
 have HG := Lib.hid hg
 rw [hg] at HA ⊢
 generalize (w.alloc (.cells (Array.replicate (n + 1) (Value.bool false)) 4)) = w1 at HA HK1 ⊢
 clear d0 d1 d2 d3 d4 d5 d6 hxl hmk KM hg
 have hxl := (HX.out.keeps0 HK1.out).lt
 obtain ⟨d0, d1, d2, d3, d4, d5, d6⟩ := HX.out.keeps0 HK1.out
 go_wp2_with fail
 refine (hardest_any w1 X n _ _ _ _ _ vv _ v t.goal (HX.out.keeps0 HK1.out) (HV.out.keeps0 HK1.out) HL.out (HT.out.goal.keeps0 HK1.out) HGB.out).mono ?_
 rintro e w2 ⟨rfl, hk2⟩
 have HK2 := Lib.hid (HK1.out.trans hk2)
 have HA2 := Lib.hid (HA.out.keeps hk2 (fun h => h))
 have hin := hard_in (n := (n : Int)) (v := v) (ps := t.goal) (by omega) HGB.out
 have HZ0 := Lib.hid (zone0_ok HC.out HGB.out)
 have HZV := Lib.hid (show zoneV (n : Int) v (t.ops.zip costs) t.goal = fixG (zoneR (n : Int) v (t.ops.zip costs)) (n + 1) (zone0 (n : Int) v t.goal) by unfold zoneV; rw [Int.toNat_natCast])
 have HZE := Lib.hid (show zone0 (n : Int) v t.goal = (List.replicate (n + 1) false).set (hardI (n : Int) v t.goal).toNat true by unfold zone0; rw [Int.toNat_natCast])
 obtain ⟨j, hj⟩ : ∃ j : Nat, hardI (n : Int) v t.goal = (j : Int) := ⟨(hardI (n : Int) v t.goal).toNat, by omega⟩
 rw [hj] at HZE hin ⊢
 have hja := HA2.out.get (j := j) (by rw [List.length_replicate]; omega)
 have hjf := HA2.out.frozen j
 have hjl := HA2.out.lt
 have hji : (j : Int) < ((n : Int) + 1) := by omega
 have hji2 : (j : Int) < ((n + 1 : Nat) : Int) := by omega
 have HA3 := Lib.hid (show BArr (w2.setCell ⟨g, j, none⟩ (.bool true)) g (zone0 (n : Int) v t.goal) by rw [HZE.out, Int.toNat_natCast]; exact HA2.out.set j true)
 have HK3 := Lib.hid (show Keeps (fun _ => False) w (w2.setCell ⟨g, j, none⟩ (.bool true)) from HK2.out.trans' (keeps_set w2 g j _) (fun i hi => .inr (by have := HG.out; omega)))
 clear d0 d1 d2 d3 d4 d5 d6 hk2 hin hj hxl
 go_upto_region 3 with fail
 generalize w2.setCell ⟨g, j, none⟩ (.bool true) = w3 at HA3 HK3 ⊢
 clear hja hjf hjl hji hji2
 generalize zone0 (n : Int) v t.goal = z0 at HZ0 HZV HA3
 go_wp2_with fail
 have HKW : ∀ wq : World, Keeps (fun b => b = g) w3 wq → Keeps (fun _ => False) w wq := fun wq hk => HK3.out.trans' hk (fun i hi => .inr (by have := HG.out; omega))
 replace HKW := Lib.hid HKW
 have HOK := Lib.hid (zoneR_ok (g := greatL v t.goal) HC.out (fun o ho => ho))
 have HXG := Lib.hid (show ¬ X = g from fun e => by have := HX.out.lt; have := HG.out; omega)
 go_loopg [4] (2 * offs z0 + 1) (fun k v4 wr => ZHead w3 g n v t.goal (t.ops.zip costs) z0 k v4 wr)
 case atStart => exact ⟨z0, true, rfl, HZ0.out.1, HA3.out, Keeps.refl _ _, rfl, (fun h => by cases h), by rw [if_pos rfl]⟩
 case round =>
  obtain ⟨z, ch, rfl, hzi, hza, hkp, hfx, hst, hgk⟩ := hrel
  have HZI := Lib.hid hzi; have HZA := Lib.hid hza; have HKP := Lib.hid hkp; have HFX := Lib.hid hfx; have HST := Lib.hid hst; have HGK := Lib.hid hgk
  have HKR := Lib.hid (HKW.out wr hkp)
  clear hzi hza hkp hfx hst hgk
  cases ch with
  | false =>
   go_wp2_with fail
   go_ret
   refine ⟨g, rfl, ?_, by have := HG.out; omega, HKR.out⟩
   have e : zoneV (n : Int) v (t.ops.zip costs) t.goal = z := by
    rw [HZV.out, ← HFX.out]
    exact fixG_done (HST.out (by first | rfl | trivial)) _
   rw [e]; exact HZA.out
  | true =>
   obtain ⟨d0, d1, d2, d3, d4, d5, d6⟩ := HX.out.keeps0 HKR.out
   have hxl := (HX.out.keeps0 HKR.out).lt
   go_wp2_with fail
   clear d0 d1 d2 d3 d4 d5 d6 hxl
   go_loopw [4, 33] (fun v4 v33 wr' => ∃ j : Nat, v33 = .int .i64 (j : Int) ∧ j ≤ t.ops.length ∧ ZMid w3 g n v (t.ops.zip costs) z j v4 wr') (fun _ v33 _ => t.ops.length - (intOf v33).toNat)
   case atStart => exact ⟨0, rfl, Nat.zero_le _, false, rfl, HZA.out, HKP.out, .inl ⟨rfl, rfl⟩⟩
   case round =>
    obtain ⟨j, rfl, hj, ch, rfl, hma, hmk, hms⟩ := hrel
    by_cases hjl : j < t.ops.length
    ·have HMA := Lib.hid hma; have HMK := Lib.hid hmk; have HMS := Lib.hid hms
     have KW2 := Lib.hid (HKW.out wr hmk)
     clear hma hmk hms
     obtain ⟨bo, oo, rfl, hcell⟩ := HT.out.ops.cell rfl (by omega)
     obtain ⟨o, ho⟩ : ∃ o, t.ops[j]? = some o := ⟨_, List.getElem?_eq_getElem hjl⟩
     obtain ⟨va, vb, vd, p0', p1', p2', p3', i1, i2, i3⟩ := hcell j o ho
     have p0 := KW2.out.cell p0' (fun h => h); have p1 := KW2.out.cell p1' (fun h => h); have p2 := KW2.out.cell p2' (fun h => h); have p3 := KW2.out.cell p3' (fun h => h)
     clear p0' p1' p2' p3'
     obtain ⟨a1, k1, f1, _⟩ := i1.form
     obtain ⟨a2, k3, f2, _⟩ := i2.form
     obtain ⟨a3, k4, f3, _⟩ := i3.form
     subst f1 f2 f3
     have I1 := Lib.hid i1; have I2 := Lib.hid i2
     obtain ⟨c, hcj⟩ : ∃ c, costs[j]? = some c := ⟨_, List.getElem?_eq_getElem (by rw [HCL.out]; exact hjl)⟩
     have HZJ := Lib.hid (show (t.ops.zip costs)[j]? = some (o, c) by rw [List.getElem?_zip_eq_some]; exact ⟨ho, hcj⟩)
     have HMO := Lib.hid (List.mem_of_getElem? HZJ.out)
     have HCJ := Lib.hid hcj
     have HNX := Lib.hid (show zoneR (n : Int) v ((t.ops.zip costs).take (j + 1)) z = zoneOp (n : Int) v (o, c) (zoneR (n : Int) v ((t.ops.zip costs).take j) z) by rw [take_getS HZJ.out, zoneR_snoc])
     have HLJ := Lib.hid (show (zoneR (n : Int) v ((t.ops.zip costs).take j) z).length = n + 1 by
      have h := (zoneR_ok (g := greatL v t.goal) HC.out (xs := (t.ops.zip costs).take j) (fun o ho => List.mem_of_mem_take ho) z HZI.out).1.1
      rw [Int.toNat_natCast] at h; exact h)
     have K4 := (Keeps.refl (fun _ => False) wr).alloc (.cells #[.slice a1 o.pre.length k1, .slice a2 o.add.length k3, .slice a3 o.del.length k4, .int .i64 o.cost] 80)
     have HO4 := Lib.hid (Four.new wr (.slice a1 o.pre.length k1) (.slice a2 o.add.length k3) (.slice a3 o.del.length k4) (.int .i64 o.cost) 80)
     have HMA4 := Lib.hid (HMA.out.keeps K4 (fun h => h)); have HMK4 := Lib.hid (HMK.out.trans (K4.mono (fun _ _ h => h.elim))); have KW4 := Lib.hid (KW2.out.trans K4)
     have hgl : g < wr.heap.size := HMA.out.lt
     clear hcell ho i1 i2 i3 K4 HMA HMK hcj
     go_upto_region 9 with fail
     generalize hw4 : (wr.alloc (.cells #[.slice a1 o.pre.length k1, .slice a2 o.add.length k3, .slice a3 o.del.length k4, .int .i64 o.cost] 80)) = w4 at HMA4 HMK4 HO4 KW4 ⊢
     clear p0 p1 p2 p3 hw4
     obtain ⟨b4, hb4⟩ : ∃ b4, wr.heap.size = b4 := ⟨_, rfl⟩
     rw [hb4] at HO4 hgl ⊢
     have HB4 := Lib.hid (show ¬ b4 = g by omega)
     clear hb4 hgl
     generalize zoneR (n : Int) v ((t.ops.zip costs).take j) z = zj at HMA4 HMS HNX HLJ ⊢
     obtain ⟨q0, q1, q2, q3⟩ := HO4.out
     have hq4 := HO4.out.lt
     go_wp2_with fail
     refine (hardest_any w4 X n _ _ _ _ _ vv _ v o.pre (HX.out.keeps0 KW4.out) (HV.out.keeps0 KW4.out) HL.out (I1.out.keeps0 KW4.out) (HC.out.pre _ HMO.out)).mono ?_
     rintro e w5 ⟨rfl, hk5⟩
     have KW5 := Lib.hid (KW4.out.trans hk5)
     have HMA5 := Lib.hid (HMA4.out.keeps hk5 (fun h => h)); have HMK5 := Lib.hid (HMK4.out.trans (hk5.mono (fun _ _ h => h.elim))); have HO5 := Lib.hid (HO4.out.keeps0 hk5)
     have hin := hard_in (n := (n : Int)) (v := v) (ps := o.pre) (by omega) (HC.out.pre _ HMO.out)
     obtain ⟨f, hf⟩ : ∃ f : Nat, hardI (n : Int) v o.pre = (f : Int) := ⟨(hardI (n : Int) v o.pre).toNat, by omega⟩
     have HF := Lib.hid hf
     rw [hf] at hin ⊢
     have hfn : f < n + 1 := by omega
     clear hf hk5 HMA4 HMK4 HO4 q0 q1 q2 q3 hq4
     obtain ⟨d0, d1, d2, d3, d4, d5, d6⟩ := HX.out.keeps0 KW5.out
     have hxl := (HX.out.keeps0 KW5.out).lt
     obtain ⟨bc, oc, rfl, hccell⟩ := (HCS.out.keeps0 KW5.out).cell rfl (by rw [HCL.out]; omega)
     have hc1 := hccell j c HCJ.out
     have hji : (j : Int) < (costs.length : Int) := by rw [HCL.out]; omega
     have hfi : (f : Int) < ((n + 1 : Nat) : Int) := by omega
     have hg1 := HMA5.out.get (j := f) (by rw [HLJ.out]; omega)
     have hgl5 := HMA5.out.lt
     clear hccell hin
     by_cases hpos : 0 < c
     ·have hd : decide (0 < c) = true := by simpa using hpos
      have HNE := Lib.hid (show zoneR (n : Int) v ((t.ops.zip costs).take (j + 1)) z = zj by rw [HNX.out]; unfold zoneOp; rw [if_pos (.inl hpos)])
      clear hpos
      go_wp2_with fail
      go_roundw
      case rel => exact ⟨j + 1, by go_num, by omega, ch, rfl, by rw [HNE.out]; exact HMA5.out, HMK5.out, by rw [HNE.out]; exact HMS.out⟩
      case measure => simp [intOf]; omega
     ·have hd : decide (0 < c) = false := by simpa using hpos
      have HPOS := Lib.hid hpos
      clear hpos
      cases hb : getB zj (f : Int) with
      | true =>
       rw [hb] at hg1
       have HNE := Lib.hid (show zoneR (n : Int) v ((t.ops.zip costs).take (j + 1)) z = zj by rw [HNX.out]; unfold zoneOp; rw [if_pos (.inr (by rw [HF.out]; exact hb))])
       clear hb
       go_wp2_with fail
       go_roundw
       case rel => exact ⟨j + 1, by go_num, by omega, ch, rfl, by rw [HNE.out]; exact HMA5.out, HMK5.out, by rw [HNE.out]; exact HMS.out⟩
       case measure => simp [intOf]; omega
      | false =>
       rw [hb] at hg1
       obtain ⟨u1, u2⟩ := zoneOp_flag HC.out HMO.out (z := zj) HLJ.out HPOS.out (by rw [HF.out]; exact hb)
       rw [← HNX.out, HF.out, Int.toNat_natCast] at u1
       rw [← HNX.out] at u2
       have HU1 := Lib.hid u1; have HU2 := Lib.hid u2
       obtain ⟨q0, q1, q2, q3⟩ := HO5.out
       have hq5 := HO5.out.lt
       clear u1 u2 hb
       go_wp2_with fail
       clear q0 q1 q2 q3 hq5 d0 d1 d2 d3 d4 d5 d6 hxl hc1 hg1 hgl5
       go_loopw [4, 59] (fun v4 v59 wr' => ∃ i : Nat, v59 = .int .i64 (i : Int) ∧ i ≤ o.add.length ∧ ZAdd w3 g zj ch f (o.add.take i) v4 wr') (fun _ v59 _ => o.add.length - (intOf v59).toNat)
       case atStart => exact ⟨0, rfl, Nat.zero_le _, rfl, HMA5.out, HMK5.out⟩
       case round =>
        obtain ⟨i, rfl, hi, rfl, hba, hbk⟩ := hrel
        have KW6 := Lib.hid (HKW.out wr hbk)
        have HBK := Lib.hid hbk
        by_cases hil : i < o.add.length
        ·obtain ⟨b2, o2, rfl, hca⟩ := (I2.out.keeps0 KW6.out).cell rfl (by omega)
         obtain ⟨p, hp⟩ : ∃ p, o.add[i]? = some p := ⟨_, List.getElem?_eq_getElem hil⟩
         have hpb := HC.out.add _ HMO.out p (List.mem_of_getElem? hp)
         obtain ⟨p, rfl⟩ := Int.eq_ofNat_of_zero_le hpb.1
         have hc2 := hca i _ hp
         have hpi : (p : Int) < ((n + 1 : Nat) : Int) := by omega
         have HTK := Lib.hid (show (o.add.take (i + 1)).any (getB zj) = ((o.add.take i).any (getB zj) || getB zj (p : Int)) by rw [take_getS hp, List.any_append]; simp)
         have hlt := hba.lt
         have hff := hba.frozen f
         clear hca hp hpb hbk
         generalize (o.add.take i).any (getB zj) = bb at hba HTK ⊢
         cases bb with
         | false =>
          have hba' : BArr wr g zj := by simpa using hba
          have hg2 := hba'.get (j := p) (by rw [HLJ.out]; omega)
          have hg3 := hba'.get (j := f) (by rw [HLJ.out]; omega)
          have HBA := Lib.hid hba'
          clear hba hba'
          cases hz : getB zj (p : Int) with
          | true =>
           rw [hz] at hg2
           rw [hz] at HTK
           clear hz
           generalize getB zj (f : Int) = bf at hg3
           go_wp2_with fail
           go_roundw
           case rel => exact ⟨i + 1, by go_num, by omega, by rw [HTK.out] <;> rfl, by rw [HTK.out]; exact HBA.out.set f true, HBK.out.trans (keeps_set _ _ _ _)⟩
           case measure => simp [intOf]; omega
          | false =>
           rw [hz] at hg2
           rw [hz] at HTK
           clear hz
           go_wp2_with fail
           go_roundw
           case rel => exact ⟨i + 1, by go_num, by omega, by rw [HTK.out] <;> rfl, by rw [HTK.out]; exact HBA.out, HBK.out⟩
           case measure => simp [intOf]; omega
         | true =>
          have hba' : BArr wr g (zj.set f true) := by simpa using hba
          have hg2 := hba'.get (j := p) (by rw [List.length_set, HLJ.out]; omega)
          have hg3 := hba'.get (j := f) (by rw [List.length_set, HLJ.out]; omega)
          have HBA := Lib.hid hba'
          clear hba hba'
          have HTK' := Lib.hid (show (o.add.take (i + 1)).any (getB zj) = true by rw [HTK.out]; rfl)
          cases hz : getB (zj.set f true) (p : Int) with
          | true =>
           rw [hz] at hg2
           clear hz
           generalize getB (zj.set f true) (f : Int) = bf at hg3
           go_wp2_with fail
           go_roundw
           case rel => exact ⟨i + 1, by go_num, by omega, by rw [HTK'.out] <;> rfl, by rw [HTK'.out]; have h := HBA.out.set f true; rw [set_again] at h; exact h, HBK.out.trans (keeps_set _ _ _ _)⟩
           case measure => simp [intOf]; omega
          | false =>
           rw [hz] at hg2
           clear hz
           go_wp2_with fail
           go_roundw
           case rel => exact ⟨i + 1, by go_num, by omega, by rw [HTK'.out] <;> rfl, by rw [HTK'.out]; exact HBA.out, HBK.out⟩
           case measure => simp [intOf]; omega
        ·rw [List.take_of_length_le (by omega)] at hba ⊢
         have HBA := Lib.hid hba
         clear hba hbk
         go_wp2_with fail
         go_roundw
         case rel => exact ⟨j + 1, by go_num, by omega, (o.add.any (getB zj) || ch), rfl, by rw [HU1.out]; exact HBA.out, HBK.out, HMS.out.more HU2.out⟩
         case measure => simp [intOf]; omega
    ·have hzl : (t.ops.zip costs).length = t.ops.length := by rw [List.length_zip, HCL.out]; omega
     rw [List.take_of_length_le (by omega)] at hma hms
     have HMA := Lib.hid hma; have HMK := Lib.hid hmk; have HMS := Lib.hid hms
     have HFS := Lib.hid (fixG_step HOK.out (n + 1) z HZI.out (by have := offs_le z; have := HZI.out.1; rw [Int.toNat_natCast] at this; omega))
     have HS1 := Lib.hid (HOK.out z HZI.out).1
     clear hma hmk hms
     go_wp2_with fail
     rcases HMS.out with ⟨rfl, he⟩ | ⟨rfl, hlt⟩
     ·have HE := Lib.hid he
      clear he
      go_roundg (2 * offs z)
      case rel => exact ⟨zoneR (n : Int) v (t.ops.zip costs) z, false, rfl, HS1.out, HMA.out, HMK.out, by rw [HFS.out]; exact HFX.out, fun _ => by rw [HE.out]; exact HE.out, by rw [HE.out]; simp⟩
      case measure => rw [HGK.out]; simp
     ·have HE := Lib.hid hlt
      clear hlt
      go_roundg (2 * offs (zoneR (n : Int) v (t.ops.zip costs) z) + 1)
      case rel => exact ⟨zoneR (n : Int) v (t.ops.zip costs) z, true, rfl, HS1.out, HMA.out, HMK.out, by rw [HFS.out]; exact HFX.out, (fun h => by cases h), by simp⟩
      case measure => rw [HGK.out]; have := HE.out; simp; omega

end Go.Proofs.YtdokakhgflljgaaGreat

namespace Go.Proofs.YtdokakhgflljgaaGreat
open Go.RowKit Go.Shelf

section
variable (w3 : World) (g n : Nat) (v : List Int) (z : List Bool) (ops : List Opr) (b0 b : List Bool)
def BHead (k : Nat) (v8 : Value) (wr : World) : Prop :=
 ∃ (b : List Bool) (ch : Bool), v8 = .bool ch ∧ BefI (n : Int) z b ∧ BArr wr g b ∧ Keeps (fun b => b = g) w3 wr ∧ fixG (befR (n : Int) v z ops) (n + 1) b = fixG (befR (n : Int) v z ops) (n + 1) b0 ∧ (ch = false → befR (n : Int) v z ops b = b) ∧ k = 2 * offs b + (if ch = true then 1 else 0)
def BMid (b' : List Bool) (v8 : Value) (wr : World) : Prop := ∃ ch : Bool, v8 = .bool ch ∧ BArr wr g b' ∧ Keeps (fun b => b = g) w3 wr ∧ Flag offs b b' ch
end

set_option maxRecDepth 100000 in
set_option maxHeartbeats 8000000 in
theorem before_any (w : World) (X gz : Nat) (vi vg vo vs vc vv : Value) (t : Tsk) (n : Nat) (v s : List Int) (z : List Bool) (hn : t.n = (n : Int)) (hX : SrchC w X n vi vg vo vs vc vv) (h : TaskAt w vi vg vo t) (ok : t.Ok) (hv : Ints w vv v) (hl : v.length = n + 1)
  (hs : Ints w vs s) (hsb : ∀ p ∈ s, 0 ≤ p ∧ p < (n : Int)) (hz : BArr w gz z) (hzl : z.length = n + 1) (h0 : BefI (n : Int) z (bef0 (n : Int) s)) :
  Calls Tryz.prog 131 #[.pointer (some ⟨X, 0, none⟩), .slice (some ⟨gz, 0, none⟩) (n + 1) (n + 1)] w fun e w' => ∃ g, e = .returned (.slice (some ⟨g, 0, none⟩) (n + 1) (n + 1)) ∧ BArr w' g (befV (n : Int) v z t.ops s) ∧ w.heap.size ≤ g ∧ Keeps (fun _ => False) w w' := by
 obtain ⟨ai, ci, h1, _⟩ := h.init.form
 obtain ⟨ag, cg, h2, _⟩ := h.goal.form
 obtain ⟨ao, co, h3, hmo⟩ := h.ops.form
 obtain ⟨as', cs, h4, hms⟩ := hs.form
 subst h1 h2 h3 h4
 have hn24 : n ≤ 24 := by have := ok.n1; omega
 have HX := Lib.hid hX; have HT := Lib.hid h; have OK := Lib.hid ok; have HV := Lib.hid hv; have HL := Lib.hid hl; have HS := Lib.hid hs; have HSB := Lib.hid hsb; have HZ := Lib.hid hz; have HZL := Lib.hid hzl; have H0 := Lib.hid h0
 have HPRE := Lib.hid (show ∀ o ∈ t.ops, ∀ p ∈ o.pre, 0 ≤ p ∧ p < (n : Int) from fun o ho => by have := (isSet_iff.1 (ok.ops o ho).pre).1; rw [hn] at this; exact this)
 have HADD := Lib.hid (show ∀ o ∈ t.ops, ∀ p ∈ o.add, 0 ≤ p ∧ p < (n : Int) from fun o ho => by have := (isSet_iff.1 (ok.ops o ho).add).1; rw [hn] at this; exact this)
 obtain ⟨d0, d1, d2, d3, d4, d5, d6⟩ := hX
 have hxl := HX.out.lt
 have hmk := run_make_bools w ((n : Int) + 1) (n + 1) (by omega) (by omega)
 have HB0 := Lib.hid (show bef0 (n : Int) s = onB ((List.replicate (n + 1) false).set n true) s by unfold bef0; rw [Int.toNat_natCast])
 clear h ok hv hl hs hsb hz hzl h0 hn
 go_enter Tryz.func131, Tryz.ntmps131
 go_upto_region 2 with fail
 have KM := (Keeps.refl (fun _ => False) w).alloc (.cells (Array.replicate (n + 1) (Value.bool false)) 4)
 have HA := Lib.hid (BArr.falses w (n + 1))
 have HK1 := Lib.hid KM
 obtain ⟨g, hg⟩ : ∃ g, w.heap.size = g := ⟨_, rfl⟩
 have HG := Lib.hid hg
 rw [hg] at HA ⊢
 generalize (w.alloc (.cells (Array.replicate (n + 1) (Value.bool false)) 4)) = w1 at HA HK1 ⊢
 clear d0 d1 d2 d3 d4 d5 d6 hxl hmk KM hg
 have hxl := (HX.out.keeps0 HK1.out).lt
 obtain ⟨d0, d1, d2, d3, d4, d5, d6⟩ := HX.out.keeps0 HK1.out
 have hja := HA.out.get (j := n) (by rw [List.length_replicate]; omega)
 have hjf := HA.out.frozen n
 have hjl := HA.out.lt
 have hji : (n : Int) < ((n + 1 : Nat) : Int) := by omega
 have HA3 := Lib.hid (HA.out.set n true)
 have HK3 := Lib.hid (show Keeps (fun _ => False) w (w1.setCell ⟨g, n, none⟩ (.bool true)) from HK1.out.trans' (keeps_set w1 g n _) (fun i hi => .inr (by have := HG.out; omega)))
 go_upto_region 3 with fail
 generalize w1.setCell ⟨g, n, none⟩ (.bool true) = w3 at HA3 HK3 ⊢
 clear hja hjf hjl hji d0 d1 d2 d3 d4 d5 d6 hxl
 have HKW : ∀ wq : World, Keeps (fun b => b = g) w3 wq → Keeps (fun _ => False) w wq := fun wq hk => HK3.out.trans' hk (fun i hi => .inr (by have := HG.out; omega))
 replace HKW := Lib.hid HKW
 have HZG := Lib.hid (show ¬ gz = g from fun e => by have := HZ.out.lt; have := HG.out; omega)
 obtain ⟨d0, d1, d2, d3, d4, d5, d6⟩ := HX.out.keeps0 HK3.out
 have hxl := (HX.out.keeps0 HK3.out).lt
 go_wp2_with fail
 clear d0 d1 d2 d3 d4 d5 d6 hxl
 go_loopw [32] (fun v32 wr => ∃ k : Nat, v32 = .int .i64 (k : Int) ∧ k ≤ s.length ∧ BArr wr g (onB ((List.replicate (n + 1) false).set n true) (s.take k)) ∧ Keeps (fun b => b = g) w3 wr) (fun v32 _ => s.length - (intOf v32).toNat)
 case atStart => exact ⟨0, rfl, Nat.zero_le _, HA3.out, Keeps.refl _ _⟩
 case round =>
  obtain ⟨k, rfl, hk, hba, hbk⟩ := hrel
  by_cases hlt : k < s.length
  ·have KW := Lib.hid (HKW.out wr hbk)
   obtain ⟨bs, ofs, rfl, hcs⟩ := (HS.out.keeps0 KW.out).cell rfl (by omega)
   obtain ⟨p, hp⟩ : ∃ p, s[k]? = some p := ⟨_, List.getElem?_eq_getElem hlt⟩
   have hpb := HSB.out p (List.mem_of_getElem? hp)
   obtain ⟨p, rfl⟩ := Int.eq_ofNat_of_zero_le hpb.1
   have hc1 := hcs k _ hp
   have hol := (onB_spec (s.take k) ((List.replicate (n + 1) false).set n true) (fun q hq => by have := HSB.out q (List.mem_of_mem_take hq); simp; omega)).1
   simp only [List.length_set, List.length_replicate] at hol
   have hg2 := hba.get (j := p) (by omega)
   have hgf := hba.frozen p
   have hgl := hba.lt
   have hpi : (p : Int) < ((n + 1 : Nat) : Int) := by omega
   have HN := Lib.hid (show BArr (wr.setCell ⟨g, p, none⟩ (.bool true)) g (onB ((List.replicate (n + 1) false).set n true) (s.take (k + 1))) ∧ Keeps (fun b => b = g) w3 (wr.setCell ⟨g, p, none⟩ (.bool true)) from
    ⟨by rw [take_getS hp, onB_snoc]; exact hba.set p true, hbk.trans (keeps_set _ _ _ _)⟩)
   generalize getB (onB ((List.replicate (n + 1) false).set n true) (s.take k)) (p : Int) = bb at hg2
   clear hcs hp hpb hba hbk hol
   go_wp2_with fail
   go_roundw
   case rel => exact ⟨k + 1, by go_num, by omega, HN.out.1, HN.out.2⟩
   case measure => simp [intOf]; omega
  ·rw [List.take_of_length_le (by omega), ← HB0.out] at hba
   have HBA := Lib.hid hba; have HBK := Lib.hid hbk
   clear hba hbk
   have HBV := Lib.hid (show befV (n : Int) v z t.ops s = fixG (befR (n : Int) v z t.ops) (n + 1) (bef0 (n : Int) s) by unfold befV; rw [Int.toNat_natCast])
   generalize bef0 (n : Int) s = b0 at HBA HBV H0
   have HOK := Lib.hid (show Okf (BefI (n : Int) z) offs LeB (befR (n : Int) v z t.ops) from befR_ok HADD.out)
   go_wp2_with fail
   go_loopg [8] (2 * offs b0 + 1) (fun k v8 wr => BHead w3 g n v z t.ops b0 k v8 wr)
   case atStart => exact ⟨b0, true, rfl, H0.out, HBA.out, HBK.out, rfl, (fun h => by cases h), by rw [if_pos rfl]⟩
   case round =>
    obtain ⟨b, ch, rfl, hbi, hba, hkp, hfx, hst, hgk⟩ := hrel
    have HBI := Lib.hid hbi; have HBA := Lib.hid hba; have HKP := Lib.hid hkp; have HFX := Lib.hid hfx; have HST := Lib.hid hst; have HGK := Lib.hid hgk
    have HKR := Lib.hid (HKW.out wr hkp)
    clear hbi hba hkp hfx hst hgk
    cases ch with
    | false =>
     go_wp2_with fail
     go_ret
     refine ⟨g, rfl, ?_, by have := HG.out; omega, HKR.out⟩
     have e : befV (n : Int) v z t.ops s = b := by
      rw [HBV.out, ← HFX.out]
      exact fixG_done (HST.out (by first | rfl | trivial)) _
     rw [e]; exact HBA.out
    | true =>
     obtain ⟨d0, d1, d2, d3, d4, d5, d6⟩ := HX.out.keeps0 HKR.out
     have hxl := (HX.out.keeps0 HKR.out).lt
     go_wp2_with fail
     clear d0 d1 d2 d3 d4 d5 d6 hxl
     go_loopw [8, 47] (fun v8 v47 wr' => ∃ j : Nat, v47 = .int .i64 (j : Int) ∧ j ≤ t.ops.length ∧ BMid w3 g b (befR (n : Int) v z (t.ops.take j) b) v8 wr') (fun _ v47 _ => t.ops.length - (intOf v47).toNat)
     case atStart => exact ⟨0, rfl, Nat.zero_le _, false, rfl, HBA.out, HKP.out, .inl ⟨rfl, rfl⟩⟩
     case round =>
      obtain ⟨j, rfl, hj, ch, rfl, hma, hmk, hms⟩ := hrel
      by_cases hjl : j < t.ops.length
      ·have HMA := Lib.hid hma; have HMK := Lib.hid hmk; have HMS := Lib.hid hms
       have KW2 := Lib.hid (HKW.out wr hmk)
       clear hma hmk hms
       obtain ⟨bo, oo, rfl, hcell⟩ := HT.out.ops.cell rfl (by omega)
       obtain ⟨o, ho⟩ : ∃ o, t.ops[j]? = some o := ⟨_, List.getElem?_eq_getElem hjl⟩
       obtain ⟨va, vb, vd, p0', p1', p2', p3', i1, i2, i3⟩ := hcell j o ho
       have p0 := KW2.out.cell p0' (fun h => h); have p1 := KW2.out.cell p1' (fun h => h); have p2 := KW2.out.cell p2' (fun h => h); have p3 := KW2.out.cell p3' (fun h => h)
       clear p0' p1' p2' p3'
       obtain ⟨a1, k1, f1, _⟩ := i1.form
       obtain ⟨a2, k3, f2, _⟩ := i2.form
       obtain ⟨a3, k4, f3, _⟩ := i3.form
       subst f1 f2 f3
       have I1 := Lib.hid i1; have I2 := Lib.hid i2
       have HPO := Lib.hid (HPRE.out o (List.mem_of_getElem? ho)); have HAO := Lib.hid (HADD.out o (List.mem_of_getElem? ho))
       have HNX := Lib.hid (show befR (n : Int) v z (t.ops.take (j + 1)) b = befOp (n : Int) v z o (befR (n : Int) v z (t.ops.take j) b) by rw [take_getS ho, befR_snoc])
       have HIJ := Lib.hid (show BefI (n : Int) z (befR (n : Int) v z (t.ops.take j) b) from (befR_ok (v := v) (fun o ho => HADD.out o (List.mem_of_mem_take ho)) b HBI.out).1)
       have K4 := (Keeps.refl (fun _ => False) wr).alloc (.cells #[.slice a1 o.pre.length k1, .slice a2 o.add.length k3, .slice a3 o.del.length k4, .int .i64 o.cost] 80)
       have HO4 := Lib.hid (Four.new wr (.slice a1 o.pre.length k1) (.slice a2 o.add.length k3) (.slice a3 o.del.length k4) (.int .i64 o.cost) 80)
       have HMA4 := Lib.hid (HMA.out.keeps K4 (fun h => h)); have HMK4 := Lib.hid (HMK.out.trans (K4.mono (fun _ _ h => h.elim))); have KW4 := Lib.hid (KW2.out.trans K4)
       clear hcell ho i1 i2 i3 K4 HMA HMK
       go_upto_region 14 with fail
       generalize hw4 : (wr.alloc (.cells #[.slice a1 o.pre.length k1, .slice a2 o.add.length k3, .slice a3 o.del.length k4, .int .i64 o.cost] 80)) = w4 at HMA4 HMK4 HO4 KW4 ⊢
       clear p0 p1 p2 p3 hw4
       obtain ⟨b4, hb4⟩ : ∃ b4, wr.heap.size = b4 := ⟨_, rfl⟩
       rw [hb4] at HO4 ⊢
       clear hb4
       generalize befR (n : Int) v z (t.ops.take j) b = bj at HMA4 HMS HNX HIJ ⊢
       obtain ⟨q0, q1, q2, q3⟩ := HO4.out
       have hq4 := HO4.out.lt
       go_wp2_with fail
       refine (hardest_any w4 X n _ _ _ _ _ vv _ v o.pre (HX.out.keeps0 KW4.out) (HV.out.keeps0 KW4.out) HL.out (I1.out.keeps0 KW4.out) HPO.out).mono ?_
       rintro e w5 ⟨rfl, hk5⟩
       have KW5 := Lib.hid (KW4.out.trans hk5)
       have HMA5 := Lib.hid (HMA4.out.keeps hk5 (fun h => h)); have HMK5 := Lib.hid (HMK4.out.trans (hk5.mono (fun _ _ h => h.elim))); have HO5 := Lib.hid (HO4.out.keeps0 hk5)
       have hin := hard_in (n := (n : Int)) (v := v) (ps := o.pre) (by omega) HPO.out
       obtain ⟨f, hf⟩ : ∃ f : Nat, hardI (n : Int) v o.pre = (f : Int) := ⟨(hardI (n : Int) v o.pre).toNat, by omega⟩
       have HF := Lib.hid hf
       rw [hf] at hin ⊢
       have hfi : (f : Int) < ((n + 1 : Nat) : Int) := by omega
       have hbl : bj.length = n + 1 := by have := HIJ.out.1; rw [Int.toNat_natCast] at this; exact this
       have hg1 := HMA5.out.get (j := f) (by omega)
       have hgl5 := HMA5.out.lt
       have HBL := Lib.hid hbl
       clear hf hk5 HMA4 HMK4 HO4 q0 q1 q2 q3 hq4 hin hbl
       cases hb : getB bj (f : Int) with
       | false =>
        rw [hb] at hg1
        have HNE := Lib.hid (show befR (n : Int) v z (t.ops.take (j + 1)) b = bj by rw [HNX.out]; unfold befOp; rw [HF.out, hb]; rfl)
        clear hb
        go_wp2_with fail
        go_roundw
        case rel => exact ⟨j + 1, by go_num, by omega, ch, rfl, by rw [HNE.out]; exact HMA5.out, HMK5.out, by rw [HNE.out]; exact HMS.out⟩
        case measure => simp [intOf]; omega
       | true =>
        rw [hb] at hg1
        have HNE := Lib.hid (show befR (n : Int) v z (t.ops.take (j + 1)) b = befAdd z bj o.add by rw [HNX.out]; unfold befOp; rw [HF.out, hb]; rfl)
        obtain ⟨q0, q1, q2, q3⟩ := HO5.out
        have hq5 := HO5.out.lt
        clear hb
        go_wp2_with fail
        clear q0 q1 q2 q3 hq5 hg1 hgl5
        go_loopw [8, 62] (fun v8 v62 wr' => ∃ i : Nat, v62 = .int .i64 (i : Int) ∧ i ≤ o.add.length ∧ BMid w3 g b (befAdd z bj (o.add.take i)) v8 wr') (fun _ v62 _ => o.add.length - (intOf v62).toNat)
        case atStart => exact ⟨0, rfl, Nat.zero_le _, ch, rfl, HMA5.out, HMK5.out, HMS.out⟩
        case round =>
         obtain ⟨i, rfl, hi, ch2, rfl, hba, hbk, hbf⟩ := hrel
         have KW6 := Lib.hid (HKW.out wr hbk)
         have HBA := Lib.hid hba; have HBK := Lib.hid hbk; have HBF := Lib.hid hbf
         clear hba hbk hbf
         by_cases hil : i < o.add.length
         ·obtain ⟨b2, o2, rfl, hca⟩ := (I2.out.keeps0 KW6.out).cell rfl (by omega)
          obtain ⟨p, hp⟩ : ∃ p, o.add[i]? = some p := ⟨_, List.getElem?_eq_getElem hil⟩
          have hpb := HAO.out p (List.mem_of_getElem? hp)
          obtain ⟨p, rfl⟩ := Int.eq_ofNat_of_zero_le hpb.1
          have hc2 := hca i _ hp
          have hpi : (p : Int) < ((n + 1 : Nat) : Int) := by omega
          have HTK := Lib.hid (show befAdd z bj (o.add.take (i + 1)) = if getB (befAdd z bj (o.add.take i)) (p : Int) = true ∨ getB z (p : Int) = true then befAdd z bj (o.add.take i) else (befAdd z bj (o.add.take i)).set p true by rw [take_getS hp, befAdd_snoc, Int.toNat_natCast])
          have hlen : (befAdd z bj (o.add.take i)).length = n + 1 := by
           have h := (befAdd_ok (z := z) (n := (n : Int)) (ps := o.add.take i) (fun p hp => HAO.out p (List.mem_of_mem_take hp)) bj HIJ.out).1.1
           rw [Int.toNat_natCast] at h; exact h
          generalize befAdd z bj (o.add.take i) = bc at HBA HBF HTK hlen
          have hg2 := HBA.out.get (j := p) (by omega)
          have hgf := HBA.out.frozen p
          have hlt5 := HBA.out.lt
          have hz2 := (HZ.out.keeps KW6.out (fun h => h)).get (j := p) (by have := HZL.out; omega)
          have hzl2 := (HZ.out.keeps KW6.out (fun h => h)).lt
          have HLEN := Lib.hid hlen
          clear hca hp hpb hlen
          cases hb1 : getB bc (p : Int) with
          | true =>
           rw [hb1] at hg2
           have HN := Lib.hid (show befAdd z bj (o.add.take (i + 1)) = bc by rw [HTK.out, if_pos (.inl hb1)])
           clear hb1
           generalize getB z (p : Int) = bz at hz2
           go_wp2_with fail
           go_roundw
           case rel => exact ⟨i + 1, by go_num, by omega, ch2, rfl, by rw [HN.out]; exact HBA.out, HBK.out, by rw [HN.out]; exact HBF.out⟩
           case measure => simp [intOf]; omega
          | false =>
           rw [hb1] at hg2
           cases hb2 : getB z (p : Int) with
           | true =>
            rw [hb2] at hz2
            have HN := Lib.hid (show befAdd z bj (o.add.take (i + 1)) = bc by rw [HTK.out, if_pos (.inr hb2)])
            clear hb1 hb2
            go_wp2_with fail
            go_roundw
            case rel => exact ⟨i + 1, by go_num, by omega, ch2, rfl, by rw [HN.out]; exact HBA.out, HBK.out, by rw [HN.out]; exact HBF.out⟩
            case measure => simp [intOf]; omega
           | false =>
            rw [hb2] at hz2
            have HN := Lib.hid (show befAdd z bj (o.add.take (i + 1)) = bc.set p true by rw [HTK.out, if_neg (by rintro (h | h); rw [hb1] at h; cases h; rw [hb2] at h; cases h)])
            have HFL := Lib.hid (show Flag offs b (bc.set p true) (true || ch2) from HBF.out.more (.inr ⟨rfl, offs_set bc p (by
             have h := getB_false (z := bc) (q := (p : Int)) (by have := HLEN.out; omega) hb1
             rw [Int.toNat_natCast] at h; exact h)⟩))
            clear hb1 hb2
            go_wp2_with fail
            go_roundw
            case rel => exact ⟨i + 1, by go_num, by omega, true, rfl, by rw [HN.out]; exact HBA.out.set p true, HBK.out.trans (keeps_set _ _ _ _), by rw [HN.out]; exact HFL.out⟩
            case measure => simp [intOf]; omega
         ·rw [List.take_of_length_le (by omega), ← HNE.out] at HBA HBF
          go_wp2_with fail
          go_roundw
          case rel => exact ⟨j + 1, by go_num, by omega, ch2, rfl, HBA.out, HBK.out, HBF.out⟩
          case measure => simp [intOf]; omega
      ·rw [List.take_of_length_le (by omega)] at hma hms
       have HMA := Lib.hid hma; have HMK := Lib.hid hmk; have HMS := Lib.hid hms
       have HFS := Lib.hid (fixG_step HOK.out (n + 1) b HBI.out (by have := offs_le b; have := HBI.out.1; rw [Int.toNat_natCast] at this; omega))
       have HS1 := Lib.hid (HOK.out b HBI.out).1
       clear hma hmk hms
       go_wp2_with fail
       rcases HMS.out with ⟨rfl, he⟩ | ⟨rfl, hlt⟩
       ·have HE := Lib.hid he
        clear he
        go_roundg (2 * offs b)
        case rel => exact ⟨befR (n : Int) v z t.ops b, false, rfl, HS1.out, HMA.out, HMK.out, by rw [HFS.out]; exact HFX.out, fun _ => by rw [HE.out]; exact HE.out, by rw [HE.out]; simp⟩
        case measure => rw [HGK.out]; simp
       ·have HE := Lib.hid hlt
        clear hlt
        go_roundg (2 * offs (befR (n : Int) v z t.ops b) + 1)
        case rel => exact ⟨befR (n : Int) v z t.ops b, true, rfl, HS1.out, HMA.out, HMK.out, by rw [HFS.out]; exact HFX.out, (fun h => by cases h), by simp⟩
        case measure => rw [HGK.out]; have := HE.out; simp; omega

end Go.Proofs.YtdokakhgflljgaaGreat

namespace Go.Proofs.YtdokakhgflljgaaGreat
open Go.RowKit Go.Shelf

theorem pair_set0 {w : World} {B : Nat} {x y : Value} {T : TypeId} (h : w.heap[B]? = some (.cells #[x, y] T (0, 0))) (c : Value) : (w.setCell ⟨B, 0, none⟩ c).heap[B]? = some (.cells #[c, y] T (0, 0)) := by rw [blk_set_same h]; rfl
theorem pair_set1 {w : World} {B : Nat} {x y : Value} {T : TypeId} (h : w.heap[B]? = some (.cells #[x, y] T (0, 0))) (c : Value) : (w.setCell ⟨B, 1, none⟩ c).heap[B]? = some (.cells #[x, c] T (0, 0)) := by rw [blk_set_same h]; rfl
theorem cutTo_succ {n : Int} {v : List Int} {z b : List Bool} {os : List (Opr × Int)} {k : Nat} {o : Opr × Int} (h : os[k]? = some o) : cutTo n v z b os (k + 1) = if inCut n v z b o.1 = true then ((cutTo n v z b os k).1 ++ [(k : Int)], min (cutTo n v z b os k).2 o.2) else cutTo n v z b os k := by
 rw [cutTo, h]

section
variable (w3 : World) (b5 : Nat) (q : List Int × Int)
/-- The cut so far: its operators and its cost. -/
def CutAt (wr : World) : Prop := ∃ vx, wr.heap[b5]? = some (.cells #[vx, .int .i64 q.2] 195 (0, 0)) ∧ wr.ownsRow w3.heap.size 3 1 vx q.1.length (q.1.map (Value.int .i64)) ∧ Keeps (fun b => b = b5) w3 wr
end

set_option maxRecDepth 100000 in
set_option maxHeartbeats 8000000 in
theorem cut_any (w : World) (X : Nat) (vi vg vo vs vc vv : Value) (t : Tsk) (n : Nat) (s costs : List Int) (hn : t.n = (n : Int)) (hX : SrchC w X n vi vg vo vs vc vv) (h : TaskAt w vi vg vo t) (ok : t.Ok) (hv : Ints w vv (valL t s costs))
  (hs : Ints w vs s) (hsb : ∀ p ∈ s, 0 ≤ p ∧ p < (n : Int)) (hcs : Ints w vc costs) (hc : CostsOk t costs) (hg : 0 < greatL (valL t s costs) t.goal) :
  Calls Tryz.prog 120 #[.pointer (some ⟨X, 0, none⟩)] w fun e w' => ∃ vx, e = .returned (.agg #[vx, .int .i64 (cutT t s costs).2]) ∧ w'.ownsRow w.heap.size 3 1 vx (cutT t s costs).1.length ((cutT t s costs).1.map (Value.int .i64)) ∧ Keeps (fun _ => False) w w' := by
 obtain ⟨i0, hi0, hz0, hz1, hz2⟩ := info_parts Tryz.info3
 obtain ⟨ai, ci, h1, _⟩ := h.init.form
 obtain ⟨ag, cg, h2, _⟩ := h.goal.form
 obtain ⟨ao, co, h3, hmo⟩ := h.ops.form
 obtain ⟨ac, cc, h4, hmc⟩ := hcs.form
 subst h1 h2 h3 h4
 have hop40 : t.ops.length ≤ 40 := ok.few
 have HC := Lib.hid (show CutIn (n : Int) (valL t s costs) (t.ops.zip costs) by rw [← hn]; exact cutIn ok hc s)
 have hbef := cut_start ok hc (by rw [hn]; exact hsb) hg
 have HBEF := Lib.hid (show BefI (n : Int) (zoneT t s costs) (bef0 (n : Int) s) by rw [← hn]; exact hbef)
 have HST := Lib.hid (cut_st ok hc (by rw [hn]; exact hsb) hg)
 have hvl : (valL t s costs).length = n + 1 := by unfold valL; rw [List.length_append, (vals_ok (t := t) (s := s) hc).len]; simp; omega
 have HCT := Lib.hid (show cutT t s costs = cutTo (n : Int) (valL t s costs) (zoneT t s costs) (befT t s costs) (t.ops.zip costs) t.ops.length by unfold cutT; rw [hn])
 have HZT := Lib.hid (show zoneV (n : Int) (valL t s costs) (t.ops.zip costs) t.goal = zoneT t s costs by unfold zoneT; rw [hn])
 have HBT := Lib.hid (show befV (n : Int) (valL t s costs) (zoneT t s costs) t.ops s = befT t s costs by unfold befT; rw [hn])
 have HN := Lib.hid hn
 have HPRE := Lib.hid (show ∀ o ∈ t.ops, ∀ p ∈ o.pre, 0 ≤ p ∧ p < (n : Int) from fun o ho => by have := (isSet_iff.1 (ok.ops o ho).pre).1; rw [hn] at this; exact this)
 have HADD := Lib.hid (show ∀ o ∈ t.ops, ∀ p ∈ o.add, 0 ≤ p ∧ p < (n : Int) from fun o ho => by have := (isSet_iff.1 (ok.ops o ho).add).1; rw [hn] at this; exact this)
 have HCL := Lib.hid hc.len
 have HCLO := Lib.hid hc.low
 clear hbef hg hc
 generalize valL t s costs = v at hv HC HST hvl HCT HZT HBT
 have HL := Lib.hid hvl
 have KA := (Keeps.refl (fun _ => False) w).alloc (.cells #[.slice none 0 0, .int .i64 0] 195)
 have HX := Lib.hid (hX.keeps0 KA); have HT := Lib.hid (h.keeps0 KA); have OK := Lib.hid ok; have HV := Lib.hid (hv.keeps0 KA); have HS := Lib.hid (hs.keeps0 KA); have HSB := Lib.hid hsb; have HCS := Lib.hid (hcs.keeps0 KA); have HKA := Lib.hid KA
 have HR := Lib.hid (heap_alloc_new w (.cells #[.slice none 0 0, .int .i64 0] 195))
 clear h ok hv hvl hs hsb hcs hX KA
 go_enter Tryz.func120, Tryz.ntmps120
 go_upto_region 1 with fail
 generalize w.alloc (.cells #[.slice none 0 0, .int .i64 0] 195) = w1 at HX HT HV HS HCS HKA HR ⊢
 go_wp2_with fail
 refine (zone_any w1 X _ _ _ _ _ vv t n v costs HN.out HX.out HT.out OK.out HV.out HL.out HCS.out HCL.out HC.out).mono ?_
 rintro e w2 ⟨gz, rfl, hza, hzb, hkz⟩
 rw [HZT.out] at hza
 have HZA := Lib.hid hza; have HKZ := Lib.hid hkz
 clear hza hkz
 go_wp2_with fail
 refine (before_any w2 X gz _ _ _ _ _ vv t n v s _ HN.out (HX.out.keeps0 HKZ.out) (HT.out.keeps0 HKZ.out) OK.out (HV.out.keeps0 HKZ.out) HL.out (HS.out.keeps0 HKZ.out) HSB.out HZA.out (by have := HST.out.zlen; rw [HN.out, Int.toNat_natCast] at this; exact this) HBEF.out).mono ?_
 rintro e w9 ⟨gb, rfl, hba, hbb, hkb⟩
 rw [HBT.out] at hba
 have HBA := Lib.hid (hba.keeps ((Keeps.refl (fun _ => False) w9).alloc (.cells #[.slice none 0 0, .int .i64 1000000000] 195)) (fun h => h))
 have KB := (hkb.trans ((Keeps.refl (fun _ => False) w9).alloc (.cells #[.slice none 0 0, .int .i64 1000000000] 195)))
 have HZB := Lib.hid (HZA.out.keeps KB (fun h => h)); have HKB := Lib.hid (HKZ.out.trans KB)
 have HC5 := Lib.hid (heap_alloc_new w9 (.cells #[.slice none 0 0, .int .i64 1000000000] 195))
 have hgb := hba.lt
 have hgz : gz < w9.heap.size := Nat.lt_of_lt_of_le HZA.out.lt hkb.size
 have hw1 : w1.heap.size ≤ w9.heap.size := Nat.le_trans HKZ.out.size hkb.size
 clear hba hkb KB HZA HKZ
 go_upto_region 4 with fail
 obtain ⟨b5, hb5⟩ : ∃ b5, w9.heap.size = b5 := ⟨_, rfl⟩
 rw [hb5] at HC5 hgb hgz hw1 ⊢
 generalize w9.alloc (.cells #[.slice none 0 0, .int .i64 1000000000] 195) = w3 at HBA HZB HKB HC5 ⊢
 have HR3 := Lib.hid (HKB.out.heap HR.out (fun h => h))
 have HB5 := Lib.hid (show w1.heap.size ≤ b5 from hw1)
 clear hb5 hzb hbb
 have HKW : ∀ wq : World, Keeps (fun b => b = b5) w3 wq → Keeps (fun _ => False) w1 wq := fun wq hk => HKB.out.trans' hk (fun i hi => .inr (by have := HB5.out; omega))
 replace HKW := Lib.hid HKW
 have HG5 := Lib.hid (show ¬ gb = b5 ∧ ¬ gz = b5 ∧ ¬ w.heap.size = b5 from ⟨fun e => by omega, fun e => by omega, fun e => by have := lt_of_heap HR.out; have := HB5.out; omega⟩)
 obtain ⟨d0, d1, d2, d3, d4, d5, d6⟩ := HX.out.keeps0 HKB.out
 have hxl := (HX.out.keeps0 HKB.out).lt
 go_wp2_with fail
 clear d0 d1 d2 d3 d4 d5 d6 hxl
 go_loopw [22] (fun v22 wr => ∃ k : Nat, v22 = .int .i64 (k : Int) ∧ k ≤ t.ops.length ∧ CutAt w3 b5 (cutTo (n : Int) v (zoneT t s costs) (befT t s costs) (t.ops.zip costs) k) wr) (fun v22 _ => t.ops.length - (intOf v22).toNat)
 case atStart => exact ⟨0, rfl, Nat.zero_le _, _, HC5.out, World.ownsRow_nil _ _ _ _, Keeps.refl _ _⟩
 case round =>
  obtain ⟨k, rfl, hk, vx, hcb, hcr, hck⟩ := hrel
  have HCB := Lib.hid hcb; have HCR := Lib.hid hcr; have HCK := Lib.hid hck
  have KW := Lib.hid (HKW.out wr hck)
  clear hcb hcr hck
  by_cases hkl : k < t.ops.length
  ·obtain ⟨bo, oo, rfl, hcell⟩ := HT.out.ops.cell rfl (by omega)
   obtain ⟨o, ho⟩ : ∃ o, t.ops[k]? = some o := ⟨_, List.getElem?_eq_getElem hkl⟩
   obtain ⟨va, vb, vd, p0', p1', p2', p3', i1, i2, i3⟩ := hcell k o ho
   have p0 := KW.out.cell p0' (fun h => h); have p1 := KW.out.cell p1' (fun h => h); have p2 := KW.out.cell p2' (fun h => h); have p3 := KW.out.cell p3' (fun h => h)
   clear p0' p1' p2' p3'
   obtain ⟨a1, k1, f1, _⟩ := i1.form
   obtain ⟨a2, k3, f2, _⟩ := i2.form
   obtain ⟨a3, k4, f3, _⟩ := i3.form
   subst f1 f2 f3
   have I1 := Lib.hid i1; have I2 := Lib.hid i2
   obtain ⟨c, hcj⟩ : ∃ c, costs[k]? = some c := ⟨_, List.getElem?_eq_getElem (by rw [HCL.out]; exact hkl)⟩
   have HZJ := Lib.hid (show (t.ops.zip costs)[k]? = some (o, c) by rw [List.getElem?_zip_eq_some]; exact ⟨ho, hcj⟩)
   have HCJ := Lib.hid hcj
   have HPO := Lib.hid (HPRE.out o (List.mem_of_getElem? ho)); have HAO := Lib.hid (HADD.out o (List.mem_of_getElem? ho))
   have HNX := Lib.hid (cutTo_succ (n := (n : Int)) (v := v) (z := zoneT t s costs) (b := befT t s costs) HZJ.out)
   obtain ⟨_, _, hqk, _, _⟩ := cutTo_spec (n := (n : Int)) (v := v) HC.out.cost (zoneT t s costs) (befT t s costs) k (by rw [List.length_zip, HCL.out]; omega)
   have K4 := (Keeps.refl (fun _ => False) wr).alloc (.cells #[.slice a1 o.pre.length k1, .slice a2 o.add.length k3, .slice a3 o.del.length k4, .int .i64 o.cost] 80)
   have HO4 := Lib.hid (Four.new wr (.slice a1 o.pre.length k1) (.slice a2 o.add.length k3) (.slice a3 o.del.length k4) (.int .i64 o.cost) 80)
   have HCB4 := Lib.hid (K4.heap HCB.out (fun h => h)); have HCR4 := Lib.hid (K4.ownsRow HCR.out (fun _ _ h => h)); have HCK4 := Lib.hid (HCK.out.trans (K4.mono (fun _ _ h => h.elim))); have KW4 := Lib.hid (KW.out.trans K4)
   clear hcell ho i1 i2 i3 K4 hcj HCB HCR HCK KW
   go_upto_region 7 with fail
   generalize hw4 : (wr.alloc (.cells #[.slice a1 o.pre.length k1, .slice a2 o.add.length k3, .slice a3 o.del.length k4, .int .i64 o.cost] 80)) = w4 at HCB4 HCR4 HCK4 HO4 KW4 ⊢
   clear p0 p1 p2 p3 hw4
   obtain ⟨b4, hb4⟩ : ∃ b4, wr.heap.size = b4 := ⟨_, rfl⟩
   rw [hb4] at HO4 ⊢
   clear hb4
   generalize cutTo (n : Int) v (zoneT t s costs) (befT t s costs) (t.ops.zip costs) k = q at HCB4 HCR4 HNX hqk ⊢
   obtain ⟨q0, q1, q2, q3⟩ := HO4.out
   have hq4 := HO4.out.lt
   go_wp2_with fail
   refine (hardest_any w4 X n _ _ _ _ _ vv _ v o.pre (HX.out.keeps0 KW4.out) (HV.out.keeps0 KW4.out) HL.out (I1.out.keeps0 KW4.out) HPO.out).mono ?_
   rintro e w5 ⟨rfl, hk5⟩
   have KW5 := Lib.hid (KW4.out.trans hk5); have HO5 := Lib.hid (HO4.out.keeps0 hk5)
   have HCB5 := Lib.hid (hk5.heap HCB4.out (fun h => h)); have HCR5 := Lib.hid (hk5.ownsRow HCR4.out (fun _ _ h => h)); have HCK5 := Lib.hid (HCK4.out.trans (hk5.mono (fun _ _ h => h.elim)))
   have hin := hard_in (n := (n : Int)) (v := v) (ps := o.pre) (by omega) HPO.out
   obtain ⟨f, hf⟩ : ∃ f : Nat, hardI (n : Int) v o.pre = (f : Int) := ⟨(hardI (n : Int) v o.pre).toNat, by omega⟩
   have HF := Lib.hid hf
   rw [hf] at hin ⊢
   have hfi : (f : Int) < ((n + 1 : Nat) : Int) := by omega
   have HBL := Lib.hid (show (befT t s costs).length = n + 1 by have := HST.out.blen; rw [HN.out, Int.toNat_natCast] at this; exact this)
   have HZL := Lib.hid (show (zoneT t s costs).length = n + 1 by have := HST.out.zlen; rw [HN.out, Int.toNat_natCast] at this; exact this)
   have hb5' := HBA.out.keeps HCK5.out HG5.out.1
   have hg1 := hb5'.get (j := f) (by rw [HBL.out]; omega)
   have hgl := hb5'.lt
   clear hf hk5 HCB4 HCR4 HCK4 HO4 q0 q1 q2 q3 hq4 hin hb5' KW4
   cases hb : getB (befT t s costs) (f : Int) with
   | false =>
    rw [hb] at hg1
    have HNE := Lib.hid (show cutTo (n : Int) v (zoneT t s costs) (befT t s costs) (t.ops.zip costs) (k + 1) = q by rw [HNX.out, if_neg (by unfold inCut; rw [HF.out, hb]; simp)])
    clear hb
    go_wp2_with fail
    go_roundw
    case rel => exact ⟨k + 1, by go_num, by omega, by rw [HNE.out]; exact ⟨vx, HCB5.out, HCR5.out, HCK5.out⟩⟩
    case measure => simp [intOf]; omega
   | true =>
    rw [hb] at hg1
    have HBT2 := Lib.hid hb
    obtain ⟨q0, q1, q2, q3⟩ := HO5.out
    have hq5 := HO5.out.lt
    clear hb
    go_wp2_with fail
    clear q0 q1 q2 q3 hq5 hg1 hgl
    go_loopw [38] (fun v38 wr' => ∃ i : Nat, v38 = .int .i64 (i : Int) ∧ i ≤ o.add.length ∧ (o.add.take i).any (getB (zoneT t s costs)) = false ∧ CutAt w3 b5 q wr') (fun v38 _ => o.add.length - (intOf v38).toNat)
    case atStart => exact ⟨0, rfl, Nat.zero_le _, rfl, vx, HCB5.out, HCR5.out, HCK5.out⟩
    case round =>
     obtain ⟨i, rfl, hi, hany, vy, hcb, hcr, hck⟩ := hrel
     have HCB := Lib.hid hcb; have HCR := Lib.hid hcr; have HCK := Lib.hid hck; have HANY := Lib.hid hany
     have KW6 := Lib.hid (HKW.out wr hck)
     clear hcb hcr hck hany
     by_cases hil : i < o.add.length
     ·obtain ⟨b2, o2, rfl, hca⟩ := (I2.out.keeps0 KW6.out).cell rfl (by omega)
      obtain ⟨p, hp⟩ : ∃ p, o.add[i]? = some p := ⟨_, List.getElem?_eq_getElem hil⟩
      have hpb := HAO.out p (List.mem_of_getElem? hp)
      have HPM := Lib.hid (List.mem_of_getElem? hp)
      obtain ⟨p, rfl⟩ := Int.eq_ofNat_of_zero_le hpb.1
      have hc2 := hca i _ hp
      have hpi : (p : Int) < ((n + 1 : Nat) : Int) := by omega
      have HTK := Lib.hid (show (o.add.take (i + 1)).any (getB (zoneT t s costs)) = getB (zoneT t s costs) (p : Int) by rw [take_getS hp, List.any_append, HANY.out]; simp)
      have hz6 := HZB.out.keeps HCK.out HG5.out.2.1
      have hg2 := hz6.get (j := p) (by rw [HZL.out]; omega)
      have hgl := hz6.lt
      clear hca hp hpb hz6
      cases hz : getB (zoneT t s costs) (p : Int) with
      | false =>
       rw [hz] at hg2 HTK
       clear hz
       go_wp2_with fail
       go_roundw
       case rel => exact ⟨i + 1, by go_num, by omega, HTK.out, vy, HCB.out, HCR.out, HCK.out⟩
       case measure => simp [intOf]; omega
      | true =>
       rw [hz] at hg2
       have HNE := Lib.hid (show cutTo (n : Int) v (zoneT t s costs) (befT t s costs) (t.ops.zip costs) (k + 1) = (q.1 ++ [(k : Int)], min q.2 c) by
        rw [HNX.out, if_pos (by unfold inCut; rw [HF.out, HBT2.out, List.any_eq_true.2 ⟨_, HPM.out, hz⟩]; rfl)])
       obtain ⟨ao3, cap3, hv3⟩ := ownsRow_form1 HCR.out
       subst hv3
       obtain ⟨r0, r1, z0, z1, hl5⟩ := pair_cells HCB.out
       have hs3 := HCK.out.size
       clear hz
       go_wp2_with (at_builtin; refine wpList_append_lies _ rfl _ _ _ rfl w3.heap.size 3 i0 _ 1 8 Tryz.underlying22 hi0 hz0 hz1 hz2 rfl (by omega) _ q.1.length _ (by rfl) (HCR.out.alloc _) ⟨wr.heap.size, 0, none⟩ 1 1 [.int .i64 (k : Int)] (by rfl) (by rfl) ?hnews ?hone (by omega) (by unfold maxLen; omega) (by omega) (by simp; omega) (wr.heap.size + 1) (by simp) ?_)
       case hnews => exact World.news_of_block (cs := #[.int .i64 (k : Int)]) (t := 3) (fr := (0, 0)) (heap_alloc_new _ _)
       case hone => simp [Value.oneCell']
       intro g2 cap2 w6 hown2 hgrow hat hlt3
       have k6 := ((Keeps.refl (fun b => (Value.slice ao3 q.1.length cap3).ownBlock = some b) wr).alloc (.cells #[.int .i64 (k : Int)] 3)).grown hgrow (fun k hk => .inl hk)
       have hb53 : b5 < w3.heap.size := lt_of_heap HC5.out
       have kk := HCK.out.trans' k6 (fun i hi => .inr (HCR.out.lt i hi).1)
       have hcb6 := k6.heap HCB.out (fun e => by have := (HCR.out.lt b5 e).1; omega)
       obtain ⟨s0, s1, y0, y1, hl6⟩ := pair_cells hcb6
       have HC7 := Lib.hid (pair_set0 hcb6 (.slice (some ⟨g2, 0, none⟩) (q.1.length + 1) cap2))
       have HK7 := Lib.hid (kk.trans (keeps_set w6 b5 0 (.slice (some ⟨g2, 0, none⟩) (q.1.length + 1) cap2)))
       have HO7 := Lib.hid ((keeps_set w6 b5 0 (.slice (some ⟨g2, 0, none⟩) (q.1.length + 1) cap2)).ownsRow hown2 (fun k hk e => by have := (World.ownsRow.lt hown2 k hk).1; omega))
       clear hown2 hgrow hat k6 kk hcb6 r0 r1 z0 z1 hl5
       go_upto_region 13 with fail
       generalize w6.setCell ⟨b5, 0, none⟩ (.slice (some ⟨g2, 0, none⟩) (q.1.length + 1) cap2) = w7 at HC7 HK7 HO7 ⊢
       clear s0 s1 y0 y1 hl6 hg2 hgl hc2
       have KW7 := Lib.hid (HKW.out w7 HK7.out)
       obtain ⟨s0, s1, y0, y1, hl6⟩ := pair_cells HC7.out
       obtain ⟨d0, d1, d2, d3, d4, d5, d6⟩ := HX.out.keeps0 KW7.out
       have hxl := (HX.out.keeps0 KW7.out).lt
       obtain ⟨bc, oc, rfl, hccell⟩ := (HCS.out.keeps0 KW7.out).cell rfl (by rw [HCL.out]; omega)
       have hc1 := hccell k c HCJ.out
       have hki : (k : Int) < (costs.length : Int) := by rw [HCL.out]; omega
       have HFIN := Lib.hid (show CutAt w3 b5 (q.1 ++ [(k : Int)], min q.2 c) (w7.setCell ⟨b5, 1, none⟩ (.int .i64 (min q.2 c))).drew from
        ⟨_, ((Keeps.refl (fun _ => False) _).drew).heap (pair_set1 HC7.out (.int .i64 (min q.2 c))) (fun h => h), ((Keeps.refl (fun _ => False) _).drew).ownsRow ((keeps_set w7 b5 1 (.int .i64 (min q.2 c))).ownsRow (by
         have h := HO7.out
         rw [show (q.1 ++ [(k : Int)], min q.2 c).1.length = q.1.length + 1 by simp, show (q.1 ++ [(k : Int)], min q.2 c).1.map (Value.int .i64) = q.1.map (Value.int .i64) ++ [.int .i64 (k : Int)] by simp]
         exact h) (fun k hk e => by have := (World.ownsRow.lt HO7.out k hk).1; omega)) (fun _ _ h => h), (HK7.out.trans (keeps_set w7 b5 1 _)).drew⟩)
       clear hccell
       go_region
       all_goals
        go_wp2_with fail
        go_roundw
        case rel => exact ⟨k + 1, by go_num, by omega, by rw [HNE.out]; exact HFIN.out⟩
        case measure => simp [intOf]; omega
     ·have HNE := Lib.hid (show cutTo (n : Int) v (zoneT t s costs) (befT t s costs) (t.ops.zip costs) (k + 1) = q by
       rw [HNX.out, if_neg]
       unfold inCut
       have h := HANY.out
       rw [List.take_of_length_le (by omega)] at h
       rw [h, Bool.and_false]; decide)
      go_wp2_with fail
      go_roundw
      case rel => exact ⟨k + 1, by go_num, by omega, by rw [HNE.out]; exact ⟨vy, HCB.out, HCR.out, HCK.out⟩⟩
      case measure => simp [intOf]; omega
  ·have hkz : k = t.ops.length := by omega
   rw [hkz, ← HCT.out] at HCB HCR
   obtain ⟨ao3, cap3, hv3⟩ := ownsRow_form1 HCR.out
   subst hv3
   have hrr := HCK.out.heap HR3.out HG5.out.2.2
   obtain ⟨r0, r1, z0, z1, hl5⟩ := pair_cells HCB.out
   obtain ⟨s0, s1, y0, y1, hl6⟩ := pair_cells hrr
   have HFR := Lib.hid (pair_set hrr (.slice ao3 (cutT t s costs).1.length cap3) (.int .i64 (cutT t s costs).2))
   have HFK := Lib.hid (HKA.out.trans' ((KW.out.mono (fun _ _ h => h.elim)).trans (keeps_pair (w := wr) w.heap.size (.slice ao3 (cutT t s costs).1.length cap3) (.int .i64 (cutT t s costs).2))) (fun i hi => .inr (by omega)))
   have HFO := Lib.hid ((keeps_pair (w := wr) w.heap.size (.slice ao3 (cutT t s costs).1.length cap3) (.int .i64 (cutT t s costs).2)).ownsRow HCR.out (fun k hk e => by have := (World.ownsRow.lt HCR.out k hk).1; have := HKB.out.size; have := lt_of_heap HR.out; omega))
   clear hrr
   go_wp2_with fail
   refine bodyPost_ret (results_cell_row rfl _ _ w.heap.size 195 _ (0, 0) _ rfl HFR.out Tryz.underlying195 rfl (by kernel_rfl)) rfl ?_
   exact ⟨_, rfl, ownsRow_mono HFO.out (by have := HKB.out.size; have := HKA.out.size; omega), HFK.out⟩

end Go.Proofs.YtdokakhgflljgaaGreat

namespace Go.Proofs.YtdokakhgflljgaaGreat
open Go.RowKit Go.Shelf

theorem step_append_src {P : Program} {w : World} {ops : Array Oper} {o : Oper} {a : Act} {K : Act → World → Prop} {Q : Exit → Act → World → Prop} {E : Prop} (hgd : o.guard = none) (s x : Operand) (t : TypeId)
  (ho : o.op = .call { callee := .builtin .append, args := #[s, x], argTypes := #[t, t] })
  (base : Nat) (e : TypeId) (i : TypeInfo) (z : Value) (bytes : Nat) (ht : P.underlying t = some (.slice e)) (hi : P.info? e = some i) (hz : i.zero = some z) (hsize : i.size = 1) (hby : i.bytes = bytes) (hzs : z.cells.size = 1)
  (v : Value) (n : Nat) (xs : List Value) (hs : a.eval s = v) (hown : w.ownsRow base e 1 v n xs) (vx : Value) (m : Nat) (news : List Value) (hx : a.eval x = vx) (hsl : Sl w vx m news) (hl : news.length = m) (h1 : ∀ u ∈ news, u.oneCell' = true)
  (h63 : n + m ≤ maxLen) (hbytes : (n + m) * bytes ≤ 140737488355328) (hbase : base ≤ w.heap.size)
  (h : ∀ v' w', w'.ownsRow base e 1 v' (n + m) (xs ++ news) → w.grownBy w' v.ownBlock → K (a.put o.dst v') w') :
  if Region.wanted o (yielded ops a.tmps) = true then Oper.wp P o a w K Q else E := by
 obtain ⟨ao, c, rfl, hm, hc⟩ := hsl
 have hw : Region.wanted o (yielded ops a.tmps) = true := by simp [Region.wanted, hgd]
 rcases Nat.eq_zero_or_pos m with h0 | h0
 ·subst h0
  have : news = [] := List.length_eq_zero_iff.1 hl
  subst this
  rw [if_pos hw]
  have hrun := run_appendS_zero (P := P) (w := w) base t o.type e i 1 ht hi v n xs hown ao c
  unfold Oper.wp
  simp [execOp, ho, resolve, invoke, builtin, hs, hx, hrun, Result.andThen]
  exact h v w (by simpa using hown) (grownBy_refl w _)
 ·obtain ⟨b, off, rfl, hcell⟩ := hc h0
  exact step_append_lies w hgd s x t ho base e i z 1 bytes ht hi hz hsize hby hzs (by omega) v n xs hs hown ⟨b, off, none⟩ m c news hx (by omega) (fun j u hj => by
   have h := hcell j u hj
   by_cases hj0 : j = 0
   ·subst hj0; simpa [Addr.add] using h
   ·simpa [Addr.add, hj0] using h) h1 h0 h63 hbytes hbase w.heap.size rfl (fun g cap w' h2 h3 _ _ => h _ w' h2 h3)

end Go.Proofs.YtdokakhgflljgaaGreat

namespace Go.Proofs.YtdokakhgflljgaaGreat
open Go.RowKit Go.Shelf

/-- A slice of ints whose array may be stored into. -/
def CRow (W : World) (gc : Nat) (vc : Value) (l : List Int) : Prop := ∃ ao cap, vc = .slice ao l.length cap ∧ (l.length ≤ maxLen ∧ l.length ≤ cap) ∧ (0 < l.length → ao = some ⟨gc, 0, none⟩ ∧ ∃ cur T, W.heap[gc]? = some (.cells cur T (0, 0)) ∧ ∀ (j : Nat) (x : Int), l[j]? = some x → cur[j]? = some (.int .i64 x))
theorem CRow.ints {W : World} {gc : Nat} {vc : Value} {l : List Int} (h : CRow W gc vc l) : Ints W vc l := by
 obtain ⟨ao, cap, h1, h2, h3⟩ := h
 refine ⟨ao, cap, h1, h2, fun h0 => ?_⟩
 obtain ⟨rfl, cur, T, hb, hc⟩ := h3 h0
 refine ⟨gc, 0, rfl, fun j x hx => ?_⟩
 rw [List.getElem?_map] at hx
 cases hj : l[j]? with
 | none => rw [hj] at hx; cases hx
 | some y => rw [hj] at hx; cases hx; rw [Nat.zero_add, cell_of_blk hb]; exact hc j y hj
theorem CRow.keeps {S : Nat → Prop} {W W' : World} {gc : Nat} {vc : Value} {l : List Int} (h : CRow W gc vc l) (hk : Keeps S W W') (hs : ¬ S gc) : CRow W' gc vc l := by
 obtain ⟨ao, cap, h1, h2, h3⟩ := h
 refine ⟨ao, cap, h1, h2, fun h0 => ?_⟩
 obtain ⟨e, cur, T, hb, hc⟩ := h3 h0
 exact ⟨e, cur, T, hk.heap hb hs, hc⟩
theorem CRow.at {W : World} {gc : Nat} {vc : Value} {l : List Int} (h : CRow W gc vc l) {j : Nat} (hj : j < l.length) : ∃ cap, vc = .slice (some ⟨gc, 0, none⟩) l.length cap ∧ W.cell? ⟨gc, j, none⟩ = some (.int .i64 (getV l (j : Int))) ∧ W.frozen? ⟨gc, j, none⟩ = false ∧ gc < W.heap.size := by
 obtain ⟨ao, cap, h1, h2, h3⟩ := h
 obtain ⟨e, cur, T, hb, hc⟩ := h3 (by omega)
 exact ⟨cap, by rw [h1, e], by rw [cell_of_blk hb]; exact hc j _ (getV_at hj), frozen_of_blk hb, lt_of_heap hb⟩
theorem CRow.set {W : World} {gc : Nat} {vc : Value} {l : List Int} (h : CRow W gc vc l) {j : Nat} (x : Int) (hj : j < l.length) : CRow (W.setCell ⟨gc, j, none⟩ (.int .i64 x)) gc vc (l.set j x) := by
 obtain ⟨ao, cap, h1, h2, h3⟩ := h
 obtain ⟨e, cur, T, hb, hc⟩ := h3 (by omega)
 refine ⟨ao, cap, by rw [List.length_set]; exact h1, by rw [List.length_set]; exact h2, fun _ => ⟨e, cur.setIfInBounds j (.int .i64 x), T, blk_set_same hb _, fun i y hy => ?_⟩⟩
 have hcj := hc j _ (getV_at hj)
 have hjc : j < cur.size := (Array.getElem?_eq_some_iff.1 hcj).1
 rw [List.getElem?_set] at hy
 rw [Array.getElem?_setIfInBounds]
 split at hy
 ·rename_i e2
  first | (rw [if_pos hj] at hy; cases hy; rw [if_pos e2, if_pos hjc]) | (cases hy; rw [if_pos e2, if_pos hjc])
 ·rename_i e2
  rw [if_neg e2]; exact hc i y hy
theorem CRow.of_own {W : World} {base X : Nat} {v : Value} {l : List Int} (h : W.ownsRow base 3 1 v l.length (l.map (Value.int .i64))) (hb : base ≤ X) (hX : W.heap.size ≤ X) : ∃ gc, CRow W gc v l ∧ base ≤ gc ∧ gc ≠ X := by
 rcases h.2 with ⟨hv, h0⟩ | ⟨g, cap, cur, hv, hb, hg, hn, hm, hs, ht⟩
 ·exact ⟨X + 1, ⟨none, 0, by rw [hv, h0], by omega, fun h => by omega⟩, by omega, by omega⟩
 ·refine ⟨g, ⟨_, cap, hv, by omega, fun _ => ⟨rfl, cur, _, hg, fun j x hj => ?_⟩⟩, hb, by have := lt_of_heap hg; omega⟩
  have h1 : (l.map (Value.int .i64))[j]? = some (.int .i64 x) := by rw [List.getElem?_map, hj]; rfl
  rw [← ht, List.getElem?_take] at h1
  split at h1
  ·simpa using h1
  ·cases h1

theorem Tryz.info_cut : (Tryz.prog.info? 195).map (fun i => (i.zero, i.size, i.bytes)) = some (some (.agg #[.slice none 0 0, .int .i64 0]), 2, 32) := by kernel_rfl

theorem cell_set_ne {W : World} {X i j : Nat} {u v : Value} (h : W.cell? ⟨X, i, none⟩ = some u) (hij : j ≠ i) : (W.setCell ⟨X, j, none⟩ v).cell? ⟨X, i, none⟩ = some u :=
 (World.cell?_setCell_other _ _ _ _ (by intro e; injection e with _ e2; exact hij e2)).trans h
/-- The search gets other values. -/
theorem SrchC.put {W : World} {X n : Nat} {vi vg vo vs vc vv : Value} (h : SrchC W X n vi vg vo vs vc vv) (v' : Value) {cur : Array Value} {T : TypeId} (hb : W.heap[X]? = some (.cells cur T (0, 0))) : SrchC (W.setCell ⟨X, 6, none⟩ v') X n vi vg vo vs vc v' := by
 refine ⟨cell_set_ne h.c0 (by decide), cell_set_ne h.c1 (by decide), cell_set_ne h.c2 (by decide), cell_set_ne h.c3 (by decide), cell_set_ne h.c4 (by decide), cell_set_ne h.c5 (by decide), ?_⟩
 have h6 := h.c6
 rw [cell_of_blk hb] at h6
 rw [cell_of_blk (blk_set_same hb _), Array.getElem?_setIfInBounds, if_pos rfl, if_pos (Array.getElem?_eq_some_iff.1 h6).1]

theorem lowC_snoc (ix : List Int) (c : Int) (costs : List Int) (i : Int) : lowC (ix ++ [i]) c costs = (lowC ix c costs).set i.toNat (getV (lowC ix c costs) i - c) := by unfold lowC; rw [List.foldl_append]; rfl

section
variable (w3 : World) (X gc n : Nat) (vi vg vo vs vc : Value) (t : Tsk) (s : List Int) (R : Int)
/-- Between the rounds of Find. -/
def FAt (k : Nat) (v7 v8 : Value) (wr : World) : Prop :=
 ∃ (costs : List Int) (tot : Int) (m : Nat) (xs : List Value) (vv : Value), v8 = .int .i64 tot ∧ CostsOk t costs ∧ CRow wr gc vc costs ∧ SrchC wr X n vi vg vo vs vc vv ∧ payL costs (List.range costs.length) < k ∧ 0 ≤ tot ∧ tot + payL costs (List.range costs.length) ≤ 4000 ∧ cutsT t s k costs tot = R ∧
  wr.ownsRow w3.heap.size 195 2 v7 m xs ∧ (m : Int) ≤ tot ∧ (∃ cur T, wr.heap[X]? = some (.cells cur T (0, 0))) ∧ Keeps (fun b => b = X ∨ b = gc) w3 wr
end

set_option maxRecDepth 100000 in
set_option maxHeartbeats 8000000 in
theorem find_any (w : World) (vi vg vo vs : Value) (t : Tsk) (s : List Int) (h : TaskAt w vi vg vo t) (ok : t.Ok) (hs : Ints w vs s) (hsb : ∀ p ∈ s, 0 ≤ p ∧ p < t.n) :
  Calls Tryz.prog 100 #[.agg #[.int .i64 t.n, vi, vg, vo], vs] w fun e w' => ∃ vx, e = .returned (.tuple #[vx, .int .i64 (cutsT t s (fuelC (costsV t)) (costsV t) 0)]) ∧ Keeps (fun _ => False) w w' := by
 obtain ⟨i0, hi0, hz0, hz1, hz2⟩ := info_parts Tryz.info3
 obtain ⟨j0, hj0, jz0, jz1, jz2⟩ := info_parts Tryz.info_cut
 obtain ⟨ai, ci, h1, _⟩ := h.init.form
 obtain ⟨ag, cg, h2, _⟩ := h.goal.form
 obtain ⟨ao, co, h3, hmo⟩ := h.ops.form
 obtain ⟨a4, cs, h4, hms⟩ := hs.form
 subst h1 h2 h3 h4
 have hn0 : 0 ≤ t.n ∧ t.n ≤ 24 := ⟨by have := ok.n0; omega, ok.n1⟩
 obtain ⟨n, hn⟩ : ∃ n : Nat, t.n = (n : Int) := ⟨t.n.toNat, by omega⟩
 have HNT := Lib.hid (show t.n.toNat = n by omega)
 have hn24 : n ≤ 24 := by omega
 have HN := Lib.hid hn; clear hn
 have HSBn := Lib.hid (show ∀ p ∈ s, 0 ≤ p ∧ p < (n : Int) by have := hsb; rw [HN.out] at this; exact this)
 have HGB := Lib.hid (isSet_iff.1 ok.goal).1
 have hpf := payL_few ok
 have hco := costs_first ok
 have hp0 := payL_low (fun c h => (hco.low c h).1) (List.range (costsV t).length)
 have HFU := Lib.hid (show payL (costsV t) (List.range (costsV t).length) < (fuelC (costsV t) : Nat) by unfold fuelC; omega)
 have HPF := Lib.hid hpf; have HCO := Lib.hid hco
 have K1 := (Keeps.refl (fun _ => False) w).alloc (.cells #[.int .i64 t.n, .slice ai t.init.length ci, .slice ag t.goal.length cg, .slice ao t.ops.length co] 25)
 have HB := Lib.hid (Four.new w (.int .i64 t.n) (.slice ai t.init.length ci) (.slice ag t.goal.length cg) (.slice ao t.ops.length co) 25)
 have HT := Lib.hid (h.keeps0 K1); have HS := Lib.hid (hs.keeps0 K1); have HK1 := Lib.hid K1; have OK := Lib.hid ok; have HSB := Lib.hid hsb
 have hen := enters_of (P := Tryz.prog) Tryz.func92 (by kernel_rfl) rfl
 have HEN := Lib.hid hen
 clear h ok hs hsb K1 hen hpf hco hp0
 generalize hR : cutsT t s (fuelC (costsV t)) (costsV t) 0 = R
 have HR := Lib.hid hR
 clear hR
 go_enter Tryz.func100, Tryz.ntmps100
 go_upto_region 1 with fail
 generalize (w.alloc (.cells #[.int .i64 t.n, .slice ai t.init.length ci, .slice ag t.goal.length cg, .slice ao t.ops.length co] 25)) = w1 at HT HB HK1 HS ⊢
 have KD := (Keeps.refl (fun _ => False) w1).drew
 have HT4 := Lib.hid (HT.out.keeps0 KD); have HB4 := Lib.hid (HB.out.keeps0 KD); have HKD := Lib.hid KD
 obtain ⟨d0, d1, d2, d3⟩ := HB4.out
 have hbx := HB4.out.lt
 clear KD
 go_region_held3 (fun w' => w'.cell? ⟨w.heap.size, 0, none⟩ = some (.int .i64 t.n) ∧ w'.cell? ⟨w.heap.size, 1, none⟩ = some (.slice ai t.init.length ci) ∧ w'.cell? ⟨w.heap.size, 2, none⟩ = some (.slice ag t.goal.length cg) ∧ w'.cell? ⟨w.heap.size, 3, none⟩ = some (.slice ao t.ops.length co))
  (go_keep)
  (first
   | (go_at_call 116; refine (rcost_any _ _ _ _ t HT4.out OK.out).mono ?_; rintro en wa ⟨vc, rfl, hrow, hka⟩; obtain ⟨a5, c5, hv5⟩ := ownsRow_form1 hrow; subst hv5; have HROW := Lib.hid hrow; have HKA := Lib.hid hka; have a0 := hka.cell d0 (fun h => h); have a1 := hka.cell d1 (fun h => h); have a2 := hka.cell d2 (fun h => h); have a3 := hka.cell d3 (fun h => h); clear hrow hka))
 all_goals
  have hX0 := heap_alloc_new wa (.cells #[.int .i64 t.n, .slice ai t.init.length ci, .slice ag t.goal.length cg, .slice ao t.ops.length co, .slice a4 s.length cs, .slice a5 t.ops.length c5, .slice none 0 0] 193)
  have KA := (Keeps.refl (fun _ => False) wa).alloc (.cells #[.int .i64 t.n, .slice ai t.init.length ci, .slice ag t.goal.length cg, .slice ao t.ops.length co, .slice a4 s.length cs, .slice a5 t.ops.length c5, .slice none 0 0] 193)
  have hrow := HROW.out
  have hcl : (costsV t).length = t.ops.length := costsV_len t
  rw [← hcl] at hrow
  obtain ⟨gc, hcr, hgb, hgx⟩ := CRow.of_own (X := wa.heap.size) hrow HKA.out.size (Nat.le_refl _)
  rw [hcl] at hcr
  have HCR := Lib.hid (hcr.keeps KA (fun h => h))
  have HSX := Lib.hid (show SrchC _ wa.heap.size n (.slice ai t.init.length ci) (.slice ag t.goal.length cg) (.slice ao t.ops.length co) (.slice a4 s.length cs) (.slice a5 t.ops.length c5) (.slice none 0 0) from
   ⟨by rw [← HN.out]; exact (cell_of_blk hX0).trans rfl, (cell_of_blk hX0).trans rfl, (cell_of_blk hX0).trans rfl, (cell_of_blk hX0).trans rfl, (cell_of_blk hX0).trans rfl, (cell_of_blk hX0).trans rfl, (cell_of_blk hX0).trans rfl⟩)
  have HK3 := Lib.hid ((HKD.out.trans HKA.out).trans KA)
  have hxs : wa.heap.size < (wa.alloc (.cells #[.int .i64 t.n, .slice ai t.init.length ci, .slice ag t.goal.length cg, .slice ao t.ops.length co, .slice a4 s.length cs, .slice a5 t.ops.length c5, .slice none 0 0] 193)).heap.size := lt_of_heap hX0
  have hwx : w1.heap.size ≤ wa.heap.size := HKA.out.size
  obtain ⟨X, hX⟩ : ∃ X, wa.heap.size = X := ⟨_, rfl⟩
  have HXB := Lib.hid hX0
  rw [hX] at HSX hgx hxs hwx HXB ⊢
  generalize (wa.alloc (.cells #[.int .i64 t.n, .slice ai t.init.length ci, .slice ag t.goal.length cg, .slice ao t.ops.length co, .slice a4 s.length cs, .slice a5 t.ops.length c5, .slice none 0 0] 193)) = w3 at HSX HCR HK3 hxs HXB ⊢
  have HGX := Lib.hid hgx; have HGB2 := Lib.hid (show w1.heap.size ≤ gc from hgb); have HXW := Lib.hid hwx; have HXS := Lib.hid hxs
  clear hX0 KA hrow hcr hgb hgx hX a0 a1 a2 a3 d0 d1 d2 d3 hbx hxs hwx
  have HKW : ∀ wq : World, Keeps (fun b => b = X ∨ b = gc) w3 wq → Keeps (fun _ => False) w1 wq := fun wq hk => HK3.out.trans' hk (fun i hi => .inr (by have := HGB2.out; have := HXW.out; rcases hi with e | e <;> omega))
  replace HKW := Lib.hid HKW
  have HG3 := Lib.hid (show 0 < t.ops.length → gc < w3.heap.size from fun h => (HCR.out.at (j := 0) (by rw [costsV_len]; exact h)).elim fun _ h => h.2.2.2)
  have HBX := Lib.hid (show w.heap.size < w1.heap.size from HB.out.lt)
  go_wp2_with fail
  go_loopg [7, 8] (fuelC (costsV t)) (fun k v7 v8 wr => FAt w3 X gc n (.slice ai t.init.length ci) (.slice ag t.goal.length cg) (.slice ao t.ops.length co) (.slice a4 s.length cs) (.slice a5 t.ops.length c5) t s R k v7 v8 wr)
  case atStart => exact ⟨costsV t, 0, 0, [], _, rfl, HCO.out, HCR.out, HSX.out, HFU.out, Int.le_refl _, by have := HPF.out; omega, HR.out, World.ownsRow_nil _ _ _ _, Int.le_refl _, ⟨_, _, HXB.out⟩, Keeps.refl _ _⟩
  case round =>
   obtain ⟨costs, tot, m, xs, vv, rfl, hco, hcr, hsx, hpk, ht0, ht4, hct, hrow, hmt, hxb, hkp⟩ := hrel
   have HCO := Lib.hid hco; have HCR := Lib.hid hcr; have HSX := Lib.hid hsx; have HPK := Lib.hid hpk; have HT0 := Lib.hid ht0; have HT4' := Lib.hid ht4; have HCT := Lib.hid hct; have HRW := Lib.hid hrow; have HMT := Lib.hid hmt; have HKP := Lib.hid hkp
   obtain ⟨xcur, xT, hxb⟩ := hxb
   have HXB' := Lib.hid hxb
   have KW := Lib.hid (HKW.out wr hkp)
   clear hco hcr hsx hpk ht0 ht4 hct hrow hmt hkp hxb
   have KDr := (Keeps.refl (fun _ => False) wr).drew
   have HTD := Lib.hid ((HT.out.keeps0 KW.out).keeps0 KDr); have HBD := Lib.hid ((HB.out.keeps0 KW.out).keeps0 KDr); have HSD := Lib.hid ((HS.out.keeps0 KW.out).keeps0 KDr)
   have HCD := Lib.hid (HCR.out.keeps KDr (fun h => h)); have HXD := Lib.hid (HSX.out.keeps0 KDr)
   have HKDr := Lib.hid KDr
   obtain ⟨d0, d1, d2, d3⟩ := HBD.out
   have hbx := HBD.out.lt
   obtain ⟨e0, e1, e2, e3, e4, e5, e6⟩ := HXD.out
   have hxl := HXD.out.lt
   have HNG1 : ∀ g, wr.drew.heap.size ≤ g → (Value.slice (some ⟨g, 0, none⟩) t.n.toNat t.n.toNat).ownBlock = some w.heap.size → False := fun g h e => by
    have h2 : g = w.heap.size := by simpa [Value.ownBlock] using e
    have := HBX.out; have := KW.out.size; have h3 : wr.heap.size ≤ g := h; omega
   have HNG2 : ∀ g, wr.drew.heap.size ≤ g → (Value.slice (some ⟨g, 0, none⟩) t.n.toNat t.n.toNat).ownBlock = some X → False := fun g h e => by
    have h2 : g = X := by simpa [Value.ownBlock] using e
    have := HSX.out.lt; have h3 : wr.heap.size ≤ g := h; omega
   have HWX := Lib.hid (show ¬ w.heap.size = X from fun e => by have := HBX.out; have := HXW.out; omega)
   replace HNG1 := Lib.hid HNG1; replace HNG2 := Lib.hid HNG2
   have hnt : t.n.toNat ≤ 24 := by omega
   have KE := ((Keeps.refl (fun _ => False) wr).alloc (.cells #[.int .i64 0] 3)).drew
   have HTE := Lib.hid ((HT.out.keeps0 KW.out).keeps0 KE); have HSE := Lib.hid ((HS.out.keeps0 KW.out).keeps0 KE); have HCE := Lib.hid (HCR.out.keeps KE (fun h => h))
   obtain ⟨E0, E1, E2, E3⟩ := (HB.out.keeps0 KW.out).keeps0 KE
   obtain ⟨_, _, _, _, _, E5, E6⟩ := HSX.out.keeps0 KE
   have HSLE := Lib.hid (show Sl (wr.alloc (.cells #[.int .i64 0] 3)).drew (.slice (some ⟨wr.heap.size, 0, none⟩) 1 1) 1 [.int .i64 0] from Sl.keeps0 ((IArr.new wr [0]).ints (by simp [maxLen])) (Keeps.refl (fun _ => False) _).drew)
   have HKE := Lib.hid KE
   clear KDr KE
   go_upto_region 4 with fail
   go_region_held3 (fun w' => w'.cell? ⟨w.heap.size, 0, none⟩ = some (.int .i64 t.n) ∧ w'.cell? ⟨w.heap.size, 1, none⟩ = some (.slice ai t.init.length ci) ∧ w'.cell? ⟨w.heap.size, 2, none⟩ = some (.slice ag t.goal.length cg) ∧ w'.cell? ⟨w.heap.size, 3, none⟩ = some (.slice ao t.ops.length co) ∧ w'.cell? ⟨X, 5, none⟩ = some (.slice a5 t.ops.length c5))
    (first | go_keep | exact ⟨(keeps_set wB X 6 _).cell B0 HWX.out, (keeps_set wB X 6 _).cell B1 HWX.out, (keeps_set wB X 6 _).cell B2 HWX.out, (keeps_set wB X 6 _).cell B3 HWX.out, (World.cell?_setCell_other _ _ _ _ (by simp)).trans B5⟩ | exact ⟨E0, E1, E2, E3, E5⟩)
    (first
     | (go_at_call 115; refine (values_any 92 greatL HEN.out combF_great comb_great _ _ _ _ _ _ t s costs HTD.out OK.out HSD.out HSB.out HCD.out.ints HCO.out.len (fun c hc => ⟨(HCO.out.low c hc).1, by have := (HCO.out.low c hc).2; omega⟩)).mono ?_; rintro en wv ⟨g, rfl, hia, hgl, hkv⟩; have HIA := Lib.hid hia; have HKV := Lib.hid hkv; have HGL := Lib.hid hgl; have a0 := hkv.cell d0 (fun h => h); have a1 := hkv.cell d1 (fun h => h); have a2 := hkv.cell d2 (fun h => h); have a3 := hkv.cell d3 (fun h => h); have b5 := hkv.cell e5 (fun h => h); have b6 := hkv.cell e6 (fun h => h); have KL := (Keeps.refl (fun _ => False) wv).alloc (.cells #[.int .i64 0] 3); have HKL := Lib.hid KL; have A0 := KL.cell a0 (fun h => h); have A1 := KL.cell a1 (fun h => h); have A2 := KL.cell a2 (fun h => h); have A3 := KL.cell a3 (fun h => h); have A5 := KL.cell b5 (fun h => h); have A6 := KL.cell b6 (fun h => h); have HXL := Lib.hid (KL.heap (hkv.heap (HKDr.out.heap HXB'.out (fun h => h)) (fun h => h)) (fun h => h)); have HOW := Lib.hid (show (wv.alloc (.cells #[.int .i64 0] 3)).ownsRow wr.heap.size 3 1 (.slice (some ⟨g, 0, none⟩) t.n.toNat t.n.toNat) t.n.toNat ((valuesV greatL t costs s).map (Value.int .i64)) from (by have hl := (vals_ok (t := t) (s := s) HCO.out).len; have h := IArr.own (base := wr.heap.size) (hia.keeps KL (fun h => h)) hgl (by rw [hl]; unfold maxLen; omega); rw [hl] at h; exact h)); have HSL := Lib.hid (show Sl (wv.alloc (.cells #[.int .i64 0] 3)) (.slice (some ⟨wv.heap.size, 0, none⟩) 1 1) 1 [.int .i64 0] from (IArr.new wv [0]).ints (by simp [maxLen])); have hbz : wr.heap.size ≤ (wv.alloc (.cells #[.int .i64 0] 3)).heap.size := Nat.le_trans hkv.size KL.size; clear hia hgl hkv KL)
     | (refine step_append_src rfl _ _ _ rfl wr.heap.size 3 i0 _ 8 Tryz.underlying22 hi0 hz0 hz1 hz2 rfl (.slice (some ⟨g, 0, none⟩) t.n.toNat t.n.toNat) t.n.toNat ((valuesV greatL t costs s).map (Value.int .i64)) (by rfl) HOW.out (.slice (some ⟨wv.heap.size, 0, none⟩) 1 1) 1 [.int .i64 0] (by rfl) HSL.out (by rfl) (by simp [Value.oneCell']) (by unfold maxLen; omega) (by omega) hbz ?_; rintro v3 wB hrow3 hgr3; obtain ⟨ao3, cap3, hv3⟩ := ownsRow_form1 hrow3; subst hv3; have KBG : Keeps (fun k => (Value.slice (some ⟨g, 0, none⟩) t.n.toNat t.n.toNat).ownBlock = some k) (wv.alloc (.cells #[.int .i64 0] 3)) wB := (Keeps.refl _ _).grown hgr3 (fun k hk => .inl hk); have B0 := KBG.cell A0 (fun e => HNG1.out g HGL.out e); have B1 := KBG.cell A1 (fun e => HNG1.out g HGL.out e); have B2 := KBG.cell A2 (fun e => HNG1.out g HGL.out e); have B3 := KBG.cell A3 (fun e => HNG1.out g HGL.out e); have B5 := KBG.cell A5 (fun e => HNG2.out g HGL.out e); have B6 := KBG.cell A6 (fun e => HNG2.out g HGL.out e); have HXB2 := Lib.hid (KBG.heap HXL.out (fun e => HNG2.out g HGL.out e)); have bf6 := frozen_of_blk (o := 6) HXB2.out; have HRB := Lib.hid hrow3; have HKB := Lib.hid (((HKDr.out.trans HKV.out).trans HKL.out).trans' KBG (fun i hi => .inr (by have h1 : wr.heap.size ≤ g := HGL.out; have h2 : g = i := (by simpa [Value.ownBlock] using hi); omega))); clear hrow3 hgr3 KBG)
     | (go_at_call 115; refine (values_any 92 greatL HEN.out combF_great comb_great _ _ _ _ _ _ t s costs HTE.out OK.out HSE.out HSB.out HCE.out.ints HCO.out.len (fun c hc => ⟨(HCO.out.low c hc).1, by have := (HCO.out.low c hc).2; omega⟩)).mono ?_; rintro en wv ⟨g, rfl, hia, hgl, hkv⟩; have HGL := Lib.hid (show wr.drew.heap.size ≤ g from Nat.le_trans HKE.out.size hgl); have HKV2 := Lib.hid (HKE.out.trans hkv); have A0 := hkv.cell E0 (fun h => h); have A1 := hkv.cell E1 (fun h => h); have A2 := hkv.cell E2 (fun h => h); have A3 := hkv.cell E3 (fun h => h); have A5 := hkv.cell E5 (fun h => h); have A6 := hkv.cell E6 (fun h => h); have HXL := Lib.hid (hkv.heap (HKE.out.heap HXB'.out (fun h => h)) (fun h => h)); have HOW := Lib.hid (show wv.ownsRow wr.heap.size 3 1 (.slice (some ⟨g, 0, none⟩) t.n.toNat t.n.toNat) t.n.toNat ((valuesV greatL t costs s).map (Value.int .i64)) from (by have hl := (vals_ok (t := t) (s := s) HCO.out).len; have h := IArr.own (base := wr.heap.size) hia HGL.out (by rw [hl]; unfold maxLen; omega); rw [hl] at h; exact h)); have HSL := Lib.hid (show Sl wv (.slice (some ⟨wr.heap.size, 0, none⟩) 1 1) 1 [.int .i64 0] from Sl.keeps0 HSLE.out hkv); have hbz : wr.heap.size ≤ wv.heap.size := HKV2.out.size; clear hia hgl hkv)
     | (refine step_append_src rfl _ _ _ rfl wr.heap.size 3 i0 _ 8 Tryz.underlying22 hi0 hz0 hz1 hz2 rfl (.slice (some ⟨g, 0, none⟩) t.n.toNat t.n.toNat) t.n.toNat ((valuesV greatL t costs s).map (Value.int .i64)) (by rfl) HOW.out (.slice (some ⟨wr.heap.size, 0, none⟩) 1 1) 1 [.int .i64 0] (by rfl) HSL.out (by rfl) (by simp [Value.oneCell']) (by unfold maxLen; omega) (by omega) hbz ?_; rintro v3 wB hrow3 hgr3; obtain ⟨ao3, cap3, hv3⟩ := ownsRow_form1 hrow3; subst hv3; have KBG : Keeps (fun k => (Value.slice (some ⟨g, 0, none⟩) t.n.toNat t.n.toNat).ownBlock = some k) wv wB := (Keeps.refl _ _).grown hgr3 (fun k hk => .inl hk); have B0 := KBG.cell A0 (fun e => HNG1.out g HGL.out e); have B1 := KBG.cell A1 (fun e => HNG1.out g HGL.out e); have B2 := KBG.cell A2 (fun e => HNG1.out g HGL.out e); have B3 := KBG.cell A3 (fun e => HNG1.out g HGL.out e); have B5 := KBG.cell A5 (fun e => HNG2.out g HGL.out e); have B6 := KBG.cell A6 (fun e => HNG2.out g HGL.out e); have HXB2 := Lib.hid (KBG.heap HXL.out (fun e => HNG2.out g HGL.out e)); have bf6 := frozen_of_blk (o := 6) HXB2.out; have HRB := Lib.hid hrow3; have HKB := Lib.hid (HKV2.out.trans' KBG (fun i hi => .inr (by have h1 : wr.heap.size ≤ g := HGL.out; have h2 : g = i := (by simpa [Value.ownBlock] using hi); omega))); clear hrow3 hgr3 KBG))
   all_goals
    have hvl : (valL t s costs).length = t.n.toNat + 1 := by unfold valL; rw [List.length_append, (vals_ok (t := t) (s := s) HCO.out).len]; rfl
    have ks := keeps_set wB X 6 (.slice ao3 (t.n.toNat + 1) cap3)
    have HX6 := Lib.hid ((HSX.out.keeps0 HKB.out).put (.slice ao3 (t.n.toNat + 1) cap3) HXB2.out)
    have HV6 := Lib.hid (show Ints (wB.setCell ⟨X, 6, none⟩ (.slice ao3 (t.n.toNat + 1) cap3)) (.slice ao3 (t.n.toNat + 1) cap3) (valL t s costs) from Ints.of_own (base := wr.heap.size) (e := 3) (by
     have h := ks.ownsRow HRB.out (fun k hk e => by have h1 := (World.ownsRow.lt HRB.out k hk).1; have h2 := HSX.out.lt; have h3 : k = X := e; omega)
     rw [hvl, show (valL t s costs).map (Value.int .i64) = (valuesV greatL t costs s).map (Value.int .i64) ++ [.int .i64 0] by unfold valL; rw [List.map_append] <;> rfl]
     exact h))
    have HC6 := Lib.hid ((HCR.out.keeps HKB.out (fun h => h)).keeps ks HGX.out)
    have HR6 := Lib.hid (ks.ownsRow (HKB.out.ownsRow HRW.out (fun _ _ h => h)) (fun k hk e => by have h1 := (World.ownsRow.lt HRW.out k hk).1; have h2 := HXS.out; have h3 : k = X := e; omega))
    have HP6 := Lib.hid (show Keeps (fun b => b = X ∨ b = gc) w3 (wB.setCell ⟨X, 6, none⟩ (.slice ao3 (t.n.toNat + 1) cap3)) from (HKP.out.trans (HKB.out.mono (fun _ _ h => h.elim))).trans (ks.mono (fun _ _ h => .inl h)))
    have HXB6 := Lib.hid (blk_set_same HXB2.out (.slice ao3 (t.n.toNat + 1) cap3) (o := 6))
    clear d0 d1 d2 d3 hbx e0 e1 e2 e3 e4 e5 e6 hxl E0 E1 E2 E3 E5 E6 A0 A1 A2 A3 A5 A6 B0 B1 B2 B3 B5 B6 bf6 hbz ks
    generalize wB.setCell ⟨X, 6, none⟩ (.slice ao3 (t.n.toNat + 1) cap3) = w6 at HX6 HV6 HC6 HR6 HP6 HXB6 ⊢
    have KW6 := Lib.hid (HKW.out w6 HP6.out)
    have KD6 := (Keeps.refl (fun _ => False) w6).drew
    have HX7 := Lib.hid (HX6.out.keeps0 KD6); have HV7 := Lib.hid (HV6.out.keeps0 KD6); have HC7 := Lib.hid (HC6.out.keeps KD6 (fun h => h)); have HR7 := Lib.hid (KD6.ownsRow HR6.out (fun _ _ h => h)); have HP7 := Lib.hid (HP6.out.trans (KD6.mono (fun _ _ h => h.elim))); have HXB7 := Lib.hid (KD6.heap HXB6.out (fun h => h)); have KW7 := Lib.hid (KW6.out.trans KD6)
    have HB7 := Lib.hid (HB.out.keeps0 KW7.out); have HT7 := Lib.hid (HT.out.keeps0 KW7.out)
    clear KD6 HX6 HV6 HC6 HR6 HP6 HXB6 KW6
    obtain ⟨d0, d1, d2, d3⟩ := HB7.out
    have hbx := HB7.out.lt
    obtain ⟨e0, e1, e2, e3, e4, e5, e6⟩ := HX7.out
    have hxl := HX7.out.lt
    have HLO := Lib.hid (cutIn OK.out HCO.out s).low
    have HGV := Lib.hid (show ∀ p ∈ t.goal, 0 ≤ p ∧ p < ((valL t s costs).length : Int) from fun p hp => by have := HGB.out p hp; rw [hvl]; omega)
    go_upto_region 5 with fail
    go_region_held3 (fun w' => w'.cell? ⟨w.heap.size, 2, none⟩ = some (.slice ag t.goal.length cg) ∧ w'.cell? ⟨X, 6, none⟩ = some (.slice ao3 (t.n.toNat + 1) cap3))
     (go_keep)
     (first | (go_at_call 92; refine (greatest_any _ _ _ (valL t s costs) t.goal HV7.out HT7.out.goal HGV.out HLO.out).mono ?_; rintro en w9 ⟨rfl, rfl⟩))
    all_goals
     have HGL2 := Lib.hid (comb_great (valL t s costs) t.goal HLO.out)
     obtain ⟨G, hG⟩ : ∃ G, greatL (valL t s costs) t.goal = G := ⟨_, rfl⟩
     have HGE := Lib.hid hG
     rw [hG] at HGL2 ⊢
     have hG0 := HGL2.out
     clear hG
     obtain ⟨k', hk'⟩ : ∃ k', gk = k' + 1 := ⟨gk - 1, by have := payL_low (fun c h => (HCO.out.low c h).1) (List.range costs.length); have := HPK.out; omega⟩
     have HCT2 := Lib.hid (show R = if G = 0 then tot else if G = 1000000000 then 1000000000 else cutsT t s k' (lowC (cutT t s costs).1 (cutT t s costs).2 costs) (tot + (cutT t s costs).2) by
      have h := HCT.out
      rw [hk', cutsT, HGE.out] at h
      exact h.symm)
     by_cases h0 : G = 0
     ·subst h0
      have HRT := Lib.hid (show R = tot by rw [HCT2.out, if_pos rfl])
      go_wp2_with fail
      go_ret2
      exact ⟨⟨_, by rw [HRT.out] <;> rfl⟩, HK1.out.trans KW7.out⟩
     ·by_cases h1 : G = 1000000000
      ·subst h1
       have HRT := Lib.hid (show R = 1000000000 by rw [HCT2.out, if_neg h0, if_pos rfl])
       clear h0
       go_wp2_with fail
       go_ret2
       exact ⟨⟨_, by rw [HRT.out] <;> rfl⟩, HK1.out.trans KW7.out⟩
      ·have HRT := Lib.hid (show R = cutsT t s k' (lowC (cutT t s costs).1 (cutT t s costs).2 costs) (tot + (cutT t s costs).2) by rw [HCT2.out, if_neg h0, if_neg h1])
       have HRO := Lib.hid (round_ok OK.out HCO.out HSB.out (by rw [HGE.out]; omega) (by rw [HGE.out]; omega))
       have HGP := Lib.hid (show 0 < greatL (valL t s costs) t.goal by rw [HGE.out]; omega)
       have b0 : (G == 0) = false := by simp; omega
       have b1 : (G == 1000000000) = false := by simp; omega
       clear h0 h1
       have HGC := Lib.hid (show gc < w6.drew.heap.size from by
        obtain ⟨ix, hix⟩ := HRO.out.ne
        have hi := HRO.out.inn ix hix
        exact (HC7.out.at (j := ix.toNat) (by have := HCO.out.len; omega)).elim fun _ h => h.2.2.2)
       go_wp2_with fail
       refine (cut_any _ X _ _ _ _ _ _ t n s costs HN.out HX7.out HT7.out OK.out HV7.out (HS.out.keeps0 KW7.out) HSBn.out HC7.out.ints HCO.out HGP.out).mono ?_
       rintro en w8 ⟨vx, rfl, hown, hk8⟩
       obtain ⟨a9, c9, hv9⟩ := ownsRow_form1 hown
       subst hv9
       have HPAY := Lib.hid (low_fuel HCO.out HRO.out)
       have HLOK := Lib.hid (low_ok HCO.out HRO.out)
       generalize cutT t s costs = q at HRT HRO hown HPAY HLOK ⊢
       have KL := (Keeps.refl (fun _ => False) w8).alloc (.cells #[.slice a9 q.1.length c9, .int .i64 q.2] 195)
       have HB9 := Lib.hid (heap_alloc_new w8 (.cells #[.slice a9 q.1.length c9, .int .i64 q.2] 195))
       have KK := hk8.trans KL
       have HX9 := Lib.hid (HX7.out.keeps0 KK); have HC9 := Lib.hid (HC7.out.keeps KK (fun h => h)); have HR9 := Lib.hid (KK.ownsRow HR7.out (fun _ _ h => h)); have HP9 := Lib.hid (HP7.out.trans (KK.mono (fun _ _ h => h.elim))); have HXB9 := Lib.hid (KK.heap HXB7.out (fun h => h)); have KW9 := Lib.hid (KW7.out.trans KK)
       have HO9 := Lib.hid (KL.ownsRow hown (fun _ _ h => h))
       have hb98 : w6.drew.heap.size ≤ w8.heap.size := hk8.size
       obtain ⟨b9, hb9⟩ : ∃ b9, w8.heap.size = b9 := ⟨_, rfl⟩
       clear hk8 KL KK hown d0 d1 d2 d3 hbx e0 e1 e2 e3 e4 e5 e6 hxl b0 b1 hG0
       have hfew : q.1.length ≤ 40 := by have := HRO.out.few; have := OK.out.few; omega
       go_upto_region 11 with fail
       rw [hb9] at HB9 hb98
       generalize (w8.alloc (.cells #[.slice a9 q.1.length c9, .int .i64 q.2] 195)) = w9 at HB9 HX9 HC9 HR9 HP9 HXB9 KW9 HO9 ⊢
       have HBG := Lib.hid (show ¬ b9 = gc from fun e => by have := HGC.out; omega)
       obtain ⟨r0, r1, z0, z1, hl9⟩ := pair_cells HB9.out
       go_wp2_with fail
       clear r0 r1 z0 z1 hl9 hb9
       go_loopw [48] (fun v48 wr' => ∃ i : Nat, v48 = .int .i64 (i : Int) ∧ i ≤ q.1.length ∧ CRow wr' gc (.slice a5 t.ops.length c5) (lowC (q.1.take i) q.2 costs) ∧ Keeps (fun b => b = gc) w9 wr') (fun v48 _ => q.1.length - (intOf v48).toNat)
       case atStart => exact ⟨0, rfl, Nat.zero_le _, HC9.out, Keeps.refl _ _⟩
       case round =>
        obtain ⟨i, rfl, hi, hcr, hkr⟩ := hrel
        have HB9r := Lib.hid (hkr.heap HB9.out HBG.out)
        obtain ⟨r0, r1, z0, z1, hl9⟩ := pair_cells HB9r.out
        by_cases hil : i < q.1.length
        ·obtain ⟨ix, hix⟩ : ∃ ix, q.1[i]? = some ix := ⟨_, List.getElem?_eq_getElem hil⟩
         have hxi := HRO.out.inn ix (List.mem_of_getElem? hix)
         obtain ⟨jx, rfl⟩ := Int.eq_ofNat_of_zero_le hxi.1
         have hjl : jx < costs.length := by have := HCO.out.len; omega
         obtain ⟨l1, l2⟩ := lowC_spec q.2 (q.1.take i) costs (HRO.out.nodup.sublist (List.take_sublist i q.1)) (fun y hy => by have := HRO.out.inn y (List.mem_of_mem_take hy); have := HCO.out.len; omega)
         have hnot : (jx : Int) ∉ q.1.take i := fun hm => by
          obtain ⟨j', hj'⟩ := List.mem_iff_getElem?.1 hm
          rw [List.getElem?_take] at hj'
          split at hj'
          ·have := (List.getElem?_inj (List.getElem?_eq_some_iff.1 hj').1 HRO.out.nodup).1 (hj'.trans hix.symm)
           omega
          ·cases hj'
         have hgv : getV (lowC (q.1.take i) q.2 costs) (jx : Int) = getV costs (jx : Int) := by rw [l2 _ (by omega), if_neg hnot]
         have hgb : getV costs (jx : Int) ≤ 100 := (HCO.out.low _ (List.mem_of_getElem? (getV_at hjl))).2
         have HTK := Lib.hid (show lowC (q.1.take (i + 1)) q.2 costs = (lowC (q.1.take i) q.2 costs).set jx (getV costs (jx : Int) - q.2) by rw [take_getS hix, lowC_snoc, hgv, Int.toNat_natCast])
         obtain ⟨cap, hvc, hc1, hf1, hgl⟩ := hcr.at (j := jx) (by rw [l1]; exact hjl)
         simp only [Value.slice.injEq] at hvc
         obtain ⟨rfl, _, _⟩ := hvc
         rw [hgv] at hc1
         have hpos := HRO.out.pos
         have hown := hkr.ownsRow HO9.out (fun k hk e => by have h1 := (World.ownsRow.lt HO9.out k hk).1; have h2 := HGC.out; have h3 : k = gc := e; omega)
         obtain ⟨b2, o2, rfl, hca⟩ := (Ints.of_own hown).cell rfl (by omega)
         have hc2 := hca i _ hix
         have HN2 := Lib.hid (show CRow (wr.setCell ⟨gc, jx, none⟩ (.int .i64 (getV costs (jx : Int) - q.2))) gc (.slice (some ⟨gc, 0, none⟩) t.ops.length c5) (lowC (q.1.take (i + 1)) q.2 costs) by rw [HTK.out]; exact hcr.set _ (by rw [l1]; exact hjl))
         have HK2 := Lib.hid (hkr.trans (keeps_set wr gc jx (.int .i64 (getV costs (jx : Int) - q.2))))
         have hsx := HX9.out.keeps hkr (fun e => HGX.out e.symm)
         have hxl := hsx.lt
         obtain ⟨e0, e1, e2, e3, e4, e5, e6⟩ := hsx
         have hjo : (jx : Int) < (t.ops.length : Int) := by omega
         have hsub : q.2 ≤ getV costs (jx : Int) := hxi.2.2
         clear hcr hkr hca hown l1 l2 hnot hgv hix hxi
         generalize getV costs (jx : Int) = y at hc1 hgb hsub HN2 HK2 HTK
         go_wp2_with fail
         go_region
         all_goals
          go_wp2_with fail
          go_roundw
          case rel => exact ⟨i + 1, by go_num, by omega, HN2.out.keeps ((Keeps.refl (fun _ => False) _).drew) (fun h => h), HK2.out.drew⟩
          case measure => simp [intOf]; omega
        ·rw [List.take_of_length_le (by omega)] at hcr
         have hsx := HX9.out.keeps hkr (fun e => HGX.out e.symm)
         have hrr := hkr.ownsRow HR9.out (fun k hk e => by
          have h1 := (World.ownsRow.lt HR9.out k hk).1; have h2 := HGC.out; have h3 : k = gc := e
          obtain ⟨ix, hix⟩ := HRO.out.ne
          have hi2 := HRO.out.inn ix hix
          have h4 := HG3.out (by omega)
          omega)
         obtain ⟨a7, c7, hv7⟩ := ownsRow_formN hrr
         subst hv7
         have HCRz := Lib.hid hcr; have HSXz := Lib.hid hsx; have HRRz := Lib.hid hrr; have HKRz := Lib.hid hkr
         have hsz : w3.heap.size ≤ wr.heap.size := Nat.le_trans HP9.out.size hkr.size
         have hpos := HRO.out.pos
         have hm4 : (m : Int) ≤ 4000 := by have := HMT.out; have := HT4'.out; have := payL_low (fun c h => (HCO.out.low c h).1) (List.range costs.length); omega
         have htt : 0 ≤ tot ∧ tot ≤ 4000 := by have := HT0.out; have := HT4'.out; have := payL_low (fun c h => (HCO.out.low c h).1) (List.range costs.length); omega
         clear hcr hsx hrr hkr
         go_wp2_with (at_builtin; refine wpList_append_lies _ rfl _ _ _ rfl w3.heap.size 195 j0 _ 2 32 Tryz.underlying149 hj0 jz0 jz1 jz2 rfl (by omega) _ m xs (by rfl) (HRRz.out.alloc _) ⟨wr.heap.size, 0, none⟩ 1 1 [.slice a9 q.1.length c9, .int .i64 q.2] (by rfl) (by rfl) ?hnews ?hone (by omega) (by unfold maxLen; omega) (by omega) (by simp; omega) (wr.heap.size + 1) (by simp) ?_)
         case hnews => exact World.news_of_block (cs := #[.slice a9 q.1.length c9, .int .i64 q.2]) (t := 195) (fr := (0, 0)) (heap_alloc_new _ _)
         case hone => simp [Value.oneCell']
         intro g2 cap2 w5 hown2 hgrow hat hlt3
         have k5 := ((Keeps.refl (fun b => (Value.slice a7 m c7).ownBlock = some b) wr).alloc (.cells #[.slice a9 q.1.length c9, .int .i64 q.2] 195)).grown hgrow (fun k hk => .inl hk)
         have hb3 : b9 < wr.heap.size := hl9
         have kall := (HP9.out.trans (HKRz.out.mono (fun _ _ h => .inr h))).trans' k5 (fun i hi => .inr (HRRz.out.lt i hi).1)
         have hnb : ∀ k, (Value.slice a7 m c7).ownBlock = some k → w3.heap.size ≤ k := fun k hk => (World.ownsRow.lt HRRz.out k hk).1
         have hg3 := HG3.out (by obtain ⟨ix, hix⟩ := HRO.out.ne; have hi2 := HRO.out.inn ix hix; omega)
         have hx3 := HXS.out
         have hb93 : w3.heap.size ≤ b9 := by have := HP7.out.size; omega
         have hnb9 : ¬ (Value.slice a7 m c7).ownBlock = some b9 := fun e => by have := (World.ownsRow.lt HR7.out b9 e).2; omega
         have r0' := k5.cell r0 hnb9
         have r1' := k5.cell r1 hnb9
         have hl9' : b9 < w5.heap.size := World.block_lt_of_cell? w5 _ r0'
         have HCRf := Lib.hid (HCRz.out.keeps k5 (fun e => by have := hnb gc e; omega))
         have HSXf := Lib.hid (HSXz.out.keeps k5 (fun e => by have := hnb X e; omega))
         have HXBf := Lib.hid (k5.heap (HKRz.out.heap HXB9.out (fun e => HGX.out e.symm)) (fun e => by have := hnb X e; omega))
         have HKf := Lib.hid kall; have HOf := Lib.hid hown2
         have HPAY2 := HPAY.out; have HPK2 := HPK.out; have HT42 := HT4'.out; have HMT2 := HMT.out; have HT02 := HT0.out
         have HFAT := Lib.hid (show FAt w3 X gc n (.slice ai t.init.length ci) (.slice ag t.goal.length cg) (.slice ao t.ops.length co) (.slice a4 s.length cs) (.slice a5 t.ops.length c5) t s R k' (.slice (some ⟨g2, 0, none⟩) (m + 1) cap2) (.int .i64 (tot + q.2)) w5 from
          ⟨lowC q.1 q.2 costs, tot + q.2, m + 1, xs ++ [.slice a9 q.1.length c9, .int .i64 q.2], _, rfl, HLOK.out, HCRf.out, HSXf.out, by rw [hk'] at HPK2; omega, by omega, by omega, HRT.out.symm, HOf.out, by omega, ⟨_, _, HXBf.out⟩, HKf.out⟩)
         clear hown2 hgrow hat k5 kall hnb hg3 hx3 hb93 hnb9 r0 r1 z0 z1 hl9 hb3 HPAY2 HPK2 HT42 HMT2 HT02
         go_wp2_with fail
         go_roundg k'
         case rel => exact HFAT.out
         case measure => omega

set_option maxRecDepth 100000 in
set_option maxHeartbeats 4000000 in
theorem cuts_any (w : World) (vi vg vo vs : Value) (t : Tsk) (x : Nat) (h : TaskAt w vi vg vo t) (ok : t.Ok) (hg : Good t.n x) (hs : Ints w vs (facts x)) :
  Calls Tryz.prog 79 #[.agg #[.int .i64 t.n, vi, vg, vo], vs] w fun e w' => ∃ vx, e = .returned (.tuple #[vx, .int .i64 (cutsH t x), fltV 0 0]) ∧ Keeps (fun _ => False) w w' := by
 obtain ⟨ai, ci, h1, _⟩ := h.init.form
 obtain ⟨ag, cg, h2, _⟩ := h.goal.form
 obtain ⟨ao, co, h3, hmo⟩ := h.ops.form
 subst h1 h2 h3
 obtain ⟨aa, cs, h4, _⟩ := hs.form
 subst h4
 have HE := Lib.hid (show stateFault t (facts x) = (0, 0) by unfold stateFault; rw [if_pos (taskFault_zero.2 ok), if_pos hg.1])
 have HSB := Lib.hid (isSet_iff.1 hg.1).1
 have K1 := (Keeps.refl (fun _ => False) w).alloc (.cells #[.int .i64 t.n, .slice ai t.init.length ci, .slice ag t.goal.length cg, .slice ao t.ops.length co] 25)
 have KA2 := K1.alloc (.cells #[.int .i64 0, .int .i64 0] 31)
 have HT := Lib.hid (h.keeps0 KA2)
 have HB := Lib.hid ((Four.new w (.int .i64 t.n) (.slice ai t.init.length ci) (.slice ag t.goal.length cg) (.slice ao t.ops.length co) 25).keeps0 ((Keeps.refl _ _).alloc (.cells #[.int .i64 0, .int .i64 0] 31)))
 have HF : Flt w ((w.alloc (.cells #[.int .i64 t.n, .slice ai t.init.length ci, .slice ag t.goal.length cg, .slice ao t.ops.length co] 25)).alloc (.cells #[.int .i64 0, .int .i64 0] 31)) (w.heap.size + 1) 31 :=
  ⟨by have := heap_alloc_new (w.alloc (.cells #[.int .i64 t.n, .slice ai t.init.length ci, .slice ag t.goal.length cg, .slice ao t.ops.length co] 25)) (.cells #[.int .i64 0, .int .i64 0] 31); rwa [World.size_alloc] at this, by omega, KA2⟩
 replace HF := Lib.hid HF
 have HS := Lib.hid (show Ints _ (.slice aa (facts x).length cs) (facts x) from hs.keeps0 KA2)
 have OK := Lib.hid ok
 clear h hs ok hg K1 KA2
 go_enter Tryz.func79, Tryz.ntmps79
 go_upto_region 1 with fail
 generalize ((w.alloc (.cells #[.int .i64 t.n, .slice ai t.init.length ci, .slice ag t.goal.length cg, .slice ao t.ops.length co] 25)).alloc (.cells #[.int .i64 0, .int .i64 0] 31)) = w1 at HT HB HF HS ⊢
 obtain ⟨d0, d1, d2, d3⟩ := HB.out
 have hbx := HB.out.lt
 go_wp2_with fail
 refine (stateFault_any _ _ _ _ _ t (facts x) HT.out HS.out).mono ?_; rintro e w2 ⟨rfl, hk⟩
 rw [HE.out]
 have KA := hk.trans ((Keeps.refl (fun _ => False) w2).alloc (.cells #[.int .i64 0, .int .i64 0] 31))
 have HT3 := Lib.hid (HT.out.keeps0 KA); have HB3 := Lib.hid (HB.out.keeps0 KA); have HF3 := Lib.hid (HF.out.keeps0 KA); have HS3 := Lib.hid (HS.out.keeps0 KA)
 have F0 := Lib.hid (heap_alloc_new w2 (.cells #[.int .i64 0, .int .i64 0] 31))
 clear d0 d1 d2 d3 hbx hk KA HT HB HF HS
 go_upto_region 2 with fail
 generalize (w2.alloc (.cells #[.int .i64 0, .int .i64 0] 31)) = w3 at HT3 HB3 HF3 HS3 F0 ⊢
 generalize w2.heap.size = b9 at F0 ⊢
 obtain ⟨f0, f1, y0, y1, fl⟩ := pair_cells F0.out
 clear y0 y1
 obtain ⟨d0, d1, d2, d3⟩ := HB3.out
 have hbx := HB3.out.lt
 go_wp2_with fail
 refine (find_any _ _ _ _ _ t (facts x) HT3.out OK.out HS3.out HSB.out).mono ?_; rintro en w4 ⟨vx, rfl, hk4⟩
 have HF4 := Lib.hid (HF3.out.keeps0 hk4)
 have HST := Lib.hid (HF4.out.set (.int .i64 0) (.int .i64 0))
 obtain ⟨c0, c1, z0, z1, hF⟩ := HF4.out.cells
 clear d0 d1 d2 d3 hbx f0 f1 fl hk4
 go_wp2_with fail
 refine bodyPost_ret (results_tmp2_cell _ _ (w.heap.size + 1) 31 #[.int .i64 0, .int .i64 0] (0, 0) _ rfl rfl HST.out.1 Tryz.underlying31 rfl (by kernel_rfl)) rfl ?_
 exact ⟨vx, rfl, HST.out.2⟩

end Go.Proofs.YtdokakhgflljgaaGreat

namespace Go.Proofs.YtdokakhgflljgaaGreat
open Go.RowKit

theorem in_true (w : World) (x lo hi : Int) (h : inB x lo hi = true) : Calls Tryz.prog 11 #[.int .i64 x, .int .i64 lo, .int .i64 hi] w fun e w' => e = .returned (.bool true) ∧ w' = w :=
 (in_any w x lo hi).mono fun _ _ k => ⟨by rw [k.1, h], k.2.symm⟩

end Go.Proofs.YtdokakhgflljgaaGreat
