/- pairs: the walk of use. pairs: the walks of find and Goal. pairs: the walk of Goal. astar.Value at the kinds Max, Add and Pairs. lmcut: cuts and the sum of their costs as functions, and that the sum is admissible, in plain Lean. lmcut: a round of cuts lessens the costs, and every plan pays for it, in plain Lean. lmcut: the search's struct in memory, and the walk of hardest. No condition beyond what each theorem says. -/
import Derived.Test.YtdokakhgflljgaaGreatM10
import Derived.Test.YtdokakhgflljgaaGreatM8
import Derived.Test.YtdokakhgflljgaaGreatM2

namespace Go.Proofs.YtdokakhgflljgaaGreat
open Go.RowKit Go.Shelf

theorem lowT_flag {n p q : Nat} {x : Int} {v : List (List Int)} (hv : Tbl n v) (hp : p < n) (hq : q < n) (hx : 0 ≤ x ∧ x ≤ 1000000000) : Flag weightT v (lowT v p q x) (decide (x < getT v p q)) := by
 by_cases h : x < getT v p q
 ·refine .inr ⟨by simpa using h, ?_⟩
  refine (lowT_ok hp hq hx v hv).2.2.resolve_left (fun e => ?_)
  have := lowT_done hv hp hq hx e
  omega
 ·exact .inl ⟨by simpa using h, by unfold lowT; rw [if_neg h]⟩
theorem addAll_snoc (v : List (List Int)) (ps : List Int) (q p x : Int) : addAll v (ps ++ [q]) p x = lowT (addAll v ps p x) p.toNat q.toNat x := by unfold addAll; rw [List.foldl_append]; rfl
theorem otherP_succ (v : List (List Int)) (o : Opr) (p : Int) (k : Nat) : otherP v o p (k + 1) = if (k : Int) ∈ o.add ∨ (k : Int) ∈ o.del then otherP v o p k else lowT (otherP v o p k) p.toNat k (plusI (valueP (otherP v o p k) (withF o.pre k)) o.cost) := by
 unfold otherP; rw [List.range_succ, List.foldl_append]; rfl
theorem usePK_snoc (v : List (List Int)) (o : Opr) (n : Nat) (c : Int) (ps : List Int) (p : Int) : usePK v o n c (ps ++ [p]) = otherP (addAll (usePK v o n c ps) o.add p c) o p n := by unfold usePK; rw [List.foldl_append]; rfl

set_option maxHeartbeats 1000000 in
theorem union_any (w : World) (va vb : Value) (a b : List Int) (ha : Ints w va a) (hb : Ints w vb b) (la : a.length ≤ 1000) (lb : b.length ≤ 1000) :
  Calls Tryz.prog 134 #[va, vb] w fun e w' => ∃ v, e = .returned v ∧ w'.ownsRow w.heap.size 3 1 v (updL a b []).length ((updL a b []).map (Value.int .i64)) ∧ Keeps (fun _ => False) w w' := by
 have HA := Lib.hid ha; have HB := Lib.hid hb
 clear ha hb
 go_enter Tryz.func134, Tryz.ntmps134
 go_wp2_with fail
 refine (update_any _ _ _ _ a b [] HA.out HB.out (Ints.nil _) List.Pairwise.nil la lb (by simp)).mono ?_
 rintro e w' ⟨v, rfl, hown, hk⟩
 have HO := Lib.hid hown; have HK := Lib.hid hk
 clear hown hk
 go_wp2_with fail
 go_ret
 exact ⟨v, rfl, HO.out, HK.out⟩

theorem Four.keepsB {S : Nat → Prop} {w w' : World} {b : Nat} {x0 x1 x2 x3 : Value} (h : Four w b x0 x1 x2 x3) (hk : Keeps S w w') (hs : ¬ S b) : Four w' b x0 x1 x2 x3 := by
 exact ⟨hk.cell h.c0 hs, hk.cell h.c1 hs, hk.cell h.c2 hs, hk.cell h.c3 hs⟩

section
variable (w2 : World) (gT n : Nat) (rs : List Nat) (v : List (List Int)) (v' : List (List Int)) (v5 : Value) (wr : World)
/-- Between the steps of use: the table, what has changed, and whether. -/
def UseAt : Prop := ∃ ch : Bool, v5 = .bool ch ∧ Tab wr gT n rs v' ∧ Keeps (fun b => b ∈ rs) w2 wr ∧ Flag weightT v v' ch
end

theorem sub_one (q : Int) (l : List Int) : subB [q] l = decide (q ∈ l) := by
 unfold subB
 simp

set_option maxRecDepth 100000 in
set_option maxHeartbeats 8000000 in
theorem puse_any (w0 w : World) (gT n : Nat) (rs : List Nat) (v : List (List Int)) (va vb vd : Value) (o : Opr) (h0 : Keeps (fun _ => False) w0 w) (hr : ∀ g ∈ rs, w0.heap.size ≤ g) (hT : Tab w gT n rs v) (hv : Tbl n v) (hn : n ≤ 24)
  (i1 : Ints w0 va o.pre) (i2 : Ints w0 vb o.add) (i3 : Ints w0 vd o.del) (oko : o.Ok (n : Int)) :
  Calls Tryz.prog 122 #[.slice (some ⟨gT, 0, none⟩) n n, .agg #[va, vb, vd, .int .i64 o.cost]] w fun e w' => ∃ ch, e = .returned (.bool ch) ∧ Tab w' gT n rs (useP v o n) ∧ Keeps (fun b => b ∈ rs) w w' ∧ Flag weightT v (useP v o n) ch := by
 obtain ⟨a1, k1, f1, _⟩ := i1.form
 obtain ⟨a2, k3, f2, _⟩ := i2.form
 obtain ⟨a3, k4, f3, _⟩ := i3.form
 subst f1 f2 f3
 have HRS := Lib.hid (show ∀ g ∈ rs, g < w.heap.size from fun g hg => by
  obtain ⟨p, hp⟩ := List.mem_iff_getElem?.1 hg
  obtain ⟨g', e1, _, _, e2, _⟩ := hT.get (p := p) (by have := hT.len; have := (List.getElem?_eq_some_iff.1 hp).1; omega)
  rw [hp] at e1; cases e1; exact e2)
 have K1 := (Keeps.refl (fun _ => False) w).alloc (.cells #[.slice a1 o.pre.length k1, .slice a2 o.add.length k3, .slice a3 o.del.length k4, .int .i64 o.cost] 80)
 have HO := Lib.hid (Four.new w (.slice a1 o.pre.length k1) (.slice a2 o.add.length k3) (.slice a3 o.del.length k4) (.int .i64 o.cost) 80)
 have HT := Lib.hid (hT.keeps0 K1)
 have HI1 := Lib.hid i1; have HI2 := Lib.hid i2; have HI3 := Lib.hid i3
 have HK1 := Lib.hid K1; have HV := Lib.hid hv; have HR := Lib.hid hr
 have HK0 := Lib.hid (h0.trans K1)
 have U1 := Lib.hid (isSet_iff.1 oko.pre); have U2 := Lib.hid (isSet_iff.1 oko.add); have U3 := Lib.hid (isSet_iff.1 oko.del)
 have L1 := Lib.hid (isSet_length oko.pre (by omega))
 have HC := Lib.hid (show 0 ≤ o.cost ∧ o.cost ≤ 1000000000 by have := oko.cost0; have := oko.cost1; omega)
 clear hT i1 i2 i3 K1 hv oko h0 hr
 go_enter Tryz.func122, Tryz.ntmps122
 go_upto_region 2 with fail
 generalize (w.alloc (.cells #[.slice a1 o.pre.length k1, .slice a2 o.add.length k3, .slice a3 o.del.length k4, .int .i64 o.cost] 80)) = w1 at HO HT HK0 HK1 ⊢
 obtain ⟨bx, hbx⟩ : ∃ bx, w.heap.size = bx := ⟨_, rfl⟩
 rw [hbx] at HO HRS ⊢
 have HBX := Lib.hid (show ¬ bx ∈ rs from fun e => by have := HRS.out bx e; omega)
 have KD := (Keeps.refl (fun _ => False) w1).drew
 have HOD := Lib.hid (HO.out.keeps0 KD); have HTD := Lib.hid (HT.out.keeps0 KD)
 have HKD := Lib.hid (HK1.out.trans KD); have HK0D := Lib.hid (HK0.out.trans KD)
 have I1D := Lib.hid (HI1.out.keeps0 HK0D.out)
 obtain ⟨d0, d1, d2, d3⟩ := HOD.out
 have hbl := HOD.out.lt
 have HVB := Lib.hid (valueP_bound HV.out o.pre)
 clear KD HO HT HK1 HK0 hbx
 go_region_held3 (fun w' => w'.cell? ⟨bx, 0, none⟩ = some (.slice a1 o.pre.length k1) ∧ w'.cell? ⟨bx, 3, none⟩ = some (.int .i64 o.cost))
  (go_keep)
  (first
   | (go_at_call 102; refine (pvalue_any _ gT n rs v _ o.pre HTD.out I1D.out U1.out.1).mono ?_; rintro en w9 ⟨rfl, rfl⟩)
   | (go_at_call 117; refine (plus_any _ _ _ HVB.out HC.out).mono ?_; rintro en w9 ⟨rfl, rfl⟩))
 all_goals
  have HX := Lib.hid (plusI_low HVB.out.1 HC.out.1)
  have HUP := Lib.hid (show useP v o n = usePK v o n (plusI (valueP v o.pre) o.cost) o.add from rfl)
  generalize plusI (valueP v o.pre) o.cost = c at HX HUP ⊢
  generalize w1.drew = w2 at HOD HTD I1D HKD HK0D d0 d1 d2 d3 hbl ⊢
  go_wp2_with fail
  clear d0 d1 d2 d3
  go_loopw [5, 23] (fun v5 v23 wr => ∃ j : Nat, v23 = .int .i64 (j : Int) ∧ j ≤ o.add.length ∧ UseAt w2 gT n rs v (usePK v o n c (o.add.take j)) v5 wr) (fun _ v23 _ => o.add.length - (intOf v23).toNat)
  case atStart => exact ⟨0, rfl, Nat.zero_le _, false, rfl, HTD.out, Keeps.refl _ _, .inl ⟨rfl, rfl⟩⟩
  case round =>
   obtain ⟨j, rfl, hj, ch, rfl, ht, hk, hf⟩ := hrel
   have HTJ := Lib.hid ht; have HKJ := Lib.hid hk; have HFJ := Lib.hid hf
   clear ht hk hf
   by_cases hjl : j < o.add.length
   ·have HW := Lib.hid (HK0D.out.trans' HKJ.out (fun i hi => .inr (HR.out i hi)))
    obtain ⟨b2, o2, rfl, hcell⟩ := (HI2.out.keeps0 HW.out).cell rfl (by omega)
    obtain ⟨p, hpj⟩ : ∃ p, o.add[j]? = some p := ⟨_, List.getElem?_eq_getElem hjl⟩
    have hpb := U2.out.1 p (List.mem_of_getElem? hpj)
    obtain ⟨p, rfl⟩ := Int.eq_ofNat_of_zero_le hpb.1
    have hp : p < n := by omega
    have HVJ := Lib.hid (show Tbl n (usePK v o n c (o.add.take j)) from (usePK_ok (n := n) (o := o) (ps := o.add.take j) U2.out.1 (fun q hq => U2.out.1 q (List.mem_of_mem_take hq)) HC.out.1 HX.out v HV.out).1)
    have HNJ := Lib.hid (show usePK v o n c (o.add.take (j + 1)) = otherP (addAll (usePK v o n c (o.add.take j)) o.add p c) o p n by rw [take_getS hpj, usePK_snoc])
    have HVJ' : Tbl n (usePK v o n c (o.add.take j)) := HVJ.out
    generalize usePK v o n c (o.add.take j) = vj at HTJ HFJ HNJ HVJ'
    have HVJ := Lib.hid HVJ'
    have c0 := hcell j _ hpj
    obtain ⟨q0, q1, q2, q3⟩ := (HOD.out.keepsB HKJ.out HBX.out)
    have hql : bx < wr.heap.size := (HOD.out.keepsB HKJ.out HBX.out).lt
    have HCL := Lib.hid hcell
    clear HVJ' hcell hpj hpb
    go_wp2_with fail
    clear q0 q1 q2 q3 hql c0
    go_loopw [5, 30] (fun v5 v30 wr' => ∃ i : Nat, v30 = .int .i64 (i : Int) ∧ i ≤ o.add.length ∧ UseAt w2 gT n rs v (addAll vj (o.add.take i) p c) v5 wr') (fun _ v30 _ => o.add.length - (intOf v30).toNat)
    case atStart => exact ⟨0, rfl, Nat.zero_le _, ch, rfl, HTJ.out, HKJ.out, HFJ.out⟩
    case round =>
     obtain ⟨i, rfl, hi, ch2, rfl, ht, hk, hf⟩ := hrel
     have HTI := Lib.hid ht; have HKI := Lib.hid hk; have HFI := Lib.hid hf
     clear ht hk hf
     have HVI := Lib.hid (show Tbl n (addAll vj (o.add.take i) p c) from (addAll_ok (n := n) (ps := o.add.take i) (p := (p : Int)) (x := c) (by omega) (fun q hq => U2.out.1 q (List.mem_of_mem_take hq)) HX.out vj HVJ.out).1)
     by_cases hil : i < o.add.length
     ·have HW2 := Lib.hid (HK0D.out.trans' HKI.out (fun i hi => .inr (HR.out i hi)))
      obtain ⟨b2', o2', e2, hcell⟩ := (HI2.out.keeps0 HW2.out).cell rfl (by omega)
      cases e2
      obtain ⟨q, hqi⟩ : ∃ q, o.add[i]? = some q := ⟨_, List.getElem?_eq_getElem hil⟩
      have hqb := U2.out.1 q (List.mem_of_getElem? hqi)
      obtain ⟨q, rfl⟩ := Int.eq_ofNat_of_zero_le hqb.1
      have hq : q < n := by omega
      have c1 := hcell i _ hqi
      have HNI := Lib.hid (show addAll vj (o.add.take (i + 1)) p c = lowT (addAll vj (o.add.take i) p c) p q c by rw [take_getS hqi, addAll_snoc]; rfl)
      have HVI' := HVI.out
      generalize addAll vj (o.add.take i) p c = vi at HTI HFI HNI HVI'
      have HFL := Lib.hid (lowT_flag HVI' hp hq HX.out)
      clear hcell hqi hqb HVI'
      go_wp2_with fail
      refine (pset_any _ gT n rs vi p q c HTI.out hp hq).mono ?_
      rintro e w5 ⟨rfl, ht5, hk5⟩
      have HT5 := Lib.hid ht5; have HK5 := Lib.hid (HKI.out.trans hk5)
      clear ht5 hk5
      have HF5 := Lib.hid (HFI.out.more HFL.out)
      generalize decide (c < getT vi p q) = dd at HF5 ⊢
      clear HFL
      cases dd with
      | true =>
       go_wp2_with fail
       go_roundw
       case rel => exact ⟨i + 1, by go_num, by omega, true, rfl, by rw [HNI.out]; exact HT5.out, HK5.out, by rw [HNI.out]; exact HF5.out⟩
       case measure => simp [intOf]; omega
      | false =>
       go_wp2_with fail
       go_roundw
       case rel => exact ⟨i + 1, by go_num, by omega, ch2, rfl, by rw [HNI.out]; exact HT5.out, HK5.out, by rw [HNI.out]; exact HF5.out⟩
       case measure => simp [intOf]; omega
     ·rw [List.take_of_length_le (by omega)] at HTI HFI HVI
      have HVA' := HVI.out
      generalize addAll vj o.add p c = v3 at HTI HFI HNJ HVA'
      have HV3 := Lib.hid HVA'
      clear HVA' HVI
      go_wp2_with fail
      go_loopw [5, 45] (fun v5 v45 wr2 => ∃ q : Nat, v45 = .int .i64 (q : Int) ∧ q ≤ n ∧ UseAt w2 gT n rs v (otherP v3 o p q) v5 wr2) (fun _ v45 _ => n - (intOf v45).toNat)
      case atStart => exact ⟨0, rfl, Nat.zero_le _, ch2, rfl, HTI.out, HKI.out, HFI.out⟩
      case round =>
       obtain ⟨q, rfl, hq, ch3, rfl, ht, hk, hf⟩ := hrel
       have HTQ := Lib.hid ht; have HKQ := Lib.hid hk; have HFQ := Lib.hid hf
       clear ht hk hf
       by_cases hql : q < n
       ·have HVQ := Lib.hid (show Tbl n (otherP v3 o p q) from (otherP_ok (n := n) (o := o) (p := (p : Int)) (k := q) (by omega) (by omega) HC.out.1 v3 HV3.out).1)
        have HNQ := Lib.hid (otherP_succ v3 o p q)
        have HVQ' := HVQ.out
        generalize otherP v3 o p q = vq at HTQ HFQ HNQ HVQ'
        have HVQ := Lib.hid HVQ'
        clear HVQ'
        have HW3 := Lib.hid (HK0D.out.trans' HKQ.out (fun i hi => .inr (HR.out i hi)))
        obtain ⟨q0, q1, q2, q3⟩ := (HOD.out.keepsB HKQ.out HBX.out)
        have hqb : bx < wr.heap.size := (HOD.out.keepsB HKQ.out HBX.out).lt
        have KA := (Keeps.refl (fun _ => False) wr).alloc (.cells #[.int .i64 (q : Int)] 3)
        have HKA := Lib.hid KA
        have HI2A := Lib.hid (HI2.out.keeps0 (HW3.out.trans KA))
        have HQA := Lib.hid (show Ints (wr.alloc (.cells #[.int .i64 (q : Int)] 3)) (.slice (some ⟨wr.heap.size, 0, none⟩) 1 1) [(q : Int)] from (IArr.new wr [(q : Int)]).ints (by simp [maxLen]))
        have HTQA := Lib.hid (HTQ.out.keeps0 KA); have HKQA := Lib.hid (HKQ.out.trans (KA.mono (fun _ _ h => h.elim)))
        have q1A := KA.cell q1 (fun h => h); have q0A := KA.cell q0 (fun h => h); have q2A := KA.cell q2 (fun h => h); have q3A := KA.cell q3 (fun h => h)
        clear KA
        go_wp2_with fail
        refine (contains_any _ _ _ o.add [(q : Int)] HI2A.out HQA.out U2.out.2 (List.pairwise_singleton _ _)).mono ?_
        rintro e w5 ⟨rfl, rfl⟩
        rw [sub_one]
        clear q0 q1 q2 q3
        generalize hwa : wr.alloc (.cells #[.int .i64 (q : Int)] 3) = wa at HKA HI2A HQA HTQA HKQA q0A q1A q2A q3A ⊢
        clear hwa
        by_cases h1 : (q : Int) ∈ o.add
        ·have HN2 := Lib.hid (show otherP v3 o p (q + 1) = vq by rw [HNQ.out, if_pos (.inl h1)])
         rw [decide_eq_true h1]
         clear h1
         go_wp2_with fail
         go_roundw
         case rel => exact ⟨q + 1, by go_num, by omega, ch3, rfl, by rw [HN2.out]; exact HTQA.out, HKQA.out, by rw [HN2.out]; exact HFQ.out⟩
         case measure => simp [intOf]; omega
        ·rw [decide_eq_false h1]
         have KB := (Keeps.refl (fun _ => False) wa).alloc (.cells #[.int .i64 (q : Int)] 3)
         have HI3B := Lib.hid (HI3.out.keeps0 ((HW3.out.trans HKA.out).trans KB))
         have HQB := Lib.hid (show Ints (wa.alloc (.cells #[.int .i64 (q : Int)] 3)) (.slice (some ⟨wa.heap.size, 0, none⟩) 1 1) [(q : Int)] from (IArr.new wa [(q : Int)]).ints (by simp [maxLen]))
         have HTQB := Lib.hid (HTQA.out.keeps0 KB); have HKQB := Lib.hid (HKQA.out.trans (KB.mono (fun _ _ h => h.elim)))
         have HKB := Lib.hid ((HW3.out.trans HKA.out).trans KB)
         have q1B := KB.cell q1A (fun h => h); have q0B := KB.cell q0A (fun h => h); have q2B := KB.cell q2A (fun h => h); have q3B := KB.cell q3A (fun h => h)
         have hqa : bx < wa.heap.size := by have := HKA.out.size; omega
         have H1 := Lib.hid h1
         clear KB h1
         go_wp2_with fail
         refine (contains_any _ _ _ o.del [(q : Int)] HI3B.out HQB.out U3.out.2 (List.pairwise_singleton _ _)).mono ?_
         rintro e w5 ⟨rfl, rfl⟩
         rw [sub_one]
         clear q0A q1A q2A q3A
         generalize hwb : wa.alloc (.cells #[.int .i64 (q : Int)] 3) = wb at HI3B HQB HTQB HKQB HKB q0B q1B q2B q3B ⊢
         clear hwb
         by_cases h2 : (q : Int) ∈ o.del
         ·have HN2 := Lib.hid (show otherP v3 o p (q + 1) = vq by rw [HNQ.out, if_pos (.inr h2)])
          rw [decide_eq_true h2]
          clear h2
          go_wp2_with fail
          go_roundw
          case rel => exact ⟨q + 1, by go_num, by omega, ch3, rfl, by rw [HN2.out]; exact HTQB.out, HKQB.out, by rw [HN2.out]; exact HFQ.out⟩
          case measure => simp [intOf]; omega
         ·have HN2 := Lib.hid (show otherP v3 o p (q + 1) = lowT vq p q (plusI (valueP vq (withF o.pre q)) o.cost) by rw [HNQ.out, if_neg (fun h => h.elim H1.out h2)]; rfl)
          rw [decide_eq_false h2]
          clear h2
          go_upto_region 15 with fail
          have KD := (Keeps.refl (fun _ => False) wb).drew
          have KE := ((Keeps.refl (fun _ => False) wb).alloc (.cells #[.int .i64 (q : Int)] 3)).drew
          have HI1E := Lib.hid (HI1.out.keeps0 (HKB.out.trans KE))
          have HQE := Lib.hid (show Ints (wb.alloc (.cells #[.int .i64 (q : Int)] 3)).drew (.slice (some ⟨wb.heap.size, 0, none⟩) 1 1) [(q : Int)] from ((IArr.new wb [(q : Int)]).ints (by simp [maxLen])).keeps0 (Keeps.refl (fun _ => False) _).drew)
          have HTQE := Lib.hid (HTQB.out.keeps0 KE)
          have HKE := Lib.hid KE
          have e0 := KE.cell q0B (fun h => h); have e3 := KE.cell q3B (fun h => h)
          have p0 := KD.cell q0B (fun h => h); have p3 := KD.cell q3B (fun h => h)
          have hqb2 : bx < wb.heap.size := World.block_lt_of_cell? wb _ q0B
          have HWB := Lib.hid (show ∀ x ∈ withF o.pre q, 0 ≤ x ∧ x < (n : Int) from fun x hx => (withF_mem hx).elim (fun h => U1.out.1 x h) (fun h => by omega))
          have HVW := Lib.hid (valueP_bound HVQ.out (withF o.pre q))
          clear KD KE q0B q1B q2B q3B
          go_region_held3 (fun w' => w'.cell? ⟨bx, 0, none⟩ = some (.slice a1 o.pre.length k1) ∧ w'.cell? ⟨bx, 3, none⟩ = some (.int .i64 o.cost))
           (first | go_keep | exact ⟨e0, e3⟩)
           (first
            | (go_at_call 134; refine (union_any _ _ _ o.pre [(q : Int)] HI1E.out HQE.out L1.out (by simp)).mono ?_; rintro en wc ⟨vu, rfl, hown, hkc⟩; have HU := Lib.hid (Ints.of_own (l := updL o.pre [(q : Int)] []) hown); have HKC := Lib.hid hkc; have u0 := hkc.cell e0 (fun h => h); have u3 := hkc.cell e3 (fun h => h); clear hown hkc)
            | (go_at_call 102; refine (pvalue_any _ gT n rs vq _ (withF o.pre q) (HTQE.out.keeps0 HKC.out) HU.out HWB.out).mono ?_; rintro en w9 ⟨rfl, rfl⟩)
            | (go_at_call 117; refine (plus_any _ _ _ HVW.out HC.out).mono ?_; rintro en w9 ⟨rfl, rfl⟩))
          all_goals
           have HX2 := Lib.hid (plusI_low HVW.out.1 HC.out.1)
           have HTC := Lib.hid (HTQE.out.keeps0 HKC.out)
           have HKW := Lib.hid (HKQB.out.trans ((HKE.out.trans HKC.out).mono (fun _ _ h => h.elim)))
           generalize plusI (valueP vq (withF o.pre q)) o.cost = c2 at HX2 HN2 ⊢
           have HFL := Lib.hid (lowT_flag HVQ.out hp hql HX2.out)
           clear e0 e3 p0 p3 u0 u3
           go_wp2_with fail
           refine (pset_any _ gT n rs vq p q c2 HTC.out hp hql).mono ?_
           rintro e w5 ⟨rfl, ht5, hk5⟩
           have HT5 := Lib.hid ht5; have HK5 := Lib.hid (HKW.out.trans hk5)
           clear ht5 hk5
           have HF5 := Lib.hid (HFQ.out.more HFL.out)
           generalize decide (c2 < getT vq p q) = dd at HF5 ⊢
           clear HFL
           cases dd with
           | true =>
            go_wp2_with fail
            go_roundw
            case rel => exact ⟨q + 1, by go_num, by omega, true, rfl, by rw [HN2.out]; exact HT5.out, HK5.out, by rw [HN2.out]; exact HF5.out⟩
            case measure => simp [intOf]; omega
           | false =>
            go_wp2_with fail
            go_roundw
            case rel => exact ⟨q + 1, by go_num, by omega, ch3, rfl, by rw [HN2.out]; exact HT5.out, HK5.out, by rw [HN2.out]; exact HF5.out⟩
            case measure => simp [intOf]; omega
       ·have HNZ := Lib.hid (show usePK v o n c (o.add.take (j + 1)) = otherP v3 o p q by rw [HNJ.out, show q = n by omega])
        go_wp2_with fail
        go_roundw
        case rel => exact ⟨j + 1, by go_num, by omega, ch3, rfl, by rw [HNZ.out]; exact HTQ.out, HKQ.out, by rw [HNZ.out]; exact HFQ.out⟩
        case measure => simp [intOf]; omega
   ·rw [List.take_of_length_le (by omega)] at HTJ HFJ
    go_wp2_with fail
    go_ret
    exact ⟨ch, rfl, by rw [HUP.out]; exact HTJ.out, (HKD.out.mono (fun _ _ h => h.elim)).trans HKJ.out, by rw [HUP.out]; exact HFJ.out⟩

end Go.Proofs.YtdokakhgflljgaaGreat

namespace Go.Proofs.YtdokakhgflljgaaGreat
open Go.RowKit Go.Shelf

theorem Tryz.info_rowA : (Tryz.prog.info? 22).map (fun i => (i.zero, i.size, i.bytes)) = some (some (.slice none 0 0), 1, 24) := by kernel_rfl
/-- make(table, n). -/
theorem run_make_rows (W : World) (c : Int) (n : Nat) (hc : c = (n : Int)) (hn : n ≤ 100000) :
  (Instr.makeSlice 175 (.int .i64 c) (.int .i64 c)).run Tryz.prog W = .ok (.slice (some ⟨W.heap.size, 0, none⟩) n n) (W.alloc (.cells (Array.replicate n (Value.slice none 0 0)) 22)) := by
 subst hc
 obtain ⟨i0, hi0, hz0, hz1, hz2⟩ := info_parts Tryz.info_rowA
 have hr := run_make (P := Tryz.prog) W 175 22 i0 _ Tryz.underlying175 hi0 hz0 .i64 .i64 n n (by omega) (Int.le_refl _) (by rw [hz2]; omega) (by omega)
 have e : madeCells (Value.cells (.slice none 0 0)) n = Array.replicate n (Value.slice none 0 0) := by
  apply Array.ext
  ·simp [madeCells]
  ·intro i h1 h2
   simp [madeCells, Value.cells]
   rw [Nat.mod_one]; rfl
 rw [hr, hz1]
 simp only [Int.toNat_natCast, Nat.mul_one]
 rw [e]

/-- The first rows of a table; the others are nil. -/
structure TabTo (W : World) (gT n : Nat) (rs : List Nat) (v : List (List Int)) : Prop where
 top : Arr W gT 22 ((rs.map fun g => Value.slice (some ⟨g, 0, none⟩) n n) ++ List.replicate (n - rs.length) (.slice none 0 0))
 len : rs.length = v.length
 row : ∀ (p g : Nat) (r : List Int), rs[p]? = some g → v[p]? = some r → IArr W g r ∧ r.length = n
 nodup : rs.Nodup
 out : gT ∉ rs
 lt : ∀ g ∈ rs, g < W.heap.size
theorem TabTo.keeps {S : Nat → Prop} {W W' : World} {gT n : Nat} {rs : List Nat} {v : List (List Int)} (h : TabTo W gT n rs v) (hk : Keeps S W W') (h1 : ¬ S gT) (h2 : ∀ g ∈ rs, ¬ S g) : TabTo W' gT n rs v :=
 ⟨h.top.keeps hk h1, h.len, fun p g r hg hr => ⟨(h.row p g r hg hr).1.keeps hk (h2 g (List.mem_of_getElem? hg)), (h.row p g r hg hr).2⟩, h.nodup, h.out, fun g hg => Nat.lt_of_lt_of_le (h.lt g hg) hk.size⟩
theorem TabTo.start (W : World) (n : Nat) : TabTo (W.alloc (.cells (Array.replicate n (Value.slice none 0 0)) 22)) W.heap.size n [] [] := by
 refine ⟨?_, rfl, fun p g r h => by simp at h, List.nodup_nil, List.not_mem_nil, fun g h => by cases h⟩
 have h := Arr.new W 22 (List.replicate n (Value.slice none 0 0))
 rw [List.toArray_replicate] at h
 simpa using h
theorem TabTo.tab {W : World} {gT n : Nat} {rs : List Nat} {v : List (List Int)} (h : TabTo W gT n rs v) (hn : rs.length = n) : Tab W gT n rs v :=
 ⟨by have := h.top; rw [hn, Nat.sub_self] at this; simpa using this, hn, by rw [← h.len, hn], h.row, h.nodup, h.out⟩
/-- One row more. -/
theorem TabTo.more {W : World} {gT n : Nat} {rs : List Nat} {v : List (List Int)} (h : TabTo W gT n rs v) {g : Nat} {r : List Int} (hr : IArr W g r) (hl : r.length = n) (hg : g ∉ rs) (hgt : gT ≠ g) (hlt : rs.length < n) :
  TabTo (W.setCell ⟨gT, rs.length, none⟩ (.slice (some ⟨g, 0, none⟩) n n)) gT n (rs ++ [g]) (v ++ [r]) := by
 have hk := keeps_set W gT rs.length (.slice (some ⟨g, 0, none⟩) n n)
 refine ⟨?_, by rw [List.length_append, List.length_append, h.len]; rfl, fun p g' r' hg' hr' => ?_, ?_, ?_, fun g' hg' => ?_⟩
 ·have h1 := h.top.set rs.length (.slice (some ⟨g, 0, none⟩) n n)
  have e : ((rs.map fun g => Value.slice (some ⟨g, 0, none⟩) n n) ++ List.replicate (n - rs.length) (Value.slice none 0 0)).set rs.length (Value.slice (some ⟨g, 0, none⟩) n n) =
    ((rs ++ [g]).map fun g => Value.slice (some ⟨g, 0, none⟩) n n) ++ List.replicate (n - (rs ++ [g]).length) (Value.slice none 0 0) := by
   rw [List.set_append_right _ _ (by rw [List.length_map]; omega), List.length_map, Nat.sub_self, List.map_append, List.append_assoc]
   congr 1
   obtain ⟨m, hm⟩ : ∃ m, n - rs.length = m + 1 := ⟨n - rs.length - 1, by omega⟩
   rw [hm, List.length_append, List.length_singleton, show n - (rs.length + 1) = m by omega, List.replicate_succ]
   rfl
  rw [e] at h1; exact h1
 ·rw [List.getElem?_append] at hg' hr'
  rw [h.len] at hg'
  split at hg'
  ·rename_i hp
   rw [if_pos hp] at hr'
   obtain ⟨a1, a2⟩ := h.row p g' r' hg' hr'
   exact ⟨a1.keeps hk (fun e => h.out (e ▸ List.mem_of_getElem? hg')), a2⟩
  ·rename_i hp
   rw [if_neg hp] at hr'
   have hp0 : p - v.length = 0 := by
    have := (List.getElem?_eq_some_iff.1 hg').1
    simp at this; omega
   rw [hp0] at hg' hr'
   simp at hg' hr'
   subst hg' hr'
   exact ⟨hr.keeps hk (fun e => hgt e.symm), hl⟩
 ·rw [List.nodup_append]
  exact ⟨h.nodup, by simp, fun a ha b hb e => hg (by rw [List.mem_singleton.1 hb] at e; exact e ▸ ha)⟩
 ·rw [List.mem_append, List.mem_singleton]
  exact fun e => e.elim h.out hgt
 ·have hz := hk.size
  rcases List.mem_append.1 hg' with e | e
  ·exact Nat.lt_of_lt_of_le (h.lt g' e) hz
  ·rw [List.mem_singleton.1 e]; exact Nat.lt_of_lt_of_le hr.lt hz
/-- A store into the last row. -/
theorem TabTo.put {W : World} {gT n : Nat} {rs : List Nat} {v : List (List Int)} {g : Nat} {r : List Int} (h : TabTo W gT n (rs ++ [g]) (v ++ [r])) (q : Nat) (x : Int) : TabTo (W.setCell ⟨g, q, none⟩ (.int .i64 x)) gT n (rs ++ [g]) (v ++ [r.set q x]) := by
 have hk := keeps_set W g q (.int .i64 x)
 have hl : rs.length = v.length := by have := h.len; simpa using this
 have hnd := List.nodup_append.1 h.nodup
 refine ⟨h.top.keeps hk (fun e => h.out (by rw [List.mem_append, List.mem_singleton]; exact .inr e)), by simpa using hl, fun p g' r' hg' hr' => ?_, h.nodup, h.out, fun g' hg' => Nat.lt_of_lt_of_le (h.lt g' hg') hk.size⟩
 rw [List.getElem?_append] at hr'
 have h2 := h.row p g'
 rw [List.getElem?_append (l₁ := v)] at h2
 split at hr'
 ·rename_i hp
  rw [if_pos hp] at h2
  obtain ⟨a1, a2⟩ := h2 r' hg' hr'
  refine ⟨a1.keeps hk (fun e => ?_), a2⟩
  rw [List.getElem?_append_left (by omega)] at hg'
  exact hnd.2.2 g' (List.mem_of_getElem? hg') g (by simp) e
 ·rename_i hp
  rw [if_neg hp] at h2
  have hp0 : p - v.length = 0 := by
   have := (List.getElem?_eq_some_iff.1 hr').1
   simp at this; omega
  rw [hp0] at hr' h2
  simp at hr'
  subst hr'
  obtain ⟨a1, a2⟩ := h2 r hg' (by simp)
  rw [List.getElem?_append_right (by omega)] at hg'
  have : g' = g := by
   have h3 := (List.getElem?_eq_some_iff.1 hg').1
   have h4 := List.mem_of_getElem? hg'
   simpa using h4
  subst this
  exact ⟨a1.set q x, by rw [List.length_set]; exact a2⟩
theorem TabTo.last {W : World} {gT n : Nat} {rs : List Nat} {v : List (List Int)} {g : Nat} {r : List Int} (h : TabTo W gT n (rs ++ [g]) (v ++ [r])) : IArr W g r ∧ r.length = n ∧ W.cell? ⟨gT, rs.length, none⟩ = some (.slice (some ⟨g, 0, none⟩) n n) ∧ gT < W.heap.size := by
 have hl : rs.length = v.length := by have := h.len; simpa using this
 obtain ⟨a1, a2⟩ := h.row rs.length g r (by simp) (by rw [hl]; simp)
 exact ⟨a1, a2, h.top.cell (by simp), h.top.lt⟩

/-- A row of the table at the start, up to q. -/
def rowTo (n : Nat) (s : List Int) (p q : Nat) : List Int := (List.range n).map fun i : Nat => if i < q then (if (p : Int) ∈ s ∧ (i : Int) ∈ s then 0 else 1000000000) else 0
theorem rowTo_len (n : Nat) (s : List Int) (p q : Nat) : (rowTo n s p q).length = n := by unfold rowTo; simp
theorem rowTo_zero (n : Nat) (s : List Int) (p : Nat) : rowTo n s p 0 = List.replicate n 0 := by
 refine List.eq_replicate_iff.2 ⟨rowTo_len _ _ _ _, fun b hb => ?_⟩
 unfold rowTo at hb
 obtain ⟨i, _, rfl⟩ := List.mem_map.1 hb
 simp
theorem rowTo_get {n : Nat} (s : List Int) (p q : Nat) {i : Nat} (hi : i < n) : (rowTo n s p q)[i]? = some (if i < q then (if (p : Int) ∈ s ∧ (i : Int) ∈ s then 0 else 1000000000) else 0) := by
 unfold rowTo; rw [List.getElem?_map, List.getElem?_range hi]; rfl
theorem rowTo_keep {n : Nat} {s : List Int} {p q : Nat} (h : (p : Int) ∈ s ∧ (q : Int) ∈ s) : rowTo n s p (q + 1) = rowTo n s p q := by
 unfold rowTo
 refine List.map_congr_left fun i _ => ?_
 by_cases hi : i < q
 ·rw [if_pos hi, if_pos (by omega)]
 ·rw [if_neg hi]
  by_cases hq : i = q
  ·subst hq; rw [if_pos (by omega), if_pos h]
  ·rw [if_neg (by omega)]
theorem rowTo_put {n : Nat} {s : List Int} {p q : Nat} (h : ¬ ((p : Int) ∈ s ∧ (q : Int) ∈ s)) : rowTo n s p (q + 1) = (rowTo n s p q).set q 1000000000 := by
 refine List.ext_getElem? fun i => ?_
 by_cases hi : i < n
 ·rw [rowTo_get s p (q + 1) hi, List.getElem?_set, rowTo_len]
  by_cases hq : q = i
  ·subst hq
   rw [if_pos (by omega), if_neg h, if_pos rfl, if_pos hi]
  ·rw [if_neg hq, rowTo_get s p q hi]
   by_cases hlt : i < q
   ·rw [if_pos hlt, if_pos (by omega)]
   ·rw [if_neg hlt, if_neg (by omega)]
 ·rw [List.getElem?_eq_none (by rw [rowTo_len]; omega), List.getElem?_eq_none (by rw [List.length_set, rowTo_len]; omega)]
theorem rowTo_all (n : Nat) (s : List Int) : startT n s = (List.range n).map fun p : Nat => rowTo n s p n := by
 unfold startT rowTo
 refine List.map_congr_left fun p _ => List.map_congr_left fun q hq => ?_
 rw [if_pos (List.mem_range.1 hq)]
theorem opsP_snoc (n : Nat) (os : List Opr) (o : Opr) (v : List (List Int)) : opsP n (os ++ [o]) v = useP (opsP n os v) o n := by unfold opsP; rw [List.foldl_append]; rfl

section
variable (w1 w3 : World) (gT n : Nat) (rs : List Nat) (ops : List Opr) (v0 v : List (List Int))
/-- Some rows are made. -/
def RowsTo (s : List Int) (k : Nat) (wr : World) : Prop := Keeps (fun _ => False) w1 wr ∧ ∃ rs : List Nat, rs.length = k ∧ (∀ g ∈ rs, w1.heap.size ≤ g) ∧ TabTo wr gT n rs ((List.range k).map fun p : Nat => rowTo n s p n)
def RowAt (s : List Int) (k : Nat) (rs : List Nat) (g q : Nat) (wr : World) : Prop := Keeps (fun _ => False) w1 wr ∧ TabTo wr gT n (rs ++ [g]) (((List.range k).map fun p : Nat => rowTo n s p n) ++ [rowTo n s k q])
def PfHead (k : Nat) (v8 : Value) (wr : World) : Prop :=
 ∃ (v : List (List Int)) (ch : Bool), v8 = .bool ch ∧ Tbl n v ∧ Tab wr gT n rs v ∧ Keeps (fun b => b ∈ rs) w3 wr ∧ fixG (opsP n ops) (weightT v0) v = fixG (opsP n ops) (weightT v0) v0 ∧ weightT v ≤ weightT v0 ∧ (ch = false → opsP n ops v = v) ∧ k = 2 * weightT v + (if ch = true then 1 else 0)
def PfMid (j : Nat) (v8 : Value) (wr : World) : Prop := ∃ ch : Bool, v8 = .bool ch ∧ Tab wr gT n rs (opsP n (ops.take j) v) ∧ Keeps (fun b => b ∈ rs) w3 wr ∧ Flag weightT v (opsP n (ops.take j) v) ch
end

set_option maxRecDepth 100000 in
set_option maxHeartbeats 8000000 in
theorem pfind_any (w : World) (vi vg vo vs : Value) (t : Tsk) (s : List Int) (h : TaskAt w vi vg vo t) (ok : t.Ok) (hs : Ints w vs s) (ss : s.Pairwise (· < ·)) :
  Calls Tryz.prog 101 #[.agg #[.int .i64 t.n, vi, vg, vo], vs] w fun e w' => ∃ gT rs, e = .returned (.slice (some ⟨gT, 0, none⟩) t.n.toNat t.n.toNat) ∧ Tab w' gT t.n.toNat rs (pairsV t s) ∧ Keeps (fun _ => False) w w' := by
 obtain ⟨ai, ci, h1, _⟩ := h.init.form
 obtain ⟨ag, cg, h2, _⟩ := h.goal.form
 obtain ⟨ao, co, h3, hmo⟩ := h.ops.form
 obtain ⟨a4, cs, h4, hms⟩ := hs.form
 subst h1 h2 h3 h4
 have hn0 : 0 ≤ t.n ∧ t.n ≤ 24 := ⟨by have := ok.n0; omega, ok.n1⟩
 obtain ⟨n, hn⟩ : ∃ n : Nat, t.n = (n : Int) := ⟨t.n.toNat, by omega⟩
 have HNT := Lib.hid (show t.n.toNat = n by omega)
 have hn24 : n ≤ 24 := by omega
 have HN := Lib.hid hn; clear hn
 have HOP := Lib.hid (pairs_need ok)
 have K1 := (Keeps.refl (fun _ => False) w).alloc (.cells #[.int .i64 t.n, .slice ai t.init.length ci, .slice ag t.goal.length cg, .slice ao t.ops.length co] 25)
 have HB := Lib.hid (Four.new w (.int .i64 t.n) (.slice ai t.init.length ci) (.slice ag t.goal.length cg) (.slice ao t.ops.length co) 25)
 have HT := Lib.hid (h.keeps0 K1); have HS := Lib.hid (hs.keeps0 K1)
 have OK := Lib.hid ok; have HSS := Lib.hid ss; have HK1 := Lib.hid K1
 clear h ok hs ss K1
 go_enter Tryz.func101, Tryz.ntmps101
 go_upto_region 1 with fail
 generalize (w.alloc (.cells #[.int .i64 t.n, .slice ai t.init.length ci, .slice ag t.goal.length cg, .slice ao t.ops.length co] 25)) = w1 at HT HB HK1 HS ⊢
 obtain ⟨d0, d1, d2, d3⟩ := HB.out
 have hbx := HB.out.lt
 have hmk := run_make_rows w1 t.n n HN.out (by omega)
 go_upto_region 2 with fail
 have KM := (Keeps.refl (fun _ => False) w1).alloc (.cells (Array.replicate n (Value.slice none 0 0)) 22)
 have HTS := Lib.hid (TabTo.start w1 n)
 have HKM := Lib.hid KM
 clear d0 d1 d2 d3 hbx hmk KM
 obtain ⟨gT, hg⟩ : ∃ g, w1.heap.size = g := ⟨_, rfl⟩
 have HGT := Lib.hid hg
 rw [hg] at HTS ⊢
 generalize (w1.alloc (.cells (Array.replicate n (Value.slice none 0 0)) 22)) = w3 at HTS HKM ⊢
 clear hg
 go_wp2_with fail
 go_loopw [16] (fun v16 wr => ∃ k : Nat, v16 = .int .i64 (k : Int) ∧ k ≤ n ∧ RowsTo w1 gT n s k wr) (fun v16 _ => n - (intOf v16).toNat)
 case atStart => exact ⟨0, rfl, Nat.zero_le _, HKM.out, [], rfl, (fun g h => by cases h), HTS.out⟩
 case round =>
  obtain ⟨k, rfl, hk, hkr, rs, hrl, hrb, htt⟩ := hrel
  have HKR := Lib.hid hkr; have HRB := Lib.hid hrb; have HTT := Lib.hid htt; have HRL := Lib.hid hrl
  clear hkr hrb htt hrl
  by_cases hlt : k < n
  ·have hnk : (k : Int) < (n : Int) := by omega
   obtain ⟨d0, d1, d2, d3⟩ := (HB.out.keeps0 HKR.out)
   have hbx : w.heap.size < wr.heap.size := World.block_lt_of_cell? wr _ d0
   have hmk := run_make_ints wr t.n n HN.out (by omega)
   have KM := (Keeps.refl (fun _ => False) wr).alloc (.cells (Array.replicate n (Value.int .i64 0)) 3)
   have hzero := IArr.zeros wr n
   have htm := HTT.out.keeps KM (fun h => h) (fun _ _ h => h)
   have hgl := HTT.out.top.lt
   obtain ⟨u, hu⟩ : ∃ u, (wr.alloc (.cells (Array.replicate n (Value.int .i64 0)) 3)).cell? ⟨gT, k, none⟩ = some u := by
    have hl := HRL.out
    refine ⟨.slice none 0 0, htm.top.cell (i := k) ?_⟩
    rw [List.getElem?_append_right (by rw [List.length_map]; omega), List.length_map, List.getElem?_replicate, if_pos (by omega)]
   have hfz := htm.top.frozen k
   have hgs : gT < (wr.alloc (.cells (Array.replicate n (Value.int .i64 0)) 3)).heap.size := htm.top.lt
   have hnew := htm.more hzero (by simp) (fun e => by have := HTT.out.lt _ e; omega) (by omega) (by rw [HRL.out]; exact hlt)
   rw [HRL.out] at hnew
   have HNEW := Lib.hid hnew
   have HKN := Lib.hid (show Keeps (fun _ => False) w1 ((wr.alloc (.cells (Array.replicate n (Value.int .i64 0)) 3)).setCell ⟨gT, k, none⟩ (.slice (some ⟨wr.heap.size, 0, none⟩) n n)) from
    (HKR.out.trans KM).trans' (keeps_set _ gT k _) (fun i hi => .inr (by have := HGT.out; omega)))
   clear hzero htm hnew KM
   go_upto_region 6 with fail
   obtain ⟨g, hg⟩ : ∃ g, wr.heap.size = g := ⟨_, rfl⟩
   rw [hg] at HNEW HKN ⊢
   have HGG := Lib.hid (show w1.heap.size ≤ g by have := HKR.out.size; omega)
   rw [World.setCell_alloc_past _ _ _ _ hgl] at HNEW HKN
   generalize (wr.setCell ⟨gT, k, none⟩ (.slice (some ⟨g, 0, none⟩) n n)).alloc (.cells (Array.replicate n (Value.int .i64 0)) 3) = w5 at HNEW HKN ⊢
   rw [← rowTo_zero n s k] at HNEW
   clear d0 d1 d2 d3 hbx hmk hu u hfz hgs hgl hg
   obtain ⟨_, _, hc6, hc7⟩ := HNEW.out.last
   rw [HRL.out] at hc6
   go_wp2_with fail
   clear hc6 hc7
   go_loopw [30] (fun v30 wr' => ∃ q : Nat, v30 = .int .i64 (q : Int) ∧ q ≤ n ∧ RowAt w1 gT n s k rs g q wr') (fun v30 _ => n - (intOf v30).toNat)
   case atStart => exact ⟨0, rfl, Nat.zero_le _, HKN.out, HNEW.out⟩
   case round =>
    obtain ⟨q, rfl, hq, hkq, htq⟩ := hrel
    have HKQ := Lib.hid hkq; have HTQ := Lib.hid htq
    clear hkq htq
    by_cases hql : q < n
    ·have KA := (Keeps.refl (fun _ => False) wr).alloc (.cells #[.int .i64 (k : Int)] 3)
     have HSA := Lib.hid (HS.out.keeps0 (HKQ.out.trans KA))
     have HQA := Lib.hid (show Ints (wr.alloc (.cells #[.int .i64 (k : Int)] 3)) (.slice (some ⟨wr.heap.size, 0, none⟩) 1 1) [(k : Int)] from (IArr.new wr [(k : Int)]).ints (by simp [maxLen]))
     have HKA := Lib.hid (HKQ.out.trans KA)
     have HTA := Lib.hid (HTQ.out.keeps KA (fun h => h) (fun _ _ h => h))
     clear KA
     go_wp2_with fail
     refine (contains_any _ _ _ s [(k : Int)] HSA.out HQA.out HSS.out (List.pairwise_singleton _ _)).mono ?_
     rintro e w9 ⟨rfl, rfl⟩
     rw [sub_one]
     generalize hwa : wr.alloc (.cells #[.int .i64 (k : Int)] 3) = wa at HSA HQA HKA HTA ⊢
     clear hwa HQA
     by_cases h1 : (k : Int) ∈ s
     ·rw [decide_eq_true h1]
      have KB := (Keeps.refl (fun _ => False) wa).alloc (.cells #[.int .i64 (q : Int)] 3)
      have HSB := Lib.hid (HSA.out.keeps0 KB)
      have HQB := Lib.hid (show Ints (wa.alloc (.cells #[.int .i64 (q : Int)] 3)) (.slice (some ⟨wa.heap.size, 0, none⟩) 1 1) [(q : Int)] from (IArr.new wa [(q : Int)]).ints (by simp [maxLen]))
      have HKB := Lib.hid (HKA.out.trans KB)
      have HTB := Lib.hid (HTA.out.keeps KB (fun h => h) (fun _ _ h => h))
      have H1 := Lib.hid h1
      clear KB h1
      go_wp2_with fail
      refine (contains_any _ _ _ s [(q : Int)] HSB.out HQB.out HSS.out (List.pairwise_singleton _ _)).mono ?_
      rintro e w9 ⟨rfl, rfl⟩
      rw [sub_one]
      generalize hwb : wa.alloc (.cells #[.int .i64 (q : Int)] 3) = wb at HSB HQB HKB HTB ⊢
      clear hwb HQB
      by_cases h2 : (q : Int) ∈ s
      ·rw [decide_eq_true h2]
       have HE := Lib.hid (rowTo_keep (n := n) ⟨H1.out, h2⟩)
       clear h2
       go_wp2_with fail
       go_roundw
       case rel => exact ⟨q + 1, by go_num, by omega, HKB.out, by rw [HE.out]; exact HTB.out⟩
       case measure => simp [intOf]; omega
      ·rw [decide_eq_false h2]
       have HE := Lib.hid (rowTo_put (n := n) (s := s) (p := k) (q := q) (fun h => h2 h.2))
       obtain ⟨r1, r2, r3, r4⟩ := HTB.out.last
       rw [HRL.out] at r3
       have r5 := r1.cell (rowTo_get s k q hql)
       have r6 := r1.frozen q
       have hki : (k : Int) < (n : Int) := by omega
       have hqi : (q : Int) < (n : Int) := by omega
       have HN2 := Lib.hid (show RowAt w1 gT n s k rs g (q + 1) (wb.setCell ⟨g, q, none⟩ (.int .i64 1000000000)) from ⟨HKB.out.trans' (keeps_set _ g q _) (fun i hi => .inr (by have := HGG.out; omega)), by rw [HE.out]; exact HTB.out.put q _⟩)
       clear h2 r1 r2
       go_wp2_with fail
       go_roundw
       case rel => exact ⟨q + 1, by go_num, by omega, HN2.out⟩
       case measure => simp [intOf]; omega
     ·rw [decide_eq_false h1]
      have HE := Lib.hid (rowTo_put (n := n) (s := s) (p := k) (q := q) (fun h => h1 h.1))
      obtain ⟨r1, r2, r3, r4⟩ := HTA.out.last
      rw [HRL.out] at r3
      have r5 := r1.cell (rowTo_get s k q hql)
      have r6 := r1.frozen q
      have hki : (k : Int) < (n : Int) := by omega
      have hqi : (q : Int) < (n : Int) := by omega
      have HN2 := Lib.hid (show RowAt w1 gT n s k rs g (q + 1) (wa.setCell ⟨g, q, none⟩ (.int .i64 1000000000)) from ⟨HKA.out.trans' (keeps_set _ g q _) (fun i hi => .inr (by have := HGG.out; omega)), by rw [HE.out]; exact HTA.out.put q _⟩)
      clear h1 r1 r2
      go_wp2_with fail
      go_roundw
      case rel => exact ⟨q + 1, by go_num, by omega, HN2.out⟩
      case measure => simp [intOf]; omega
    ·have HFIN := Lib.hid (show RowsTo w1 gT n s (k + 1) wr from ⟨HKQ.out, rs ++ [g], by rw [List.length_append, HRL.out]; rfl, fun g' hg' => by
       rcases List.mem_append.1 hg' with e | e
       ·exact HRB.out g' e
       ·rw [List.mem_singleton.1 e]; exact HGG.out, by
       rw [List.range_succ, List.map_append]
       have hqn : q = n := by omega
       rw [← hqn]
       rw [← hqn] at HTQ
       exact HTQ.out⟩)
     go_wp2_with fail
     go_roundw
     case rel => exact ⟨k + 1, by go_num, by omega, HFIN.out⟩
     case measure => simp [intOf]; omega
  ·have hkn : k = n := by omega
   rw [hkn, ← rowTo_all] at HTT
   rw [hkn] at HRL
   have HTZ := Lib.hid (HTT.out.tab HRL.out)
   have HV0 := Lib.hid (startT_ok n s)
   have HPV := Lib.hid (show pairsV t s = fixG (opsP n t.ops) (weightT (startT n s)) (startT n s) by unfold pairsV; rw [HNT.out])
   have HOK := Lib.hid (show Okf (Tbl n) weightT LeT (opsP n t.ops) from opsP_ok (by have h := HOP.out; rw [HNT.out] at h; exact h))
   clear HTT HRL hkn HKM HTS
   generalize startT n s = v0 at HTZ HV0 HPV
   generalize hw6 : wr = w6 at HKR HTZ ⊢
   clear hw6
   have HBW : ∀ wq : World, Keeps (fun b => b ∈ rs) w6 wq → Keeps (fun _ => False) w1 wq := fun wq hk => HKR.out.trans' hk (fun i hi => .inr (HRB.out i hi))
   have HBW := Lib.hid HBW
   go_wp2_with fail
   go_loopg [8] (2 * weightT v0 + 1) (fun k v8 wr => PfHead w6 gT n rs t.ops v0 k v8 wr)
   case atStart => exact ⟨v0, true, rfl, HV0.out, HTZ.out, Keeps.refl _ _, rfl, Nat.le_refl _, (fun h => by cases h), by rw [if_pos rfl]⟩
   case round =>
    obtain ⟨v, ch, rfl, htb, hta, hkp, hfx, hwt, hst, hgk⟩ := hrel
    have HTB := Lib.hid htb; have HTA := Lib.hid hta; have HKP := Lib.hid hkp; have HFX := Lib.hid hfx; have HWT := Lib.hid hwt; have HSTD := Lib.hid hst; have HGK := Lib.hid hgk
    have HKW := Lib.hid (HBW.out wr hkp)
    clear htb hta hkp hfx hwt hst hgk
    cases ch with
    | false =>
     go_wp2_with fail
     go_ret
     refine ⟨gT, by rw [HNT.out]; rfl, ⟨rs, ?_⟩, HK1.out.trans HKW.out⟩
     have e : pairsV t s = v := by
      rw [HPV.out, ← HFX.out]
      exact fixG_done (HSTD.out (by first | rfl | trivial)) _
     rw [e, HNT.out]; exact HTA.out
    | true =>
     obtain ⟨d0, d1, d2, d3⟩ := (HB.out.keeps0 HKW.out)
     have hbx : w.heap.size < wr.heap.size := World.block_lt_of_cell? wr _ d0
     go_wp2_with fail
     clear d0 d1 d2 d3 hbx
     go_loopw [8, 57] (fun v8 v57 wr' => ∃ j : Nat, v57 = .int .i64 (j : Int) ∧ j ≤ t.ops.length ∧ PfMid w6 gT n rs t.ops v j v8 wr') (fun _ v57 _ => t.ops.length - (intOf v57).toNat)
     case atStart => exact ⟨0, rfl, Nat.zero_le _, false, rfl, HTA.out, HKP.out, .inl ⟨rfl, rfl⟩⟩
     case round =>
      obtain ⟨j, rfl, hj, ch, rfl, hma, hmk, hms⟩ := hrel
      have HMA := Lib.hid hma; have HMK := Lib.hid hmk; have HMS := Lib.hid hms
      have KW2 := Lib.hid (HBW.out wr hmk)
      clear hma hmk hms
      by_cases hjl : j < t.ops.length
      ·obtain ⟨bo, oo, rfl, hcell⟩ := HT.out.ops.cell rfl (by omega)
       obtain ⟨o, ho⟩ : ∃ o, t.ops[j]? = some o := ⟨_, List.getElem?_eq_getElem hjl⟩
       obtain ⟨va, vb, vd, p0', p1', p2', p3', i1, i2, i3⟩ := hcell j o ho
       have p0 := KW2.out.cell p0' (fun h => h); have p1 := KW2.out.cell p1' (fun h => h); have p2 := KW2.out.cell p2' (fun h => h); have p3 := KW2.out.cell p3' (fun h => h)
       clear p0' p1' p2' p3'
       have hom := Lib.hid (show o.Ok (n : Int) by have := OK.out.ops o (List.mem_of_getElem? ho); rw [HN.out] at this; exact this)
       obtain ⟨a1, k1, f1, _⟩ := i1.form
       obtain ⟨a2, k3, f2, _⟩ := i2.form
       obtain ⟨a3, k4, f3, _⟩ := i3.form
       subst f1 f2 f3
       have I1 := Lib.hid i1; have I2 := Lib.hid i2; have I3 := Lib.hid i3
       have K4 := (Keeps.refl (fun _ => False) wr).alloc (.cells #[.slice a1 o.pre.length k1, .slice a2 o.add.length k3, .slice a3 o.del.length k4, .int .i64 o.cost] 80)
       have HO4 := Lib.hid (Four.new wr (.slice a1 o.pre.length k1) (.slice a2 o.add.length k3) (.slice a3 o.del.length k4) (.int .i64 o.cost) 80)
       have HMA4 := Lib.hid (HMA.out.keeps0 K4); have HMK4 := Lib.hid (HMK.out.trans (K4.mono (fun _ _ h => h.elim))); have KW4 := Lib.hid (KW2.out.trans K4)
       have HVJ := Lib.hid (show Tbl n (opsP n (t.ops.take j) v) from (opsP_ok (n := n) (os := t.ops.take j) (fun o ho => by have h := HOP.out o (List.mem_of_mem_take ho); rw [HNT.out] at h; exact h) v HTB.out).1)
       have HNX := Lib.hid (show opsP n (t.ops.take (j + 1)) v = useP (opsP n (t.ops.take j) v) o n by rw [take_getS ho, opsP_snoc])
       clear hcell ho i1 i2 i3 K4 HMA HMK
       go_upto_region 19 with fail
       generalize hw4 : (wr.alloc (.cells #[.slice a1 o.pre.length k1, .slice a2 o.add.length k3, .slice a3 o.del.length k4, .int .i64 o.cost] 80)) = w4 at HMA4 HMK4 HO4 KW4 ⊢
       clear p0 p1 p2 p3 hw4
       obtain ⟨b4, hb4⟩ : ∃ b4, wr.heap.size = b4 := ⟨_, rfl⟩
       rw [hb4] at HO4 ⊢
       clear hb4
       generalize opsP n (t.ops.take j) v = vj at HMA4 HMS HVJ HNX ⊢
       obtain ⟨q0, q1, q2, q3⟩ := HO4.out
       have hq4 := HO4.out.lt
       go_wp2_with fail
       refine (puse_any w1 w4 gT n rs vj _ _ _ o KW4.out HRB.out HMA4.out HVJ.out hn24 I1.out I2.out I3.out hom.out).mono ?_
       rintro e w5 ⟨dd, rfl, ht5, hk5, hf5⟩
       have HT5 := Lib.hid ht5; have HK5 := Lib.hid (HMK4.out.trans hk5); have HF5 := Lib.hid (HMS.out.more hf5)
       clear q0 q1 q2 q3 hq4 ht5 hk5 hf5
       cases dd with
       | true =>
        go_wp2_with fail
        go_roundw
        case rel => exact ⟨j + 1, by go_num, by omega, true, rfl, by rw [HNX.out]; exact HT5.out, HK5.out, by rw [HNX.out]; exact HF5.out⟩
        case measure => simp [intOf]; omega
       | false =>
        go_wp2_with fail
        go_roundw
        case rel => exact ⟨j + 1, by go_num, by omega, ch, rfl, by rw [HNX.out]; exact HT5.out, HK5.out, by rw [HNX.out]; exact HF5.out⟩
        case measure => simp [intOf]; omega
      ·rw [List.take_of_length_le (by omega)] at HMA HMS
       have HFS := Lib.hid (fixG_step HOK.out (weightT v0) v HTB.out HWT.out)
       have HS1 := Lib.hid (show Tbl n (opsP n t.ops v) from (HOK.out v HTB.out).1)
       go_wp2_with fail
       rcases HMS.out with ⟨rfl, he⟩ | ⟨rfl, hlt⟩
       ·have HE := Lib.hid he
        clear he
        go_roundg (2 * weightT v)
        case rel => exact ⟨opsP n t.ops v, false, rfl, HS1.out, HMA.out, HMK.out, by rw [HFS.out]; exact HFX.out, by rw [HE.out]; exact HWT.out, fun _ => by rw [HE.out]; exact HE.out, by rw [HE.out]; simp⟩
        case measure => rw [HGK.out]; simp
       ·have HE := Lib.hid hlt
        clear hlt
        go_roundg (2 * weightT (opsP n t.ops v) + 1)
        case rel => exact ⟨opsP n t.ops v, true, rfl, HS1.out, HMA.out, HMK.out, by rw [HFS.out]; exact HFX.out, by have := HE.out; have := HWT.out; omega, (fun h => by cases h), by simp⟩
        case measure => rw [HGK.out]; have := HE.out; simp; omega

end Go.Proofs.YtdokakhgflljgaaGreat

namespace Go.Proofs.YtdokakhgflljgaaGreat
open Go.RowKit Go.Shelf

set_option maxRecDepth 100000 in
set_option maxHeartbeats 4000000 in
theorem pgoal_any (w : World) (vi vg vo vs : Value) (t : Tsk) (x : Nat) (h : TaskAt w vi vg vo t) (ok : t.Ok) (hg : Good t.n x) (hs : Ints w vs (facts x)) :
  Calls Tryz.prog 80 #[.agg #[.int .i64 t.n, vi, vg, vo], vs] w fun e w' => e = .returned (.tuple #[.int .i64 (pairsH t x), fltV 0 0]) ∧ Keeps (fun _ => False) w w' := by
 obtain ⟨ai, ci, h1, _⟩ := h.init.form
 obtain ⟨ag, cg, h2, _⟩ := h.goal.form
 obtain ⟨ao, co, h3, hmo⟩ := h.ops.form
 subst h1 h2 h3
 obtain ⟨aa, cs, h4, _⟩ := hs.form
 subst h4
 have HE := Lib.hid (show stateFault t (facts x) = (0, 0) by unfold stateFault; rw [if_pos (taskFault_zero.2 ok), if_pos hg.1])
 have HSS := Lib.hid (isSet_iff.1 hg.1).2
 have HGB := Lib.hid (isSet_iff.1 ok.goal).1
 have HN0 := Lib.hid ok.n0
 have K1 := (Keeps.refl (fun _ => False) w).alloc (.cells #[.int .i64 t.n, .slice ai t.init.length ci, .slice ag t.goal.length cg, .slice ao t.ops.length co] 25)
 have KA2 := K1.alloc (.cells #[.int .i64 0, .int .i64 0] 31)
 have HT := Lib.hid (h.keeps0 KA2)
 have HB := Lib.hid ((Four.new w (.int .i64 t.n) (.slice ai t.init.length ci) (.slice ag t.goal.length cg) (.slice ao t.ops.length co) 25).keeps0 ((Keeps.refl _ _).alloc (.cells #[.int .i64 0, .int .i64 0] 31)))
 have HF : Flt w ((w.alloc (.cells #[.int .i64 t.n, .slice ai t.init.length ci, .slice ag t.goal.length cg, .slice ao t.ops.length co] 25)).alloc (.cells #[.int .i64 0, .int .i64 0] 31)) (w.heap.size + 1) 31 :=
  ⟨by have := heap_alloc_new (w.alloc (.cells #[.int .i64 t.n, .slice ai t.init.length ci, .slice ag t.goal.length cg, .slice ao t.ops.length co] 25)) (.cells #[.int .i64 0, .int .i64 0] 31); rwa [World.size_alloc] at this, by omega, KA2⟩
 replace HF := Lib.hid HF
 have HS := Lib.hid (show Ints _ (.slice aa (facts x).length cs) (facts x) from hs.keeps0 KA2)
 have OK := Lib.hid ok
 clear h hs ok hg K1 KA2
 go_enter Tryz.func80, Tryz.ntmps80
 go_upto_region 1 with fail
 generalize ((w.alloc (.cells #[.int .i64 t.n, .slice ai t.init.length ci, .slice ag t.goal.length cg, .slice ao t.ops.length co] 25)).alloc (.cells #[.int .i64 0, .int .i64 0] 31)) = w1 at HT HB HF HS ⊢
 obtain ⟨d0, d1, d2, d3⟩ := HB.out
 have hbx := HB.out.lt
 go_wp2_with fail
 refine (stateFault_any _ _ _ _ _ t (facts x) HT.out HS.out).mono ?_; rintro e w2 ⟨rfl, hk⟩
 rw [HE.out]
 have KA := hk.trans ((Keeps.refl (fun _ => False) w2).alloc (.cells #[.int .i64 0, .int .i64 0] 31))
 have HT3 := Lib.hid (HT.out.keeps0 KA); have HB3 := Lib.hid (HB.out.keeps0 KA); have HF3 := Lib.hid (HF.out.keeps0 KA); have HS3 := Lib.hid (HS.out.keeps0 KA)
 have F0 := Lib.hid (heap_alloc_new w2 (.cells #[.int .i64 0, .int .i64 0] 31))
 clear d0 d1 d2 d3 hbx hk KA HT HB HF HS
 go_upto_region 2 with fail
 generalize (w2.alloc (.cells #[.int .i64 0, .int .i64 0] 31)) = w3 at HT3 HB3 HF3 HS3 F0 ⊢
 generalize w2.heap.size = b9 at F0 ⊢
 obtain ⟨f0, f1, y0, y1, fl⟩ := pair_cells F0.out
 clear y0 y1
 have KD := (Keeps.refl (fun _ => False) w3).drew
 have HT4 := Lib.hid (HT3.out.keeps0 KD); have HB4 := Lib.hid (HB3.out.keeps0 KD); have HF4 := Lib.hid (HF3.out.keeps0 KD); have HS4 := Lib.hid (HS3.out.keeps0 KD)
 obtain ⟨d0, d1, d2, d3⟩ := HB4.out
 have hbx := HB4.out.lt
 obtain ⟨c0, c1, z0, z1, hF⟩ := HF4.out.cells
 clear KD
 go_upto_region 4 with fail
 clear f0 f1 fl
 have HGN := Lib.hid (show ∀ p ∈ t.goal, 0 ≤ p ∧ p < ((t.n.toNat : Nat) : Int) from fun p hp => by have := HGB.out p hp; have := HN0.out; omega)
 go_region_held3 (fun w' => w'.cell? ⟨w.heap.size, 0, none⟩ = some (.int .i64 t.n) ∧ w'.cell? ⟨w.heap.size, 1, none⟩ = some (.slice ai t.init.length ci) ∧ w'.cell? ⟨w.heap.size, 2, none⟩ = some (.slice ag t.goal.length cg) ∧ w'.cell? ⟨w.heap.size, 3, none⟩ = some (.slice ao t.ops.length co))
  (go_keep)
  (first
   | (go_at_call 101; refine (pfind_any _ _ _ _ _ t (facts x) HT4.out OK.out HS4.out HSS.out).mono ?_; rintro en wa ⟨gT, rs, rfl, hta, hka⟩; have HTA := Lib.hid hta; have HKA := Lib.hid hka; have a0 := hka.cell d0 (fun h => h); have a1 := hka.cell d1 (fun h => h); have a2 := hka.cell d2 (fun h => h); have a3 := hka.cell d3 (fun h => h); have e0 := hka.cell c0 (fun h => h); have e1 := hka.cell c1 (fun h => h); have HF5 := Lib.hid (HF4.out.keeps0 hka); have e2 := HF5.out.cells.2.2.1; have e3 := HF5.out.cells.2.2.2.1; clear hta hka)
   | (go_at_call 102; refine (pvalue_any _ gT _ rs _ _ t.goal HTA.out ((HT4.out.keeps0 HKA.out).goal) HGN.out).mono ?_; rintro en w9 ⟨rfl, rfl⟩))
 all_goals
  have HST := Lib.hid (HF5.out.set (.int .i64 0) (.int .i64 0))
  clear d0 d1 d2 d3 a0 a1 a2 a3 e0 e1 e2 e3 c0 c1 z0 z1 hF hbx
  go_wp2_with fail
  refine bodyPost_ret (results_tmp_cell _ _ (w.heap.size + 1) 31 #[.int .i64 0, .int .i64 0] (0, 0) _ rfl rfl HST.out.1 Tryz.underlying31 rfl (by kernel_rfl)) rfl ?_
  exact ⟨rfl, HST.out.2⟩

end Go.Proofs.YtdokakhgflljgaaGreat

namespace Go.Proofs.YtdokakhgflljgaaGreat
open Go.RowKit Go.Shelf

/-- What relaxed.Add says of a state. -/
def addH (t : Tsk) (x : Nat) : Int := sumL (valuesV sumL t (costsV t) (facts x)) t.goal

set_option maxRecDepth 100000 in
set_option maxHeartbeats 4000000 in
theorem value1_any (t : Tsk) (ok : t.Ok) (L : List Nat) (hL : ∀ x ∈ L, Good t.n x) : ValC t 1 L (maxH t) := by
 intro w vi vg vo vs x h hx hs
 obtain ⟨ai, ci, h1, _⟩ := h.init.form
 obtain ⟨ag, cg, h2, _⟩ := h.goal.form
 obtain ⟨ao, co, h3, hmo⟩ := h.ops.form
 subst h1 h2 h3
 have K1 := (Keeps.refl (fun _ => False) w).alloc (.cells #[.int .i64 t.n, .slice ai t.init.length ci, .slice ag t.goal.length cg, .slice ao t.ops.length co] 25)
 have HB := Lib.hid (Four.new w (.int .i64 t.n) (.slice ai t.init.length ci) (.slice ag t.goal.length cg) (.slice ao t.ops.length co) 25)
 have HT := Lib.hid (h.keeps0 K1); have HS := Lib.hid (hs.keeps0 K1); have HK1 := Lib.hid K1
 have OK := Lib.hid ok; have HX := Lib.hid (hL x hx)
 clear h hs K1 ok hL hx
 go_enter Tryz.func59, Tryz.ntmps59
 go_upto_region 3 with fail
 generalize (w.alloc (.cells #[.int .i64 t.n, .slice ai t.init.length ci, .slice ag t.goal.length cg, .slice ao t.ops.length co] 25)) = w1 at HT HB HK1 HS ⊢
 obtain ⟨d0, d1, d2, d3⟩ := HB.out
 have hbx := HB.out.lt
 go_wp2_with fail
 refine (rmax_any _ _ _ _ _ t x HT.out OK.out HX.out HS.out).mono ?_
 rintro e w2 ⟨g, rfl, _, _, hk⟩
 have HK2 := Lib.hid (HK1.out.trans hk)
 unfold fltV
 clear hk d0 d1 d2 d3
 go_wp2_with fail
 go_ret
 exact ⟨rfl, HK2.out.trans ((Keeps.refl (fun _ => False) w2).alloc _)⟩

set_option maxRecDepth 100000 in
set_option maxHeartbeats 4000000 in
theorem value2_any (t : Tsk) (ok : t.Ok) (L : List Nat) (hL : ∀ x ∈ L, Good t.n x) : ValC t 2 L (addH t) := by
 intro w vi vg vo vs x h hx hs
 obtain ⟨ai, ci, h1, _⟩ := h.init.form
 obtain ⟨ag, cg, h2, _⟩ := h.goal.form
 obtain ⟨ao, co, h3, hmo⟩ := h.ops.form
 subst h1 h2 h3
 have K1 := (Keeps.refl (fun _ => False) w).alloc (.cells #[.int .i64 t.n, .slice ai t.init.length ci, .slice ag t.goal.length cg, .slice ao t.ops.length co] 25)
 have HB := Lib.hid (Four.new w (.int .i64 t.n) (.slice ai t.init.length ci) (.slice ag t.goal.length cg) (.slice ao t.ops.length co) 25)
 have HT := Lib.hid (h.keeps0 K1); have HS := Lib.hid (hs.keeps0 K1); have HK1 := Lib.hid K1
 have OK := Lib.hid ok; have HX := Lib.hid (hL x hx)
 clear h hs K1 ok hL hx
 go_enter Tryz.func59, Tryz.ntmps59
 go_upto_region 6 with fail
 generalize (w.alloc (.cells #[.int .i64 t.n, .slice ai t.init.length ci, .slice ag t.goal.length cg, .slice ao t.ops.length co] 25)) = w1 at HT HB HK1 HS ⊢
 obtain ⟨d0, d1, d2, d3⟩ := HB.out
 have hbx := HB.out.lt
 go_wp2_with fail
 refine (radd_any _ _ _ _ _ t x HT.out OK.out HX.out HS.out).mono ?_
 rintro e w2 ⟨g, rfl, _, _, hk⟩
 have HK2 := Lib.hid (HK1.out.trans hk)
 unfold fltV
 clear hk d0 d1 d2 d3
 go_wp2_with fail
 go_ret
 exact ⟨rfl, HK2.out.trans ((Keeps.refl (fun _ => False) w2).alloc _)⟩

set_option maxRecDepth 100000 in
set_option maxHeartbeats 4000000 in
theorem value5_any (t : Tsk) (ok : t.Ok) (L : List Nat) (hL : ∀ x ∈ L, Good t.n x) : ValC t 5 L (pairsH t) := by
 intro w vi vg vo vs x h hx hs
 obtain ⟨ai, ci, h1, _⟩ := h.init.form
 obtain ⟨ag, cg, h2, _⟩ := h.goal.form
 obtain ⟨ao, co, h3, hmo⟩ := h.ops.form
 subst h1 h2 h3
 have K1 := (Keeps.refl (fun _ => False) w).alloc (.cells #[.int .i64 t.n, .slice ai t.init.length ci, .slice ag t.goal.length cg, .slice ao t.ops.length co] 25)
 have HB := Lib.hid (Four.new w (.int .i64 t.n) (.slice ai t.init.length ci) (.slice ag t.goal.length cg) (.slice ao t.ops.length co) 25)
 have HT := Lib.hid (h.keeps0 K1); have HS := Lib.hid (hs.keeps0 K1); have HK1 := Lib.hid K1
 have OK := Lib.hid ok; have HX := Lib.hid (hL x hx)
 clear h hs K1 ok hL hx
 go_enter Tryz.func59, Tryz.ntmps59
 go_upto_region 23 with fail
 generalize (w.alloc (.cells #[.int .i64 t.n, .slice ai t.init.length ci, .slice ag t.goal.length cg, .slice ao t.ops.length co] 25)) = w1 at HT HB HK1 HS ⊢
 obtain ⟨d0, d1, d2, d3⟩ := HB.out
 have hbx := HB.out.lt
 go_wp2_with fail
 refine (pgoal_any _ _ _ _ _ t x HT.out OK.out HX.out HS.out).mono ?_
 rintro e w2 ⟨rfl, hk⟩
 have HK2 := Lib.hid (HK1.out.trans hk)
 unfold fltV
 clear hk d0 d1 d2 d3
 go_wp2_with fail
 go_ret
 exact ⟨rfl, HK2.out.trans ((Keeps.refl (fun _ => False) w2).alloc _)⟩

end Go.Proofs.YtdokakhgflljgaaGreat

namespace Go.Proofs.YtdokakhgflljgaaGreat

/-! ### the hardest fact -/
def hardI (n : Int) (v ps : List Int) : Int := ps.foldl (fun b p => if b = n ∨ getV v b < getV v p then p else b) n
theorem hardI_snoc (n : Int) (v ps : List Int) (p : Int) : hardI n v (ps ++ [p]) = if hardI n v ps = n ∨ getV v (hardI n v ps) < getV v p then p else hardI n v ps := by unfold hardI; rw [List.foldl_append]; rfl
theorem hard_from {n : Int} {v : List Int} : ∀ (ps : List Int) (b : Int), (∀ p ∈ ps, p ≠ n) →
  (ps.foldl (fun b p => if b = n ∨ getV v b < getV v p then p else b) b = b ∨ ps.foldl (fun b p => if b = n ∨ getV v b < getV v p then p else b) b ∈ ps) ∧
  (b ≠ n → getV v b ≤ getV v (ps.foldl (fun b p => if b = n ∨ getV v b < getV v p then p else b) b) ∧ ps.foldl (fun b p => if b = n ∨ getV v b < getV v p then p else b) b ≠ n) ∧
  (∀ p ∈ ps, getV v p ≤ getV v (ps.foldl (fun b p => if b = n ∨ getV v b < getV v p then p else b) b)) ∧
  (ps ≠ [] → ps.foldl (fun b p => if b = n ∨ getV v b < getV v p then p else b) b ≠ n)
 | [], b, _ => ⟨.inl rfl, fun h => ⟨Int.le_refl _, h⟩, fun _ h => (List.not_mem_nil h).elim, fun h => absurd rfl h⟩
 | p :: r, b, h => by
  have hp := h p (by simp)
  obtain ⟨b', hb'⟩ : ∃ b', (if b = n ∨ getV v b < getV v p then p else b) = b' := ⟨_, rfl⟩
  have hc : (b' = p ∨ b' = b) ∧ b' ≠ n ∧ getV v p ≤ getV v b' ∧ (b ≠ n → getV v b ≤ getV v b') := by
   rw [← hb']
   split
   ·rename_i hc
    exact ⟨.inl rfl, hp, Int.le_refl _, fun hn => by have := hc.resolve_left hn; omega⟩
   ·rename_i hc
    exact ⟨.inr rfl, fun e => hc (.inl e), by have : ¬ getV v b < getV v p := fun e => hc (.inr e); omega, fun _ => Int.le_refl _⟩
  obtain ⟨c1, c2, c3, c4⟩ := hc
  obtain ⟨g1, g2, g3, g4⟩ := hard_from r b' (fun q hq => h q (by simp [hq]))
  obtain ⟨g5, g6⟩ := g2 c2
  rw [List.foldl_cons, hb']
  refine ⟨?_, fun hn => ⟨by have := c4 hn; omega, g6⟩, fun q hq => ?_, fun _ => g6⟩
  ·rcases g1 with g1 | g1
   ·rcases c1 with c1 | c1
    ·exact .inr (by rw [g1, c1]; simp)
    ·exact .inl (by rw [g1, c1])
   ·exact .inr (by simp [g1])
  ·rcases List.mem_cons.1 hq with rfl | hq
   ·omega
   ·exact g3 q hq
theorem hard_mem {n : Int} {v ps : List Int} (h : ∀ p ∈ ps, p ≠ n) (ne : ps ≠ []) : hardI n v ps ∈ ps ∧ ∀ p ∈ ps, getV v p ≤ getV v (hardI n v ps) := by
 obtain ⟨g1, _, g3, g4⟩ := hard_from (v := v) ps n h
 exact ⟨g1.resolve_left (g4 ne), g3⟩
theorem hard_in {n : Int} {v ps : List Int} (h0 : 0 ≤ n) (h : ∀ p ∈ ps, 0 ≤ p ∧ p < n) : 0 ≤ hardI n v ps ∧ hardI n v ps ≤ n := by
 rcases (hard_from (n := n) (v := v) ps n (fun p hp => by have := h p hp; omega)).1 with e | e
 ·unfold hardI; rw [e]; omega
 ·have := h _ e; unfold hardI; omega
theorem hard_great {n : Int} {v ps : List Int} (_ : getV v n = 0) (hv : ∀ y ∈ v, 0 ≤ y ∧ y ≤ 1000000000) (h : ∀ p ∈ ps, 0 ≤ p ∧ p < n) : greatL v ps ≤ getV v (hardI n v ps) := by
 refine greatL_le (getV_low hv _).1 (fun p hp => ?_)
 exact (hard_mem (n := n) (v := v) (fun p hp => by have := h p hp; omega) (fun e => by rw [e] at hp; cases hp)).2 p hp

/-! ### rows of truth values -/
def getB (z : List Bool) (p : Int) : Bool := z.getD p.toNat false
theorem getB_set {z : List Bool} {i : Nat} (hi : i < z.length) (q : Int) : getB (z.set i true) q = true ↔ q.toNat = i ∨ getB z q = true := by
 unfold getB
 rw [List.getD_eq_getElem?_getD, List.getD_eq_getElem?_getD, List.getElem?_set]
 split
 ·rename_i e
  subst e
  simp [hi]
 ·rename_i e
  constructor
  ·exact .inr
  ·rintro (h | h)
   ·exact absurd h.symm e
   ·exact h
theorem getB_false {z : List Bool} {q : Int} (hq : q.toNat < z.length) (h : getB z q = false) : z[q.toNat]? = some false := by
 unfold getB at h
 rw [List.getD_eq_getElem?_getD] at h
 rw [List.getElem?_eq_getElem hq] at h ⊢
 simpa using h
def offs (z : List Bool) : Nat := z.count false
theorem offs_set : ∀ (z : List Bool) (i : Nat), z[i]? = some false → offs (z.set i true) < offs z
 | [], i, h => by simp at h
 | a :: r, 0, h => by simp at h; subst h; simp [offs]
 | a :: r, i + 1, h => by
  have ih := offs_set r i (by simpa using h)
  unfold offs at ih ⊢
  simp only [List.set_cons_succ, List.count_cons]; omega
def LeB (z z' : List Bool) : Prop := ∀ q, getB z q = true → getB z' q = true
theorem LeB.rfl' (z : List Bool) : LeB z z := fun _ h => h
theorem LeB.tr (a b c : List Bool) (h : LeB a b) (h' : LeB b c) : LeB a c := fun q hq => h' q (h q hq)

/-! ### the zone of the goal -/
def zoneOp (n : Int) (v : List Int) (o : Opr × Int) (z : List Bool) : List Bool :=
 if 0 < o.2 ∨ getB z (hardI n v o.1.pre) = true then z else if o.1.add.any (getB z) = true then z.set (hardI n v o.1.pre).toNat true else z
def zoneR (n : Int) (v : List Int) (os : List (Opr × Int)) (z : List Bool) : List Bool := os.foldl (fun z o => zoneOp n v o z) z
def zone0 (n : Int) (v goal : List Int) : List Bool := (List.replicate (n.toNat + 1) false).set (hardI n v goal).toNat true
def zoneV (n : Int) (v : List Int) (os : List (Opr × Int)) (goal : List Int) : List Bool := fixG (zoneR n v os) (n.toNat + 1) (zone0 n v goal)

def ZoneI (n : Int) (v : List Int) (g : Int) (z : List Bool) : Prop := z.length = n.toNat + 1 ∧ ∀ q, 0 ≤ q → getB z q = true → g ≤ getV v q

/-- What the rounds of a cut need to know of the values. -/
structure CutIn (n : Int) (v : List Int) (os : List (Opr × Int)) : Prop where
 n0 : 0 ≤ n
 low : ∀ y ∈ v, 0 ≤ y ∧ y ≤ 1000000000
 last : getV v n = 0
 pre : ∀ o ∈ os, ∀ p ∈ o.1.pre, 0 ≤ p ∧ p < n
 add : ∀ o ∈ os, ∀ p ∈ o.1.add, 0 ≤ p ∧ p < n
 cost : ∀ o ∈ os, 0 ≤ o.2 ∧ o.2 ≤ 100
 step : ∀ o ∈ os, ∀ p ∈ o.1.add, getV v p ≤ plusI (greatL v o.1.pre) o.2

theorem plusI_zero {a : Int} (ha : 0 ≤ a ∧ a ≤ 1000000000) : plusI a 0 ≤ a := by
 unfold plusI; split <;> omega
theorem offs_le (z : List Bool) : offs z ≤ z.length := List.count_le_length

section
variable {n : Int} {v : List Int} {os : List (Opr × Int)} {g : Int}
theorem zoneOp_ok (h : CutIn n v os) {o : Opr × Int} (ho : o ∈ os) : Okf (ZoneI n v g) offs LeB (zoneOp n v o) := by
 intro z ⟨hl, hz⟩
 unfold zoneOp
 have hin := hard_in (v := v) h.n0 (h.pre o ho)
 split
 ·exact ⟨⟨hl, hz⟩, LeB.rfl' z, .inl rfl⟩
 ·rename_i hc
  split
  ·rename_i ha
   have hlt : (hardI n v o.1.pre).toNat < z.length := by omega
   have hf : getB z (hardI n v o.1.pre) = false := by
    cases hb : getB z (hardI n v o.1.pre) with
    | false => rfl
    | true => exact absurd (.inr hb) hc
   refine ⟨⟨by rw [List.length_set, hl], fun q hq hb => ?_⟩, fun q hq => (getB_set hlt q).2 (.inr hq), .inr (offs_set z _ (getB_false hlt hf))⟩
   rcases (getB_set hlt q).1 hb with e | e
   ·obtain rfl : q = hardI n v o.1.pre := by omega
    obtain ⟨p, hp, hpz⟩ := List.any_eq_true.1 ha
    have h1 := hz p (h.add o ho p hp).1 hpz
    have h2 := h.step o ho p hp
    have h3 := hard_great h.last h.low (h.pre o ho)
    have h4 := comb_great v o.1.pre h.low
    have h5 : o.2 = 0 := by have := h.cost o ho; have : ¬ 0 < o.2 := fun e => hc (.inl e); omega
    rw [h5] at h2
    have := plusI_zero h4
    omega
   ·exact hz q hq e
  ·exact ⟨⟨hl, hz⟩, LeB.rfl' z, .inl rfl⟩
theorem zoneR_ok (h : CutIn n v os) {xs : List (Opr × Int)} (hx : ∀ o ∈ xs, o ∈ os) : Okf (ZoneI n v g) offs LeB (zoneR n v xs) :=
 okf_fold (f := fun o z => zoneOp n v o z) LeB.rfl' LeB.tr xs (fun o ho => zoneOp_ok h (hx o ho))
theorem zone0_ok (h : CutIn n v os) {goal : List Int} (hg : ∀ p ∈ goal, 0 ≤ p ∧ p < n) : ZoneI n v (greatL v goal) (zone0 n v goal) ∧ getB (zone0 n v goal) (hardI n v goal) = true := by
 have hin := hard_in (v := v) h.n0 hg
 have hlt : (hardI n v goal).toNat < (List.replicate (n.toNat + 1) false).length := by rw [List.length_replicate]; omega
 refine ⟨⟨by unfold zone0; simp, fun q hq hb => ?_⟩, (getB_set hlt _).2 (.inl rfl)⟩
 rcases (getB_set hlt q).1 hb with e | e
 ·obtain rfl : q = hardI n v goal := by omega
  exact hard_great h.last h.low hg
 ·exfalso
  unfold getB at e
  rw [List.getD_eq_getElem?_getD, List.getElem?_replicate] at e
  split at e <;> simp at e
theorem zoneV_ok (h : CutIn n v os) {goal : List Int} (hg : ∀ p ∈ goal, 0 ≤ p ∧ p < n) : ZoneI n v (greatL v goal) (zoneV n v os goal) ∧ getB (zoneV n v os goal) (hardI n v goal) = true ∧
  ∀ o ∈ os, o.2 ≤ 0 → ∀ p ∈ o.1.add, getB (zoneV n v os goal) p = true → getB (zoneV n v os goal) (hardI n v o.1.pre) = true := by
 obtain ⟨z0, z1⟩ := zone0_ok h hg
 have hok : Okf (ZoneI n v (greatL v goal)) offs LeB (zoneR n v os) := zoneR_ok h (fun o ho => ho)
 obtain ⟨a1, a2, a3⟩ := fixG_spec hok LeB.rfl' LeB.tr (n.toNat + 1) (zone0 n v goal) z0 (by have := offs_le (zone0 n v goal); have := z0.1; omega)
 refine ⟨a1, a2 _ z1, fun o ho hc p hp hz => ?_⟩
 have h1 := fold_done (f := fun o z => zoneOp n v o z) LeB.rfl' LeB.tr os (fun o ho => zoneOp_ok h ho) _ a1 a3 o ho
 unfold zoneV at hz ⊢
 generalize fixG (zoneR n v os) (n.toNat + 1) (zone0 n v goal) = z at h1 hz a1 ⊢
 unfold zoneOp at h1
 cases hb : getB z (hardI n v o.1.pre) with
 | true => rfl
 | false =>
  exfalso
  rw [if_neg (by rintro (e | e); omega; rw [hb] at e; cases e), if_pos (List.any_eq_true.2 ⟨p, hp, hz⟩)] at h1
  have hin := hard_in (v := v) h.n0 (h.pre o ho)
  have hlt : (hardI n v o.1.pre).toNat < z.length := by have := a1.1; omega
  have := offs_set z _ (getB_false hlt hb)
  rw [h1] at this
  omega

/-! ### what is reached before the zone -/
def befAdd (z b : List Bool) (ps : List Int) : List Bool := ps.foldl (fun b p => if getB b p = true ∨ getB z p = true then b else b.set p.toNat true) b
def befOp (n : Int) (v : List Int) (z : List Bool) (o : Opr) (b : List Bool) : List Bool := if getB b (hardI n v o.pre) = true then befAdd z b o.add else b
def befR (n : Int) (v : List Int) (z : List Bool) (ops : List Opr) (b : List Bool) : List Bool := ops.foldl (fun b o => befOp n v z o b) b
def onB (b : List Bool) (s : List Int) : List Bool := s.foldl (fun b p => b.set p.toNat true) b
def bef0 (n : Int) (s : List Int) : List Bool := onB ((List.replicate (n.toNat + 1) false).set n.toNat true) s
def befV (n : Int) (v : List Int) (z : List Bool) (ops : List Opr) (s : List Int) : List Bool := fixG (befR n v z ops) (n.toNat + 1) (bef0 n s)
theorem onB_snoc (b : List Bool) (s : List Int) (p : Int) : onB b (s ++ [p]) = (onB b s).set p.toNat true := by unfold onB; rw [List.foldl_append]; rfl
theorem befAdd_snoc (z b : List Bool) (ps : List Int) (p : Int) : befAdd z b (ps ++ [p]) = if getB (befAdd z b ps) p = true ∨ getB z p = true then befAdd z b ps else (befAdd z b ps).set p.toNat true := by unfold befAdd; rw [List.foldl_append]; rfl
theorem befR_snoc (n : Int) (v : List Int) (z : List Bool) (ops : List Opr) (o : Opr) (b : List Bool) : befR n v z (ops ++ [o]) b = befOp n v z o (befR n v z ops b) := by unfold befR; rw [List.foldl_append]; rfl
theorem zoneR_snoc (n : Int) (v : List Int) (os : List (Opr × Int)) (o : Opr × Int) (z : List Bool) : zoneR n v (os ++ [o]) z = zoneOp n v o (zoneR n v os z) := by unfold zoneR; rw [List.foldl_append]; rfl

def BefI (n : Int) (z b : List Bool) : Prop := b.length = n.toNat + 1 ∧ ∀ q, 0 ≤ q → getB b q = true → getB z q = false
theorem onB_spec : ∀ (s : List Int) (b : List Bool), (∀ p ∈ s, 0 ≤ p ∧ p.toNat < b.length) → (onB b s).length = b.length ∧ ∀ q, 0 ≤ q → (getB (onB b s) q = true ↔ q ∈ s ∨ getB b q = true)
 | [], b, _ => ⟨rfl, fun q _ => ⟨.inr, fun h => h.resolve_left (List.not_mem_nil)⟩⟩
 | p :: r, b, h => by
  have hp := h p (by simp)
  obtain ⟨h1, h2⟩ := onB_spec r (b.set p.toNat true) (fun q hq => by rw [List.length_set]; exact h q (by simp [hq]))
  have e : onB b (p :: r) = onB (b.set p.toNat true) r := rfl
  rw [e]
  refine ⟨by rw [h1, List.length_set], fun q hq => ?_⟩
  rw [h2 q hq, getB_set hp.2, List.mem_cons]
  constructor
  ·rintro (h | h | h)
   ·exact .inl (.inr h)
   ·exact .inl (.inl (by omega))
   ·exact .inr h
  ·rintro ((h | h) | h)
   ·exact .inr (.inl (by rw [h]))
   ·exact .inl h
   ·exact .inr (.inr h)
theorem bef0_spec (n0 : 0 ≤ n) {s : List Int} (hs : ∀ p ∈ s, 0 ≤ p ∧ p < n) : (bef0 n s).length = n.toNat + 1 ∧ ∀ q, 0 ≤ q → (getB (bef0 n s) q = true ↔ q ∈ s ∨ q = n) := by
 obtain ⟨h1, h2⟩ := onB_spec s ((List.replicate (n.toNat + 1) false).set n.toNat true) (fun p hp => by have := hs p hp; simp; omega)
 refine ⟨by unfold bef0; rw [h1]; simp, fun q hq => ?_⟩
 unfold bef0
 rw [h2 q hq, getB_set (by simp)]
 constructor
 ·rintro (h | h | h)
  ·exact .inl h
  ·exact .inr (by omega)
  ·exfalso
   unfold getB at h
   rw [List.getD_eq_getElem?_getD, List.getElem?_replicate] at h
   split at h <;> simp at h
 ·rintro (h | h)
  ·exact .inl h
  ·exact .inr (.inl (by rw [h]))
theorem befStep_ok {z : List Bool} {p : Int} (hp : 0 ≤ p ∧ p < n) : Okf (BefI n z) offs LeB (fun b => if getB b p = true ∨ getB z p = true then b else b.set p.toNat true) := by
 intro b ⟨hl, hb⟩
 simp only
 split
 ·exact ⟨⟨hl, hb⟩, LeB.rfl' b, .inl rfl⟩
 ·rename_i hc
  have hlt : p.toNat < b.length := by omega
  have hf : getB b p = false := by
   cases h : getB b p with
   | false => rfl
   | true => exact absurd (.inl h) hc
  have hfz : getB z p = false := by
   cases h : getB z p with
   | false => rfl
   | true => exact absurd (.inr h) hc
  refine ⟨⟨by rw [List.length_set, hl], fun q hq h => ?_⟩, fun q hq => (getB_set hlt q).2 (.inr hq), .inr (offs_set b _ (getB_false hlt hf))⟩
  rcases (getB_set hlt q).1 h with e | e
  ·obtain rfl : q = p := by omega
   exact hfz
  ·exact hb q hq e
theorem befAdd_ok {z : List Bool} {ps : List Int} (hp : ∀ p ∈ ps, 0 ≤ p ∧ p < n) : Okf (BefI n z) offs LeB (fun b => befAdd z b ps) :=
 okf_fold (f := fun p b => if getB b p = true ∨ getB z p = true then b else b.set p.toNat true) LeB.rfl' LeB.tr ps (fun p h => befStep_ok (hp p h))
theorem befOp_ok {z : List Bool} {o : Opr} (hp : ∀ p ∈ o.add, 0 ≤ p ∧ p < n) : Okf (BefI n z) offs LeB (befOp n v z o) := by
 intro b hb
 unfold befOp
 split
 ·exact befAdd_ok hp b hb
 ·exact ⟨hb, LeB.rfl' b, .inl rfl⟩
theorem befR_ok {z : List Bool} {ops : List Opr} (hp : ∀ o ∈ ops, ∀ p ∈ o.add, 0 ≤ p ∧ p < n) : Okf (BefI n z) offs LeB (befR n v z ops) :=
 okf_fold (f := fun o b => befOp n v z o b) LeB.rfl' LeB.tr ops (fun o ho => befOp_ok (hp o ho))
theorem befV_ok {z : List Bool} {ops : List Opr} {s : List Int} (hp : ∀ o ∈ ops, ∀ p ∈ o.add, 0 ≤ p ∧ p < n) (h0 : BefI n z (bef0 n s)) : BefI n z (befV n v z ops s) ∧ LeB (bef0 n s) (befV n v z ops s) ∧
  ∀ o ∈ ops, getB (befV n v z ops s) (hardI n v o.pre) = true → ∀ p ∈ o.add, getB (befV n v z ops s) p = true ∨ getB z p = true := by
 obtain ⟨a1, a2, a3⟩ := fixG_spec (befR_ok (v := v) hp) LeB.rfl' LeB.tr (n.toNat + 1) (bef0 n s) h0 (by have := offs_le (bef0 n s); have := h0.1; omega)
 refine ⟨a1, a2, fun o ho hh p hpp => ?_⟩
 have h1 := fold_done (f := fun o b => befOp n v z o b) LeB.rfl' LeB.tr ops (fun o ho => befOp_ok (hp o ho)) _ a1 a3 o ho
 unfold befV at hh ⊢
 generalize fixG (befR n v z ops) (n.toNat + 1) (bef0 n s) = b at h1 hh a1 ⊢
 unfold befOp at h1
 rw [if_pos hh] at h1
 have h2 := fold_done (f := fun p b => if getB b p = true ∨ getB z p = true then b else b.set p.toNat true) LeB.rfl' LeB.tr o.add (fun p h => befStep_ok (z := z) (hp o ho p h)) b a1 h1 p hpp
 by_cases hc : getB b p = true ∨ getB z p = true
 ·exact hc
 ·exfalso
  rw [if_neg hc] at h2
  have hf : getB b p = false := by
   cases h : getB b p with
   | false => rfl
   | true => exact absurd (.inl h) hc
  have hlt : p.toNat < b.length := by have := hp o ho p hpp; have := a1.1; omega
  have := offs_set b _ (getB_false hlt hf)
  rw [h2] at this
  omega

/-! ### the cut -/
def inCut (n : Int) (v : List Int) (z b : List Bool) (o : Opr) : Bool := getB b (hardI n v o.pre) && o.add.any (getB z)
def cutTo (n : Int) (v : List Int) (z b : List Bool) (os : List (Opr × Int)) : Nat → List Int × Int
 | 0 => ([], 1000000000)
 | k + 1 => match os[k]? with
  | some o => if inCut n v z b o.1 = true then ((cutTo n v z b os k).1 ++ [(k : Int)], min (cutTo n v z b os k).2 o.2) else cutTo n v z b os k
  | none => cutTo n v z b os k
theorem cutTo_spec (hc : ∀ o ∈ os, 0 ≤ o.2 ∧ o.2 ≤ 100) (z b : List Bool) : ∀ k, k ≤ os.length →
  (∀ i : Int, i ∈ (cutTo n v z b os k).1 ↔ ∃ (j : Nat) (o : Opr × Int), i = j ∧ j < k ∧ os[j]? = some o ∧ inCut n v z b o.1 = true) ∧ (cutTo n v z b os k).1.Nodup ∧ (cutTo n v z b os k).1.length ≤ k ∧
  (∀ (j : Nat) (o : Opr × Int), j < k → os[j]? = some o → inCut n v z b o.1 = true → (cutTo n v z b os k).2 ≤ o.2) ∧
  ((cutTo n v z b os k).1 = [] ∧ (cutTo n v z b os k).2 = 1000000000 ∨ ∃ (j : Nat) (o : Opr × Int), j < k ∧ os[j]? = some o ∧ inCut n v z b o.1 = true ∧ (cutTo n v z b os k).2 = o.2)
 | 0, _ => ⟨fun i => ⟨fun h => (List.not_mem_nil h).elim, fun ⟨_, _, _, h, _⟩ => absurd h (by omega)⟩, List.nodup_nil, Nat.le_refl _, fun _ _ h => absurd h (by omega), .inl ⟨rfl, rfl⟩⟩
 | k + 1, hk => by
  obtain ⟨h1, h2, h5, h3, h4⟩ := cutTo_spec hc z b k (by omega)
  obtain ⟨o, ho⟩ : ∃ o, os[k]? = some o := ⟨_, List.getElem?_eq_getElem (by omega)⟩
  have hco := hc o (List.mem_of_getElem? ho)
  rw [cutTo, ho]
  simp only
  by_cases hi : inCut n v z b o.1 = true
  ·rw [if_pos hi]
   refine ⟨fun i => ?_, ?_, by simp; omega, fun j o' hj ho' hi' => ?_, .inr ?_⟩
   ·rw [List.mem_append, h1 i]
    constructor
    ·rintro (⟨j, o', e, hj, ho', hi'⟩ | e)
     ·exact ⟨j, o', e, by omega, ho', hi'⟩
     ·exact ⟨k, o, by simpa using e, by omega, ho, hi⟩
    ·rintro ⟨j, o', e, hj, ho', hi'⟩
     by_cases hjk : j < k
     ·exact .inl ⟨j, o', e, hjk, ho', hi'⟩
     ·obtain rfl : j = k := by omega
      exact .inr (by simp [e])
   ·rw [List.nodup_append]
    refine ⟨h2, by simp, fun a ha c hc' e => ?_⟩
    obtain ⟨j, _, e2, hj, _⟩ := (h1 a).1 ha
    have : c = (k : Int) := by simpa using hc'
    omega
   ·simp only
    by_cases hjk : j < k
    ·have := h3 j o' hjk ho' hi'; omega
    ·obtain rfl : j = k := by omega
     rw [ho] at ho'; cases ho'; omega
   ·simp only
    rcases h4 with ⟨_, e⟩ | ⟨j, o', hj, ho', hi', e⟩
    ·exact ⟨k, o, by omega, ho, hi, by rw [e]; omega⟩
    ·by_cases hlt : o'.2 ≤ o.2
     ·exact ⟨j, o', by omega, ho', hi', by rw [e]; omega⟩
     ·exact ⟨k, o, by omega, ho, hi, by rw [e]; omega⟩
  ·rw [if_neg hi]
   have drop : ∀ (j : Nat) (o' : Opr × Int), j < k + 1 → os[j]? = some o' → inCut n v z b o'.1 = true → j < k := fun j o' hj ho' hi' => by
    by_cases hjk : j < k
    ·exact hjk
    ·obtain rfl : j = k := by omega
     rw [ho] at ho'; cases ho'; exact absurd hi' hi
   refine ⟨fun i => ?_, h2, by omega, fun j o' hj ho' hi' => h3 j o' (drop j o' hj ho' hi') ho' hi', ?_⟩
   ·rw [h1 i]
    constructor
    ·rintro ⟨j, o', e, hj, ho', hi'⟩; exact ⟨j, o', e, by omega, ho', hi'⟩
    ·rintro ⟨j, o', e, hj, ho', hi'⟩; exact ⟨j, o', e, drop j o' hj ho' hi', ho', hi'⟩
   ·rcases h4 with h4 | ⟨j, o', hj, ho', hi', e⟩
    ·exact .inl h4
    ·exact .inr ⟨j, o', by omega, ho', hi', e⟩
end

/-- Finite values are of facts that the operators reach. -/
def FinIn (b : List Bool) (v : List Int) : Prop := ∀ q, 0 ≤ q → q.toNat < v.length → getV v q < 1000000000 → getB b q = true
theorem getV_set_ne {v : List Int} {i : Nat} {x : Int} {q : Int} (h : q.toNat ≠ i) : getV (v.set i x) q = getV v q := by
 unfold getV
 rw [List.getD_eq_getElem?_getD, List.getD_eq_getElem?_getD, List.getElem?_set_ne (fun e => h e.symm)]
theorem finIn_adds {b : List Bool} {x : Int} : ∀ (ps v : List Int), FinIn b v → (∀ p ∈ ps, 0 ≤ p) → (x < 1000000000 → ∀ p ∈ ps, getB b p = true) → (∀ y ∈ v, y ≤ 1000000000) → x ≤ 1000000000 → FinIn b (addsV x v ps)
 | [], v, h, _, _, _, _ => h
 | p :: r, v, h, h0, hb, hv, hx => by
  unfold addsV
  rw [List.foldl_cons]
  refine finIn_adds r _ ?_ (fun q hq => h0 q (by simp [hq])) (fun hx q hq => hb hx q (by simp [hq])) ?_ hx
  ·split
   ·intro q hq hl hlt
    rw [List.length_set] at hl
    by_cases he : q.toNat = p.toNat
    ·obtain rfl : q = p := by have := h0 p (by simp); omega
     refine hb ?_ q (by simp)
     unfold getV at hlt
     rw [List.getD_eq_getElem?_getD, List.getElem?_set_self hl] at hlt
     simpa using hlt
    ·rw [getV_set_ne he] at hlt
     exact h q hq hl hlt
   ·exact h
  ·split
   ·intro y hy
    rcases List.mem_or_eq_of_mem_set hy with h | h
    ·exact hv y h
    ·omega
   ·exact hv
theorem finIn_ops {b : List Bool} : ∀ (os : List (Opr × Int)) (v : List Int), FinIn b v → (∀ y ∈ v, 0 ≤ y ∧ y ≤ 1000000000) → (∀ o ∈ os, 0 ≤ o.2) → (∀ o ∈ os, ∀ p ∈ o.1.pre, 0 ≤ p ∧ p.toNat < v.length) → (∀ o ∈ os, ∀ p ∈ o.1.add, 0 ≤ p) →
  (∀ o ∈ os, (∀ p ∈ o.1.pre, getB b p = true) → ∀ p ∈ o.1.add, getB b p = true) → FinIn b (opsV greatL v os)
 | [], v, h, _, _, _, _, _ => h
 | o :: r, v, h, hv, hc, hp, ha, hs => by
  have h1 := comb_great v o.1.pre hv
  have hx := plusI_low h1.1 (hc o (by simp))
  have hv2 := addsV_spec hx o.1.add v hv
  have e : opsV greatL v (o :: r) = opsV greatL (addsV (plusI (greatL v o.1.pre) o.2) v o.1.add) r := by unfold opsV; rw [List.foldl_cons]
  rw [e]
  refine finIn_ops r _ (finIn_adds o.1.add v h (ha o (by simp)) (fun hlt => hs o (by simp) (fun p hpp => ?_)) (fun y hy => (hv y hy).2) hx.2) hv2.2.1 (fun o ho => hc o (by simp [ho])) (fun o ho p hpp => by rw [hv2.1]; exact hp o (by simp [ho]) p hpp) (fun o ho => ha o (by simp [ho])) (fun o ho => hs o (by simp [ho]))
  have h2 := greatL_mem (v := v) hpp
  have h3 : greatL v o.1.pre < 1000000000 := by
   by_cases he : greatL v o.1.pre = 1000000000
   ·unfold plusI at hlt; rw [if_pos (.inl he)] at hlt; omega
   ·omega
  exact h p (hp o (by simp) p hpp).1 (hp o (by simp) p hpp).2 (by omega)
theorem finIn_fix {b : List Bool} {os : List (Opr × Int)} (hc : ∀ o ∈ os, 0 ≤ o.2) (ha : ∀ o ∈ os, ∀ p ∈ o.1.add, 0 ≤ p) (hs : ∀ o ∈ os, (∀ p ∈ o.1.pre, getB b p = true) → ∀ p ∈ o.1.add, getB b p = true) :
  ∀ (k : Nat) (v : List Int), FinIn b v → (∀ y ∈ v, 0 ≤ y ∧ y ≤ 1000000000) → (∀ o ∈ os, ∀ p ∈ o.1.pre, 0 ≤ p ∧ p.toNat < v.length) → FinIn b (fixV greatL os k v)
 | 0, v, h, _, _ => h
 | k + 1, v, h, hv, hp => by
  unfold fixV
  split
  ·exact h
  ·have h2 := opsV_spec comb_great os v hc hv
   exact finIn_fix hc ha hs k _ (finIn_ops os v h hv hc hp ha hs) h2.2.1 (fun o ho p hpp => by rw [h2.1]; exact hp o ho p hpp)
theorem finIn_zero {b : List Bool} : ∀ (ps v : List Int), FinIn b v → (∀ p ∈ ps, 0 ≤ p ∧ getB b p = true) → FinIn b (zeroV v ps)
 | [], v, h, _ => h
 | p :: r, v, h, hb => by
  refine finIn_zero r (v.set p.toNat 0) (fun q hq hl hlt => ?_) (fun q hq => hb q (by simp [hq]))
  rw [List.length_set] at hl
  by_cases he : q.toNat = p.toNat
  ·obtain rfl : q = p := by have := (hb p (by simp)).1; omega
   exact (hb q (by simp)).2
  ·rw [getV_set_ne he] at hlt
   exact h q hq hl hlt
theorem finIn_start (b : List Bool) (n : Int) {s : List Int} (hb : ∀ p ∈ s, 0 ≤ p ∧ getB b p = true) : FinIn b (startV n s) := by
 refine finIn_zero s _ (fun q _ hl hlt => ?_) hb
 rw [List.length_replicate] at hl
 unfold getV at hlt
 rw [List.getD_eq_getElem?_getD, List.getElem?_replicate, if_pos hl] at hlt
 exact absurd hlt (by simp)

end Go.Proofs.YtdokakhgflljgaaGreat

namespace Go.Proofs.YtdokakhgflljgaaGreat

def valL (t : Tsk) (s costs : List Int) : List Int := valuesV greatL t costs s ++ [0]
def zoneT (t : Tsk) (s costs : List Int) : List Bool := zoneV t.n (valL t s costs) (t.ops.zip costs) t.goal
def befT (t : Tsk) (s costs : List Int) : List Bool := befV t.n (valL t s costs) (zoneT t s costs) t.ops s
def cutT (t : Tsk) (s costs : List Int) : List Int × Int := cutTo t.n (valL t s costs) (zoneT t s costs) (befT t s costs) (t.ops.zip costs) t.ops.length
def lowC (ix : List Int) (c : Int) (costs : List Int) : List Int := ix.foldl (fun cs i => cs.set i.toNat (getV cs i - c)) costs
/-- Rounds of cuts: the sum of their costs. -/
def cutsT (t : Tsk) (s : List Int) : Nat → List Int → Int → Int
 | 0, _, tot => tot
 | k + 1, costs, tot => if greatL (valL t s costs) t.goal = 0 then tot else if greatL (valL t s costs) t.goal = 1000000000 then 1000000000 else
  cutsT t s k (lowC (cutT t s costs).1 (cutT t s costs).2 costs) (tot + (cutT t s costs).2)
/-- What the steps of a plan cost. -/
def payL (costs : List Int) (p : List Nat) : Int := (p.map fun i : Nat => getV costs (i : Int)).sum
def fuelC (costs : List Int) : Nat := (payL costs (List.range costs.length)).toNat + 1
def cutsH (t : Tsk) (x : Nat) : Int := cutsT t (facts x) (fuelC (costsV t)) (costsV t) 0

structure CostsOk (t : Tsk) (costs : List Int) : Prop where
 len : costs.length = t.ops.length
 low : ∀ c ∈ costs, 0 ≤ c ∧ c ≤ 100

theorem getV_app {v : List Int} {p : Int} (h : p.toNat < v.length) : getV (v ++ [0]) p = getV v p := by
 unfold getV
 rw [List.getD_eq_getElem?_getD, List.getD_eq_getElem?_getD, List.getElem?_append_left h]
theorem getV_last {v : List Int} {n : Int} (h : v.length = n.toNat) : getV (v ++ [0]) n = 0 := by
 unfold getV
 rw [List.getD_eq_getElem?_getD, ← h, List.getElem?_append_right (Nat.le_refl _)]; simp
theorem great_app_from {v : List Int} : ∀ (ps : List Int) (m : Int), (∀ p ∈ ps, p.toNat < v.length) → ps.foldl (fun m p => max m (getV (v ++ [0]) p)) m = ps.foldl (fun m p => max m (getV v p)) m
 | [], _, _ => rfl
 | p :: r, m, h => by
  rw [List.foldl_cons, List.foldl_cons, great_app_from r _ (fun q hq => h q (by simp [hq])), getV_app (h p (by simp))]
theorem greatL_app {v : List Int} (ps : List Int) (h : ∀ p ∈ ps, p.toNat < v.length) : greatL (v ++ [0]) ps = greatL v ps := great_app_from ps 0 h

section
variable {t : Tsk} {s costs : List Int}
theorem vals_ok (hc : CostsOk t costs) : RelOk t costs greatL s (valuesV greatL t costs s) := values_ok comb_great (fun c h => (hc.low c h).1) s
theorem cutIn (ok : t.Ok) (hc : CostsOk t costs) (s : List Int) : CutIn t.n (valL t s costs) (t.ops.zip costs) := by
 have V := vals_ok (t := t) (s := s) hc
 have n0 := ok.n0
 have hpre : ∀ o ∈ t.ops.zip costs, ∀ p ∈ o.1.pre, 0 ≤ p ∧ p < t.n := fun o ho => (isSet_iff.1 (ok.ops o.1 (List.of_mem_zip ho).1).pre).1
 have hadd : ∀ o ∈ t.ops.zip costs, ∀ p ∈ o.1.add, 0 ≤ p ∧ p < t.n := fun o ho => (isSet_iff.1 (ok.ops o.1 (List.of_mem_zip ho).1).add).1
 refine ⟨n0, fun y hy => ?_, getV_last V.len, hpre, hadd, fun o ho => hc.low o.2 (List.of_mem_zip ho).2, fun o ho p hp => ?_⟩
 ·rcases List.mem_append.1 hy with h | h
  ·exact V.low y h
  ·have : y = 0 := by simpa using h
   omega
 ·unfold valL
  have hl := V.len
  rw [getV_app (by have := hadd o ho p hp; omega), greatL_app _ (fun q hq => by have := hpre o ho q hq; omega)]
  exact V.step o ho p hp
theorem zip_at {costs : List Int} (hl : costs.length = t.ops.length) {o : Opr} (ho : o ∈ t.ops) : ∃ (j : Nat) (c : Int), t.ops[j]? = some o ∧ costs[j]? = some c ∧ (t.ops.zip costs)[j]? = some (o, c) := by
 obtain ⟨j, hj⟩ := List.mem_iff_getElem?.1 ho
 obtain ⟨c, hc⟩ : ∃ c, costs[j]? = some c := ⟨_, List.getElem?_eq_getElem (by have := (List.getElem?_eq_some_iff.1 hj).1; omega)⟩
 exact ⟨j, c, hj, hc, by rw [List.getElem?_zip_eq_some]; exact ⟨hj, hc⟩⟩
theorem hard_on {n : Int} {v ps : List Int} {b : List Bool} (hps : ∀ p ∈ ps, 0 ≤ p ∧ p < n) (hn : getB b n = true) (h : ∀ p ∈ ps, getB b p = true) : getB b (hardI n v ps) = true := by
 rcases (hard_from (n := n) (v := v) ps n (fun p hp => by have := hps p hp; omega)).1 with e | e
 ·unfold hardI; rw [e]; exact hn
 ·exact h _ e

/-- What is known of the zone and of what lies before it. -/
structure CutSt (t : Tsk) (costs v : List Int) (z b : List Bool) (s : List Int) : Prop where
 zlen : z.length = t.n.toNat + 1
 blen : b.length = t.n.toNat + 1
 top : getB z (hardI t.n v t.goal) = true
 free : ∀ o ∈ t.ops.zip costs, o.2 ≤ 0 → ∀ p ∈ o.1.add, getB z p = true → getB z (hardI t.n v o.1.pre) = true
 apart : ∀ q, 0 ≤ q → getB b q = true → getB z q = false
 all : getB b t.n = true
 here : ∀ p ∈ s, getB b p = true
 shut : ∀ o ∈ t.ops, getB b (hardI t.n v o.pre) = true → ∀ p ∈ o.add, getB b p = true ∨ getB z p = true
theorem cut_start (ok : t.Ok) (hc : CostsOk t costs) (hs : ∀ p ∈ s, 0 ≤ p ∧ p < t.n) (hg : 0 < greatL (valL t s costs) t.goal) : BefI t.n (zoneT t s costs) (bef0 t.n s) := by
 have C := cutIn ok hc s
 have V := vals_ok (t := t) (s := s) hc
 have hgoal := (isSet_iff.1 ok.goal).1
 have n0 := ok.n0
 obtain ⟨z0, z1, z2⟩ := zoneV_ok C hgoal
 obtain ⟨b0, b1⟩ := bef0_spec n0 hs
 refine ⟨b0, fun q hq hb => ?_⟩
 cases hz : getB (zoneT t s costs) q with
 | false => rfl
 | true =>
  exfalso
  have h1 := z0.2 q hq hz
  rcases (b1 q hq).1 hb with e | rfl
  ·have h2 := V.here q e
   have h3 : getV (valL t s costs) q = getV (valuesV greatL t costs s) q := getV_app (by have := hs q e; have := V.len; omega)
   omega
  ·have := C.last; omega
theorem cut_st (ok : t.Ok) (hc : CostsOk t costs) (hs : ∀ p ∈ s, 0 ≤ p ∧ p < t.n) (hg : 0 < greatL (valL t s costs) t.goal) : CutSt t costs (valL t s costs) (zoneT t s costs) (befT t s costs) s := by
 have C := cutIn ok hc s
 have hgoal := (isSet_iff.1 ok.goal).1
 have n0 := ok.n0
 obtain ⟨z0, z1, z2⟩ := zoneV_ok C hgoal
 obtain ⟨a1, a2, a3⟩ := befV_ok (v := valL t s costs) (ops := t.ops) (fun o ho => (isSet_iff.1 (ok.ops o ho).add).1) (cut_start ok hc hs hg)
 obtain ⟨b0, b1⟩ := bef0_spec n0 hs
 exact ⟨z0.1, a1.1, z1, z2, a1.2, a2 _ ((b1 t.n n0).2 (.inr rfl)), fun p hp => a2 _ ((b1 p (hs p hp).1).2 (.inl hp)), a3⟩

/-- A plan uses an operator of the cut. -/
theorem path_cut (ok : t.Ok) {v : List Int} {z b : List Bool} (S : CutSt t costs v z b s) {g : Int} (hg : getB z g = true) (hg0 : 0 ≤ g) : ∀ (p : List Nat) (x y : Nat), runOps (wordsOf t.ops) x p = some y → (∀ q ∈ facts x, getB b q = true) → g ∈ facts y →
  ∃ i ∈ p, ∃ o, t.ops[i]? = some o ∧ inCut t.n v z b o = true
 | [], x, y, h, hx, hy => by
  cases h
  have h1 := S.apart g hg0 (hx g hy)
  rw [hg] at h1; cases h1
 | a :: r, x, y, h, hx, hy => by
  unfold runOps at h
  cases ho : (wordsOf t.ops)[a]? with
  | none => rw [ho] at h; cases h
  | some w =>
   rw [ho] at h
   simp only at h
   obtain ⟨o, ho', rfl⟩ : ∃ o, t.ops[a]? = some o ∧ o.word = w := by
    unfold wordsOf at ho
    rw [List.getElem?_map] at ho
    cases h2 : t.ops[a]? with
    | none => rw [h2] at ho; cases ho
    | some o => rw [h2] at ho; cases ho; exact ⟨o, rfl, rfl⟩
   split at h
   ·rename_i hc
    have hom := List.mem_of_getElem? ho'
    have oko := ok.ops o hom
    have hpre := can_facts ok.n1 oko hc
    have hb := hard_on (v := v) (isSet_iff.1 oko.pre).1 S.all (fun p hp => hx p (hpre p hp))
    by_cases ha : o.add.any (getB z) = true
    ·exact ⟨a, by simp, o, ho', by unfold inCut; rw [hb, ha]; rfl⟩
    ·obtain ⟨i, hi, o', ho2, hc2⟩ := path_cut ok S hg hg0 r (o.word.next x) y h (fun q hq => by
      rcases next_facts oko hq with ⟨h1, _⟩ | h1
      ·exact hx q h1
      ·refine (S.shut o hom hb q h1).resolve_right (fun hz => ha (List.any_eq_true.2 ⟨q, h1, hz⟩))) hy
     exact ⟨i, by simp [hi], o', ho2, hc2⟩
   ·cases h

structure RoundOk (t : Tsk) (s costs : List Int) (q : List Int × Int) : Prop where
 pos : 0 < q.2 ∧ q.2 ≤ 100
 inn : ∀ i ∈ q.1, 0 ≤ i ∧ i < t.ops.length ∧ q.2 ≤ getV costs i
 nodup : q.1.Nodup
 few : q.1.length ≤ t.ops.length
 ne : ∃ i, i ∈ q.1
 use : ∀ (x : Nat) (p : List Nat) (y : Nat), facts x = s → runOps (wordsOf t.ops) x p = some y → goalB (wd t.goal) y = true → ∃ i ∈ p, (i : Int) ∈ q.1

theorem round_ok (ok : t.Ok) (hc : CostsOk t costs) (hs : ∀ p ∈ s, 0 ≤ p ∧ p < t.n) (hg : 0 < greatL (valL t s costs) t.goal) (hf : greatL (valL t s costs) t.goal < 1000000000) : RoundOk t s costs (cutT t s costs) := by
 have C := cutIn ok hc s
 have V := vals_ok (t := t) (s := s) hc
 have S := cut_st ok hc hs hg
 have hgoal := (isSet_iff.1 ok.goal).1
 have n0 := ok.n0
 have hzl : (t.ops.zip costs).length = t.ops.length := by rw [List.length_zip, hc.len]; omega
 obtain ⟨c1, c2, c5, c3, c4⟩ := cutTo_spec (n := t.n) (v := valL t s costs) C.cost (zoneT t s costs) (befT t s costs) t.ops.length (by omega)
 have gne : t.goal ≠ [] := fun e => by rw [e] at hg; have : greatL (valL t s costs) [] = 0 := rfl; omega
 obtain ⟨m1, m2⟩ := hard_mem (v := valL t s costs) (n := t.n) (ps := t.goal) (fun p hp => by have := hgoal p hp; omega) gne
 have mg := hgoal _ m1
 have opAt : ∀ (i : Nat) (o : Opr), t.ops[i]? = some o → ∃ c, costs[i]? = some c ∧ (t.ops.zip costs)[i]? = some (o, c) := fun i o ho => by
  obtain ⟨c, hc'⟩ : ∃ c, costs[i]? = some c := ⟨_, List.getElem?_eq_getElem (by have := (List.getElem?_eq_some_iff.1 ho).1; have := hc.len; omega)⟩
  exact ⟨c, hc', by rw [List.getElem?_zip_eq_some]; exact ⟨ho, hc'⟩⟩
 have ne : ∃ i, i ∈ (cutT t s costs).1 := by
  refine Classical.byContradiction fun hno => ?_
  have hcl : ∀ o ∈ t.ops.zip costs, (∀ p ∈ o.1.pre, getB (befT t s costs) p = true) → ∀ p ∈ o.1.add, getB (befT t s costs) p = true := fun o ho hp p hpp => by
   obtain ⟨j, hj⟩ := List.mem_iff_getElem?.1 ho
   have hb := hard_on (v := valL t s costs) (C.pre o ho) S.all hp
   refine (S.shut o.1 (List.of_mem_zip ho).1 hb p hpp).resolve_right (fun hz => hno ⟨(j : Int), (c1 _).2 ⟨j, o, rfl, by have := (List.getElem?_eq_some_iff.1 hj).1; omega, hj, ?_⟩⟩)
   unfold inCut
   rw [hb, List.any_eq_true.2 ⟨p, hpp, hz⟩]; rfl
  have hst := startV_low (n := t.n) s
  have hfin := finIn_fix (b := befT t s costs) (os := t.ops.zip costs) (fun o ho => (C.cost o ho).1) (fun o ho p hp => (C.add o ho p hp).1) hcl (weightC (startV t.n s)) (startV t.n s)
   (finIn_start _ t.n (fun p hp => ⟨(hs p hp).1, S.here p hp⟩)) hst.2 (fun o ho p hp => by have := C.pre o ho p hp; rw [hst.1]; omega)
  have hlt : (hardI t.n (valL t s costs) t.goal).toNat < (valuesV greatL t costs s).length := by have := V.len; omega
  have h1 := hfin _ mg.1 hlt (by
   have h2 := greatL_mem (v := valL t s costs) m1
   unfold valL at h2 hf
   rw [getV_app (by unfold valL at hlt; exact hlt)] at h2
   show getV (valuesV greatL t costs s) _ < _
   unfold valL
   omega)
  have h2 := S.apart _ mg.1 h1
  rw [S.top] at h2; cases h2
 have inn : ∀ i ∈ (cutT t s costs).1, 0 ≤ i ∧ i < t.ops.length ∧ (cutT t s costs).2 ≤ getV costs i := fun i hi => by
  obtain ⟨j, o, rfl, hj, ho, hcut⟩ := (c1 i).1 hi
  have h1 := c3 j o hj ho hcut
  obtain ⟨_, h2⟩ := List.getElem?_zip_eq_some.1 ho
  have e : getV costs (j : Int) = o.2 := by unfold getV; rw [List.getD_eq_getElem?_getD, Int.toNat_natCast, h2]; rfl
  rw [e]
  exact ⟨by omega, by omega, h1⟩
 refine ⟨?_, inn, c2, c5, ne, fun x p y hx hr ha => ?_⟩
 ·rcases c4 with ⟨e, _⟩ | ⟨j, o, hj, ho, hcut, e⟩
  ·obtain ⟨i, hi⟩ := ne
   unfold cutT at hi
   rw [e] at hi; cases hi
  ·have hom := List.mem_of_getElem? ho
   have h1 := C.cost o hom
   unfold cutT
   rw [e]
   refine ⟨?_, h1.2⟩
   by_cases h2 : 0 < o.2
   ·exact h2
   ·exfalso
    unfold inCut at hcut
    rw [Bool.and_eq_true] at hcut
    obtain ⟨p, hp, hz⟩ := List.any_eq_true.1 hcut.2
    have h3 := S.free o hom (by omega) p hp hz
    have h4 := S.apart _ (hard_in (v := valL t s costs) n0 (C.pre o hom)).1 hcut.1
    rw [h3] at h4; cases h4
 ·obtain ⟨i, hi, o, ho, hcut⟩ := path_cut ok S S.top mg.1 p x y hr (fun q hq => S.here q (by rw [← hx]; exact hq)) (goal_facts ok.n1 ok.goal ha _ m1)
  obtain ⟨c, _, hz⟩ := opAt i o ho
  exact ⟨i, hi, (c1 _).2 ⟨i, (o, c), rfl, (List.getElem?_eq_some_iff.1 ho).1, hz, hcut⟩⟩

/-! ### the costs that are left -/
theorem lowC_spec (c : Int) : ∀ (ix costs : List Int), ix.Nodup → (∀ i ∈ ix, 0 ≤ i ∧ i.toNat < costs.length) → (lowC ix c costs).length = costs.length ∧ ∀ j : Int, 0 ≤ j → getV (lowC ix c costs) j = if j ∈ ix then getV costs j - c else getV costs j
 | [], costs, _, _ => ⟨rfl, fun j _ => by simp [lowC]⟩
 | i :: r, costs, hn, hb => by
  obtain ⟨hni, hnr⟩ := List.nodup_cons.1 hn
  have hi := hb i (by simp)
  obtain ⟨h1, h2⟩ := lowC_spec c r (costs.set i.toNat (getV costs i - c)) hnr (fun q hq => by rw [List.length_set]; exact hb q (by simp [hq]))
  have e : lowC (i :: r) c costs = lowC r c (costs.set i.toNat (getV costs i - c)) := rfl
  rw [e]
  refine ⟨by rw [h1, List.length_set], fun j hj => ?_⟩
  rw [h2 j hj]
  by_cases hji : j = i
  ·subst hji
   rw [if_neg hni, if_pos (by simp)]
   show (costs.set j.toNat (getV costs j - c)).getD j.toNat 0 = _
   rw [List.getD_eq_getElem?_getD, List.getElem?_set_self hi.2]; rfl
  ·rw [getV_set_ne (by omega)]
   by_cases hjr : j ∈ r
   ·rw [if_pos hjr, if_pos (by simp [hjr])]
   ·rw [if_neg hjr, if_neg (by simp [hji, hjr])]
theorem getV_mem {v : List Int} {c : Int} (h : c ∈ v) : ∃ j : Nat, j < v.length ∧ getV v (j : Int) = c := by
 obtain ⟨j, hj⟩ := List.mem_iff_getElem?.1 h
 exact ⟨j, (List.getElem?_eq_some_iff.1 hj).1, by unfold getV; rw [List.getD_eq_getElem?_getD, Int.toNat_natCast, hj]; rfl⟩
theorem low_ok (hc : CostsOk t costs) {q : List Int × Int} (hr : RoundOk t s costs q) : CostsOk t (lowC q.1 q.2 costs) := by
 obtain ⟨h1, h2⟩ := lowC_spec q.2 q.1 costs hr.nodup (fun i hi => by have := hr.inn i hi; have := hc.len; omega)
 refine ⟨by rw [h1, hc.len], fun c hm => ?_⟩
 obtain ⟨j, hj, rfl⟩ := getV_mem hm
 rw [h1] at hj
 have h3 : 0 ≤ getV costs (j : Int) ∧ getV costs (j : Int) ≤ 100 := by
  unfold getV
  rw [List.getD_eq_getElem?_getD, Int.toNat_natCast, List.getElem?_eq_getElem hj]
  exact hc.low _ (List.getElem_mem hj)
 rw [h2 (j : Int) (by omega)]
 split
 ·rename_i hi
  have := hr.inn _ hi; have := hr.pos; omega
 ·exact h3
theorem payL_low (h : ∀ c ∈ costs, 0 ≤ c) : ∀ p : List Nat, 0 ≤ payL costs p
 | [] => Int.le_refl _
 | a :: r => by
  have h1 := payL_low h r
  have h2 : 0 ≤ getV costs (a : Int) := by
   unfold getV
   rw [List.getD_eq_getElem?_getD]
   cases hx : costs[(a : Int).toNat]? with
   | none => simp
   | some y => exact h y (List.mem_of_getElem? hx)
  unfold payL at h1 ⊢
  rw [List.map_cons, List.sum_cons]; omega
theorem payL_less {c1 c2 : List Int} {d : Int} (h : ∀ j : Nat, getV c2 (j : Int) ≤ getV c1 (j : Int)) {i : Nat} (hd : getV c2 (i : Int) + d ≤ getV c1 (i : Int)) : ∀ p : List Nat, payL c2 p ≤ payL c1 p ∧ (i ∈ p → payL c2 p + d ≤ payL c1 p)
 | [] => ⟨Int.le_refl _, fun h => (List.not_mem_nil h).elim⟩
 | a :: r => by
  obtain ⟨h1, h2⟩ := payL_less h hd r
  have h3 := h a
  unfold payL at h1 h2 ⊢
  rw [List.map_cons, List.sum_cons, List.map_cons, List.sum_cons]
  refine ⟨by omega, fun hi => ?_⟩
  rcases List.mem_cons.1 hi with rfl | hi
  ·omega
  ·have := h2 hi; omega
theorem low_pay (hc : CostsOk t costs) {q : List Int × Int} (hr : RoundOk t s costs q) (p : List Nat) (i : Nat) (hi : (i : Int) ∈ q.1) (hp : i ∈ p) : payL (lowC q.1 q.2 costs) p + q.2 ≤ payL costs p := by
 obtain ⟨h1, h2⟩ := lowC_spec q.2 q.1 costs hr.nodup (fun i hi => by have := hr.inn i hi; have := hc.len; omega)
 have hpos := hr.pos
 refine (payL_less (fun j => ?_) (i := i) ?_ p).2 hp
 ·rw [h2 (j : Int) (by omega)]; split <;> omega
 ·rw [h2 (i : Int) (by omega), if_pos hi]; omega
theorem low_fuel (hc : CostsOk t costs) {q : List Int × Int} (hr : RoundOk t s costs q) : payL (lowC q.1 q.2 costs) (List.range (lowC q.1 q.2 costs).length) + q.2 ≤ payL costs (List.range costs.length) := by
 obtain ⟨i, hi⟩ := hr.ne
 have h1 := hr.inn i hi
 rw [(low_ok hc hr).len, hc.len]
 have e : ((i.toNat : Nat) : Int) = i := by omega
 exact low_pay hc hr _ i.toNat (by rw [e]; exact hi) (List.mem_range.2 (by omega))

/-- Where there is a plan, the values are finite. -/
theorem plan_fin (ok : t.Ok) (hc : CostsOk t costs) {x y : Nat} {p : List Nat} (_hx : ∀ q ∈ facts x, 0 ≤ q ∧ q < t.n) (hr : runOps (wordsOf t.ops) x p = some y) (ha : goalB (wd t.goal) y = true) : greatL (valL t (facts x) costs) t.goal < 1000000000 := by
 have V := vals_ok (t := t) (s := facts x) hc
 have key := run_inv (t := t) (Inv := fun z _ => ∀ q ∈ facts z, getV (valuesV greatL t costs (facts x)) q < 1000000000) (by
  intro o z c ho hcan hi q hq
  have oko := ok.ops o ho
  rcases next_facts oko hq with ⟨h1, _⟩ | h1
  ·exact hi q h1
  ·obtain ⟨j, d, _, hd, hz⟩ := zip_at hc.len ho
   have h2 := V.step _ (List.mem_of_getElem? hz) q h1
   simp only at h2
   have hpre := can_facts ok.n1 oko hcan
   have h4 : greatL (valuesV greatL t costs (facts x)) o.pre ≤ 999999999 := greatL_le (by decide) (fun p hp => by have := hi p (hpre p hp); omega)
   have h5 := greatL_low (valuesV greatL t costs (facts x)) o.pre
   have h6 := hc.low d (List.mem_of_getElem? hd)
   unfold plusI at h2
   rw [if_neg (by omega)] at h2
   omega) p x y 0 hr (fun q hq => by rw [V.here q hq]; decide)
 have hg := goal_facts ok.n1 ok.goal ha
 have hgoal := (isSet_iff.1 ok.goal).1
 unfold valL
 rw [greatL_app _ (fun q hq => by have := hgoal q hq; have := V.len; omega)]
 have e2 : greatL (valuesV greatL t costs (facts x)) t.goal ≤ 999999999 := greatL_le (by decide) (fun q hq => by have := key q (hg q hq); omega)
 omega

theorem cutsT_low (ok : t.Ok) (hs : ∀ p ∈ s, 0 ≤ p ∧ p < t.n) : ∀ (k : Nat) (costs : List Int) (tot : Int), CostsOk t costs → payL costs (List.range costs.length) < k → 0 ≤ tot → tot + payL costs (List.range costs.length) ≤ 4000 → 0 ≤ cutsT t s k costs tot ∧ cutsT t s k costs tot ≤ 1000000000
 | 0, costs, tot, hc, hk, h0, h1 => by have := payL_low (fun c h => (hc.low c h).1) (List.range costs.length); omega
 | k + 1, costs, tot, hc, hk, h0, h1 => by
  have hp := payL_low (fun c h => (hc.low c h).1) (List.range costs.length)
  rw [cutsT]
  split
  ·omega
  ·split
   ·omega
   ·rename_i hg hf
    have hb := comb_great (valL t s costs) t.goal (cutIn ok hc s).low
    have hr := round_ok ok hc hs (by omega) (by omega)
    have h2 := low_fuel hc hr
    have h3 := hr.pos
    exact cutsT_low ok hs k _ _ (low_ok hc hr) (by omega) (by omega) (by omega)
theorem cutsT_adm (ok : t.Ok) {x y : Nat} {p : List Nat} (hs : ∀ q ∈ facts x, 0 ≤ q ∧ q < t.n) (hrun : runOps (wordsOf t.ops) x p = some y) (ha : goalB (wd t.goal) y = true) : ∀ (k : Nat) (costs : List Int) (tot : Int), CostsOk t costs → payL costs (List.range costs.length) < k → 0 ≤ tot → tot + payL costs (List.range costs.length) ≤ 4000 →
  cutsT t (facts x) k costs tot ≤ tot + payL costs p ∧ cutsT t (facts x) k costs tot < 1000000000
 | 0, costs, tot, hc, hk, h0, h1 => by have := payL_low (fun c h => (hc.low c h).1) (List.range costs.length); omega
 | k + 1, costs, tot, hc, hk, h0, h1 => by
  have hp := payL_low (fun c h => (hc.low c h).1) p
  have hp2 := payL_low (fun c h => (hc.low c h).1) (List.range costs.length)
  rw [cutsT]
  split
  ·omega
  ·rename_i hg
   have hfin := plan_fin ok hc hs hrun ha
   rw [if_neg (by omega)]
   have hb := comb_great (valL t (facts x) costs) t.goal (cutIn ok hc (facts x)).low
   have hr := round_ok ok hc hs (by omega) hfin
   have h2 := low_fuel hc hr
   have h3 := hr.pos
   obtain ⟨i, hi, hiq⟩ := hr.use x p y rfl hrun ha
   have h4 := low_pay hc hr p i hiq hi
   have h5 := cutsT_adm ok hs hrun ha k _ _ (low_ok hc hr) (by omega) (by omega : 0 ≤ tot + (cutT t (facts x) costs).2) (by omega)
   omega
end

theorem costs_first {t : Tsk} (ok : t.Ok) : CostsOk t (costsV t) := ⟨costsV_len t, costsV_low ok⟩
theorem payL_cost {t : Tsk} : ∀ p : List Nat, payL (costsV t) p = costN (wordsOf t.ops) p
 | [] => rfl
 | a :: r => by
  have ih := payL_cost (t := t) r
  unfold payL at ih ⊢
  rw [List.map_cons, List.sum_cons, ih, costN]
  congr 1
  unfold getV costsV wordsOf
  rw [List.getD_eq_getElem?_getD, Int.toNat_natCast, List.getElem?_map, List.getElem?_map, Option.map_map]
  rfl
theorem payL_few {t : Tsk} (ok : t.Ok) : payL (costsV t) (List.range (costsV t).length) ≤ 4000 := by
 have h := (costN_bound (ops_cost ok) (List.range (costsV t).length)).2
 rw [payL_cost]
 have h2 := ok.few
 rw [List.length_range, costsV_len] at h
 rw [costsV_len]; omega
theorem cuts_adm {t : Tsk} (ok : t.Ok) (L : List Nat) (hL : ∀ x ∈ L, Good t.n x) : Adm (wordsOf t.ops) L (goalB (wd t.goal)) (cutsH t) := by
 have hf := payL_few ok
 have hc := costs_first ok
 have h0 := payL_low (fun c h => (hc.low c h).1) (List.range (costsV t).length)
 have hk : payL (costsV t) (List.range (costsV t).length) < (fuelC (costsV t) : Nat) := by unfold fuelC; omega
 refine ⟨fun x hx => cutsT_low ok (isSet_iff.1 (hL x hx).1).1 _ _ 0 hc hk (Int.le_refl _) (by omega), fun x hx p y hr ha => ?_⟩
 obtain ⟨h1, h2⟩ := cutsT_adm ok (isSet_iff.1 (hL x hx).1).1 hr ha (fuelC (costsV t)) (costsV t) 0 hc hk (Int.le_refl _) (by omega)
 rw [payL_cost] at h1
 exact ⟨by unfold cutsH; omega, h2⟩

end Go.Proofs.YtdokakhgflljgaaGreat

namespace Go.Proofs.YtdokakhgflljgaaGreat
open Go.RowKit Go.Shelf

/-- The struct of a search: the task, the state, the costs and the values. -/
structure SrchC (W : World) (X n : Nat) (vi vg vo vs vc vv : Value) : Prop where
 c0 : W.cell? ⟨X, 0, none⟩ = some (.int .i64 (n : Int))
 c1 : W.cell? ⟨X, 1, none⟩ = some vi
 c2 : W.cell? ⟨X, 2, none⟩ = some vg
 c3 : W.cell? ⟨X, 3, none⟩ = some vo
 c4 : W.cell? ⟨X, 4, none⟩ = some vs
 c5 : W.cell? ⟨X, 5, none⟩ = some vc
 c6 : W.cell? ⟨X, 6, none⟩ = some vv
theorem SrchC.keeps {S : Nat → Prop} {W W' : World} {X n : Nat} {vi vg vo vs vc vv : Value} (h : SrchC W X n vi vg vo vs vc vv) (hk : Keeps S W W') (hs : ¬ S X) : SrchC W' X n vi vg vo vs vc vv :=
 ⟨hk.cell h.c0 hs, hk.cell h.c1 hs, hk.cell h.c2 hs, hk.cell h.c3 hs, hk.cell h.c4 hs, hk.cell h.c5 hs, hk.cell h.c6 hs⟩
theorem SrchC.keeps0 {W W' : World} {X n : Nat} {vi vg vo vs vc vv : Value} (h : SrchC W X n vi vg vo vs vc vv) (hk : Keeps (fun _ => False) W W') : SrchC W' X n vi vg vo vs vc vv := h.keeps hk (fun h => h)
theorem SrchC.lt {W : World} {X n : Nat} {vi vg vo vs vc vv : Value} (h : SrchC W X n vi vg vo vs vc vv) : X < W.heap.size := World.block_lt_of_cell? W _ h.c0

theorem getV_at {v : List Int} {p : Nat} (h : p < v.length) : v[p]? = some (getV v (p : Int)) := by
 unfold getV; rw [List.getD_eq_getElem?_getD, Int.toNat_natCast, List.getElem?_eq_getElem h]; rfl

set_option maxRecDepth 100000 in
set_option maxHeartbeats 4000000 in
theorem hardest_any (w : World) (X n : Nat) (vi vg vo vs vc vv vp : Value) (v ps : List Int) (hX : SrchC w X n vi vg vo vs vc vv) (hv : Ints w vv v) (hl : v.length = n + 1) (hp : Ints w vp ps) (hb : ∀ p ∈ ps, 0 ≤ p ∧ p < (n : Int)) :
  Calls Tryz.prog 132 #[.pointer (some ⟨X, 0, none⟩), vp] w fun e w' => e = .returned (.int .i64 (hardI (n : Int) v ps)) ∧ Keeps (fun _ => False) w w' := by
 obtain ⟨av, cv, hvv, mv⟩ := hv.form
 obtain ⟨ap, cp, hvp, mp⟩ := hp.form
 subst hvv hvp
 have HX := Lib.hid hX; have HV := Lib.hid hv; have HP := Lib.hid hp; have HB := Lib.hid hb; have HL := Lib.hid hl
 have hxl := hX.lt
 have d0 := hX.c0
 clear hX hv hp hb hl
 go_enter Tryz.func132, Tryz.ntmps132
 go_wp2_with fail
 clear d0
 go_loopw [5, 15] (fun v5 v15 wr => ∃ k : Nat, v15 = .int .i64 (k : Int) ∧ k ≤ ps.length ∧ v5 = .int .i64 (hardI (n : Int) v (ps.take k)) ∧ Keeps (fun _ => False) w wr) (fun _ v15 _ => ps.length - (intOf v15).toNat)
 case atStart => exact ⟨0, rfl, Nat.zero_le _, rfl, Keeps.refl _ _⟩
 case round =>
  obtain ⟨k, rfl, hk, rfl, hkw⟩ := hrel
  by_cases hlt : k < ps.length
  ·have HW := Lib.hid hkw
   have HR := Lib.hid (HX.out.keeps0 hkw)
   obtain ⟨bp, op, rfl, hcp⟩ := (HP.out.keeps0 hkw).cell rfl (by omega)
   obtain ⟨p, hpk⟩ : ∃ p, ps[k]? = some p := ⟨_, List.getElem?_eq_getElem hlt⟩
   have hpb := HB.out p (List.mem_of_getElem? hpk)
   obtain ⟨p, rfl⟩ := Int.eq_ofNat_of_zero_le hpb.1
   obtain ⟨bv, ov, rfl, hcv⟩ := (HV.out.keeps0 hkw).cell rfl (by have := HL.out; omega)
   have hc1 := hcp k _ hpk
   have hc2 := hcv p _ (getV_at (by have := HL.out; omega))
   have hin := hard_in (n := (n : Int)) (v := v) (ps := ps.take k) (by omega) (fun q hq => HB.out q (List.mem_of_mem_take hq))
   have HS := Lib.hid (show hardI (n : Int) v (ps.take (k + 1)) = if hardI (n : Int) v (ps.take k) = n ∨ getV v (hardI (n : Int) v (ps.take k)) < getV v (p : Int) then (p : Int) else hardI (n : Int) v (ps.take k) by rw [take_getS hpk, hardI_snoc])
   generalize hardI (n : Int) v (ps.take k) = b at hin HS ⊢
   obtain ⟨b, rfl⟩ := Int.eq_ofNat_of_zero_le hin.1
   have hc3 := hcv b _ (getV_at (by have := HL.out; omega))
   obtain ⟨d0, _, _, _, _, _, d6⟩ := HR.out
   have hxr := HR.out.lt
   have hpi : (p : Int) < (v.length : Int) := by have := HL.out; omega
   have hbi : (b : Int) < (v.length : Int) := by have := HL.out; omega
   clear hcp hcv hpk hpb hkw
   by_cases hbn : b = n
   ·subst hbn
    have HN := Lib.hid (show hardI (b : Int) v (ps.take (k + 1)) = p by rw [HS.out, if_pos (.inl rfl)])
    have KD : ∀ nd, Keeps (fun _ => False) w (wr.drewN nd) := fun nd => HW.out.drewN nd
    have KD := Lib.hid KD
    clear HS hin
    go_wp2_with fail
    go_quiet (fail)
    go_wp2_with fail
    go_roundw
    case rel => exact ⟨k + 1, by go_num, by omega, by rw [HN.out], KD.out _⟩
    case measure => simp [intOf]; omega
   ·have h1 : ((b : Int) == (n : Int)) = false := by simp; omega
    have h2 : decide ((b : Int) = (n : Int)) = false := by simp; omega
    have KD := Lib.hid (fun nd => HW.out.drewN nd)
    by_cases hlt2 : getV v (b : Int) < getV v (p : Int)
    ·have HN := Lib.hid (show hardI (n : Int) v (ps.take (k + 1)) = p by rw [HS.out, if_pos (.inr hlt2)])
     have h3 : decide (getV v (b : Int) < getV v (p : Int)) = true := by simpa using hlt2
     clear HS hin hlt2 hbn
     generalize getV v (b : Int) = y1 at hc3 h3
     generalize getV v (p : Int) = y2 at hc2 h3
     go_wp2_with fail
     go_quiet (fail)
     go_wp2_with fail
     go_roundw
     case rel => exact ⟨k + 1, by go_num, by omega, by rw [HN.out], KD.out _⟩
     case measure => simp [intOf]; omega
    ·have HN := Lib.hid (show hardI (n : Int) v (ps.take (k + 1)) = b by rw [HS.out, if_neg (by rintro (h | h); omega; exact hlt2 h)])
     have h3 : decide (getV v (b : Int) < getV v (p : Int)) = false := by simpa using hlt2
     clear HS hin hlt2 hbn
     generalize getV v (b : Int) = y1 at hc3 h3
     generalize getV v (p : Int) = y2 at hc2 h3
     go_wp2_with fail
     go_quiet (fail)
     go_wp2_with fail
     go_roundw
     case rel => exact ⟨k + 1, by go_num, by omega, by rw [HN.out], KD.out _⟩
     case measure => simp [intOf]; omega
  ·have hr := Lib.hid (show hardI (n : Int) v ps = hardI (n : Int) v (ps.take k) by rw [List.take_of_length_le (by omega)])
   go_wp2_with fail
   go_ret
   exact ⟨congrArg (fun x => Ending.returned (Value.int .i64 x)) hr.out.symm, hkw⟩

end Go.Proofs.YtdokakhgflljgaaGreat
