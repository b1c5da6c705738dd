/- strips.Meets: slices.ContainsFunc with a closure over slices.BinarySearch. Tasks in memory; strips.operator, strips.Validate. The rows' frame: arguments of type api.Task and []int, read. Words of facts: space.Word, space.Facts, the reference's Word. strips.Validate. The reference's TaskFault. The reference's Word, Subset, StateOk, Applies. space.Of: the words of a task. No condition beyond what each theorem says. -/
import Derived.Test.YtdokakhgflljgaaGreatM1
import Derived.Test.YtdokakhgflljgaaGreatShelf
import Derived.Test.YtdokakhgflljgaaGreatRows
import Derived.ProofKit
import Derived.Deep.SlicePairs
import Derived.Lib.SmallJoins

namespace Go.Proofs.YtdokakhgflljgaaGreat
open Go.RowKit

theorem bsearch_any (w : World) (v : Value) (l : List Int) (x : Int) (h : Ints w v l) (hs : l.Pairwise (· < ·)) (hlen : l.length < 4611686018427387904) :
  Calls Tryz.prog 124 #[v, .int .i64 x] w fun e w' => ∃ k : Int, e = .returned (.tuple #[.int .i64 k, .bool (decide (x ∈ l))]) ∧ ∃ q, w' = w.drewN q := by
 obtain ⟨ao, ca, hv, ma⟩ := h.form
 have CA := h.cell hv
 subst hv
 by_cases hl : 0 < l.length
 ·obtain ⟨b, off, rfl, hc⟩ := CA hl
  refine (Tryz.slices_BinarySearch_int b off l.length ca l x w (Nat.le_refl _) hlen (fun j hj => ?_) (by rw [List.take_length]; exact hs.imp (fun h => by omega))).mono ?_
  ·obtain ⟨y, hy⟩ : ∃ y, l[j]? = some y := ⟨_, List.getElem?_eq_getElem hj⟩
   rw [hc j y hy, List.getD_eq_getElem?_getD, hy]; rfl
  ·rintro e w' ⟨rfl, hw⟩
   have : (l.take l.length).contains x = decide (x ∈ l) := by
    rw [List.take_length]
    cases hd : decide (x ∈ l) with
    | true => simpa using hd
    | false => simpa using hd
   rw [this]
   exact ⟨_, rfl, hw⟩
 ·obtain rfl : l = [] := List.length_eq_zero_iff.1 (by omega)
  refine (Tryz.slices_BinarySearch_int_empty ao ca x w).mono ?_
  rintro e w' ⟨rfl, rfl⟩
  exact ⟨0, by simp, 0, rfl⟩

theorem meets1_any (w : World) (a : Nat) (v : Value) (l : List Int) (x : Int) (h : Ints w v l) (hs : l.Pairwise (· < ·)) (hlen : l.length < 4611686018427387904) (hb : w.cell? ⟨a, 0, none⟩ = some v) :
  Calls Tryz.prog 123 #[.int .i64 x, .pointer (some ⟨a, 0, none⟩)] w fun e w' => e = .returned (.bool (decide (x ∈ l))) ∧ ∃ q, w' = w.drewN q := by
 obtain ⟨ao, ca, hv, ma⟩ := h.form
 have HI := Lib.hid h
 have HS := Lib.hid hs
 subst hv
 clear h hs
 generalize hm : decide (x ∈ l) = r
 have HM := Lib.hid hm
 clear hm
 go_enter Tryz.func123, Tryz.ntmps123
 go_wp2_with fail
 refine (bsearch_any _ _ _ _ HI.out HS.out hlen).mono ?_; rintro e w1 ⟨k, rfl, q, rfl⟩
 rw [HM.out]
 go_wp2_with fail
 go_ret
 exact ⟨rfl, q, rfl⟩

/-- The place of the first element of a in b, or -1. -/
theorem indexFunc_any (w : World) (va vb : Value) (a b : List Int) (bx : Nat) (ha : Ints w va a) (hb : Ints w vb b) (hs : b.Pairwise (· < ·)) (hlen : b.length < 4611686018427387904) (hbx : w.cell? ⟨bx, 0, none⟩ = some vb) :
  Calls Tryz.prog 119 #[va, .func (.func 123) #[] #[.pointer (some ⟨bx, 0, none⟩)]] w fun e w' => ∃ k : Int, e = .returned (.int .i64 k) ∧ (decide (0 ≤ k) = !disjB a b) ∧ Keeps (fun _ => False) w w' := by
 obtain ⟨ao, ca, hv, ma⟩ := ha.form
 have CA := Lib.hid (ha.cell hv)
 have HB := Lib.hid hb; have HS := Lib.hid hs; have HX := Lib.hid hbx
 subst hv
 clear ha hb hs hbx
 go_enter Tryz.func119, Tryz.ntmps119
 go_wp2_with fail
 go_loopw [8] (fun i wr => ∃ k : Nat, k ≤ a.length ∧ i = .int .i64 (k : Int) ∧ disjB (a.take k) b = true ∧ Keeps (fun _ => False) w wr) (fun i _ => a.length - (intOf i).toNat)
 case atStart => exact ⟨0, Nat.zero_le _, rfl, rfl, Keeps.refl _ _⟩
 case round =>
  obtain ⟨k, hk, rfl, ht, hkw⟩ := hrel
  have HT := Lib.hid ht; clear ht
  have KW := Lib.hid hkw; clear hkw
  by_cases hlt : k < a.length
  ·obtain ⟨ba, oa, rfl, ha'⟩ := CA.out (by omega)
   obtain ⟨x, hx⟩ : ∃ x, a[k]? = some x := ⟨_, List.getElem?_eq_getElem hlt⟩
   have ha1 := KW.out.cell (ha' k _ hx) (fun h => h)
   have HXX := Lib.hid hx
   have e2 := take_getS hx
   clear ha' hx
   by_cases hm : x ∈ b
   ·have hf : Hid (disjB a b = false) := by
     unfold Hid disjB
     rw [List.all_eq_false]
     exact ⟨x, List.mem_of_getElem? HXX.out, by simp [hm]⟩
    have HD := Lib.hid (decide_eq_true hm)
    clear hm e2
    go_wp2_with fail
    refine (meets1_any _ bx _ _ _ (HB.out.keeps0 KW.out) HS.out hlen (KW.out.cell HX.out (fun h => h))).mono ?_; rintro e w1 ⟨rfl, q, rfl⟩
    rw [HD.out]
    go_wp2_with fail
    go_ret
    exact ⟨_, rfl, by rw [hf.out]; simp, KW.out.drewN q⟩
   ·have HN : Hid (disjB (a.take (k + 1)) b = true) := by
     unfold Hid
     rw [e2]
     have := HT.out
     unfold disjB at this ⊢
     rw [List.all_append, this]
     simp [hm]
    have HD := Lib.hid (decide_eq_false hm)
    clear hm e2
    go_wp2_with fail
    refine (meets1_any _ bx _ _ _ (HB.out.keeps0 KW.out) HS.out hlen (KW.out.cell HX.out (fun h => h))).mono ?_; rintro e w1 ⟨rfl, q, rfl⟩
    rw [HD.out]
    go_wp2_with fail
    go_roundw
    case rel => exact ⟨k + 1, by omega, by go_num, HN.out, KW.out.drewN q⟩
    case measure => simp [intOf]; omega
  ·have hf : Hid (disjB a b = true) := by
    unfold Hid
    have := HT.out
    rwa [List.take_of_length_le (by omega)] at this
   go_wp2_with fail
   go_ret
   exact ⟨_, rfl, by rw [hf.out]; rfl, KW.out⟩

theorem containsFunc_any (w : World) (va vb : Value) (a b : List Int) (bx : Nat) (ha : Ints w va a) (hb : Ints w vb b) (hs : b.Pairwise (· < ·)) (hlen : b.length < 4611686018427387904) (hbx : w.cell? ⟨bx, 0, none⟩ = some vb) :
  Calls Tryz.prog 97 #[va, .func (.func 123) #[] #[.pointer (some ⟨bx, 0, none⟩)]] w fun e w' => e = .returned (.bool (!disjB a b)) ∧ Keeps (fun _ => False) w w' := by
 have H := Lib.hid (indexFunc_any w va vb a b bx ha hb hs hlen hbx)
 clear ha hb hs hbx
 generalize (!disjB a b) = r at H ⊢
 go_enter Tryz.func97, Tryz.ntmps97
 go_wp2_with fail
 refine H.out.mono ?_; rintro e w1 ⟨k, rfl, hk, hkw⟩
 have KW := Lib.hid hkw
 have HK := Lib.hid hk
 clear hkw hk
 go_wp2_with fail
 go_ret
 exact ⟨congrArg (fun b => Ending.returned (Value.bool b)) HK.out, KW.out⟩

theorem meets_any (w : World) (va vb : Value) (a b : List Int) (ha : Ints w va a) (hb : Ints w vb b) (hs : b.Pairwise (· < ·)) (hlen : b.length < 4611686018427387904) :
  Calls Tryz.prog 103 #[va, vb] w fun e w' => e = .returned (.bool (!disjB a b)) ∧ Keeps (fun _ => False) w w' := by
 have HA := Lib.hid ha; have HB := Lib.hid hb; have HS := Lib.hid hs
 obtain ⟨ao, ca, hva, ma⟩ := ha.form
 obtain ⟨bo, cb, hvb, mb⟩ := hb.form
 subst hva hvb
 clear ha hb hs
 generalize hr : (!disjB a b) = r
 have HR := Lib.hid hr
 clear hr
 go_enter Tryz.func103, Tryz.ntmps103
 go_wp2_with fail
 have K1 := (Keeps.refl (fun _ => False) w).alloc (.cells #[.slice bo b.length cb] 22)
 refine (containsFunc_any _ _ _ a b w.heap.size (HA.out.keeps0 K1) (HB.out.keeps0 K1) HS.out hlen ((cell_of_blk (heap_alloc_new w _)).trans rfl)).mono ?_; rintro e w1 ⟨rfl, hk⟩
 rw [HR.out]
 have KW := Lib.hid (K1.trans hk)
 clear hk K1
 go_wp2_with fail
 go_ret
 exact ⟨rfl, KW.out⟩

end Go.Proofs.YtdokakhgflljgaaGreat

namespace Go.Proofs.YtdokakhgflljgaaGreat
open Go.RowKit

/-- A slice of operators. -/
def OpsAt (w : World) (v : Value) (ops : List Opr) : Prop :=
 ∃ ao cap, v = .slice ao ops.length cap ∧ ops.length ≤ maxLen ∧ (0 < ops.length → ∃ b off, ao = some ⟨b, off, none⟩ ∧ ∀ i o, ops[i]? = some o →
  ∃ va vb vc, w.cell? ⟨b, off + i * 4, none⟩ = some va ∧ w.cell? ⟨b, off + i * 4 + 1, none⟩ = some vb ∧ w.cell? ⟨b, off + i * 4 + 2, none⟩ = some vc ∧ w.cell? ⟨b, off + i * 4 + 3, none⟩ = some (.int .i64 o.cost) ∧
   Ints w va o.pre ∧ Ints w vb o.add ∧ Ints w vc o.del)

theorem OpsAt.keeps0 {w w' : World} {v : Value} {ops : List Opr} (h : OpsAt w v ops) (hk : Keeps (fun _ => False) w w') : OpsAt w' v ops := by
 obtain ⟨ao, cap, hv, hm, hc⟩ := h
 refine ⟨ao, cap, hv, hm, fun h0 => ?_⟩
 obtain ⟨b, off, ha, hx⟩ := hc h0
 refine ⟨b, off, ha, fun i o ho => ?_⟩
 obtain ⟨va, vb, vc, h1, h2, h3, h4, h5, h6, h7⟩ := hx i o ho
 exact ⟨va, vb, vc, hk.cell h1 (fun h => h), hk.cell h2 (fun h => h), hk.cell h3 (fun h => h), hk.cell h4 (fun h => h), h5.keeps0 hk, h6.keeps0 hk, h7.keeps0 hk⟩

theorem OpsAt.form {w : World} {v : Value} {ops : List Opr} (h : OpsAt w v ops) : ∃ ao cap, v = .slice ao ops.length cap ∧ ops.length ≤ 9223372036854775807 := by
 obtain ⟨ao, cap, hv, hm, _⟩ := h
 unfold maxLen at hm
 exact ⟨ao, cap, hv, by omega⟩

theorem OpsAt.cell {w : World} {v : Value} {ops : List Opr} (h : OpsAt w v ops) {ao : Option Addr} {n cap : Nat} (hv : v = .slice ao n cap) (hn : 0 < ops.length) :
  ∃ b off, ao = some ⟨b, off, none⟩ ∧ ∀ i o, ops[i]? = some o →
  ∃ va vb vc, w.cell? ⟨b, off + i * 4, none⟩ = some va ∧ w.cell? ⟨b, off + i * 4 + 1, none⟩ = some vb ∧ w.cell? ⟨b, off + i * 4 + 2, none⟩ = some vc ∧ w.cell? ⟨b, off + i * 4 + 3, none⟩ = some (.int .i64 o.cost) ∧
   Ints w va o.pre ∧ Ints w vb o.add ∧ Ints w vc o.del := by
 obtain ⟨ao', cap', hv', hm, hc⟩ := h
 rw [hv'] at hv
 simp only [Value.slice.injEq] at hv
 obtain ⟨rfl, _, _⟩ := hv
 exact hc hn

/-- The four values of a task. -/
structure TaskAt (w : World) (vi vg vo : Value) (t : Tsk) : Prop where
 init : Ints w vi t.init
 goal : Ints w vg t.goal
 ops : OpsAt w vo t.ops

theorem TaskAt.keeps0 {w w' : World} {vi vg vo : Value} {t : Tsk} (h : TaskAt w vi vg vo t) (hk : Keeps (fun _ => False) w w') : TaskAt w' vi vg vo t := ⟨h.init.keeps0 hk, h.goal.keeps0 hk, h.ops.keeps0 hk⟩

/-- A block of four cells. -/
structure Four (w : World) (b : Nat) (x0 x1 x2 x3 : Value) : Prop where
 c0 : w.cell? ⟨b, 0, none⟩ = some x0
 c1 : w.cell? ⟨b, 1, none⟩ = some x1
 c2 : w.cell? ⟨b, 2, none⟩ = some x2
 c3 : w.cell? ⟨b, 3, none⟩ = some x3
theorem Four.keeps0 {w w' : World} {b : Nat} {x0 x1 x2 x3 : Value} (h : Four w b x0 x1 x2 x3) (hk : Keeps (fun _ => False) w w') : Four w' b x0 x1 x2 x3 :=
 ⟨hk.cell h.c0 (fun h => h), hk.cell h.c1 (fun h => h), hk.cell h.c2 (fun h => h), hk.cell h.c3 (fun h => h)⟩
theorem Four.new (w : World) (x0 x1 x2 x3 : Value) (T : TypeId) : Four (w.alloc (.cells #[x0, x1, x2, x3] T)) w.heap.size x0 x1 x2 x3 := by
 have h := heap_alloc_new w (.cells #[x0, x1, x2, x3] T)
 exact ⟨by rw [cell_of_blk h]; rfl, by rw [cell_of_blk h]; rfl, by rw [cell_of_blk h]; rfl, by rw [cell_of_blk h]; rfl⟩
theorem Four.lt {w : World} {b : Nat} {x0 x1 x2 x3 : Value} (h : Four w b x0 x1 x2 x3) : b < w.heap.size := by
 have := World.block_lt_of_cell? w _ h.c0; simpa using this

theorem setFrom_length {n : Int} {l : List Int} : ∀ {lo : Int}, setFrom n lo l = true → l = [] ∨ lo + l.length ≤ n := by
 induction l with
 | nil => intro lo _; exact .inl rfl
 | cons x r ih =>
  intro lo h
  simp only [setFrom, Bool.and_eq_true, decide_eq_true_eq] at h
  right
  rcases ih h.2 with rfl | h'
  ·simp; omega
  ·simp only [List.length_cons]; omega
theorem isSet_length {n : Int} {l : List Int} (h : isSetB l n = true) (hn : n ≤ 1000) : l.length ≤ 1000 := by
 rcases setFrom_length h with rfl | h
 ·simp
 ·omega

theorem sIsSet_val {w : World} {v : Value} {l : List Int} {n : Int} {b : Bool} (h : Ints w v l) (hb : isSetB l n = b) :
  Calls Tryz.prog 82 #[v, .int .i64 n] w fun e w' => e = .returned (.bool b) ∧ w = w' := by rw [← hb]; exact sIsSet_any w v l n h

theorem operator_any (w : World) (va vb vc : Value) (o : Opr) (n : Int) (ha : Ints w va o.pre) (hb : Ints w vb o.add) (hc : Ints w vc o.del) (hn : n ≤ 1000) :
  Calls Tryz.prog 83 #[.agg #[va, vb, vc, .int .i64 o.cost], .int .i64 n] w fun e w' => e = .returned (.int .i64 (opCode o n)) ∧ Keeps (fun _ => False) w w' := by
 have HA := Lib.hid (ha.keeps0 ((Keeps.refl _ w).alloc (.cells #[va, vb, vc, .int .i64 o.cost] 80)))
 have HB := Lib.hid (hb.keeps0 ((Keeps.refl _ w).alloc (.cells #[va, vb, vc, .int .i64 o.cost] 80)))
 have HC := Lib.hid (hc.keeps0 ((Keeps.refl _ w).alloc (.cells #[va, vb, vc, .int .i64 o.cost] 80)))
 have K0 := Lib.hid ((Keeps.refl (fun _ => False) w).alloc (.cells #[va, vb, vc, .int .i64 o.cost] 80))
 obtain ⟨ao1, ca1, h1, _⟩ := ha.form
 obtain ⟨ao2, ca2, h2, _⟩ := hb.form
 obtain ⟨ao3, ca3, h3, _⟩ := hc.form
 subst h1 h2 h3
 clear ha hb hc
 cases b1 : isSetB o.pre n with
 | false =>
  have hr : Hid (opCode o n = 5) := by unfold Hid opCode; simp [b1]
  have B1 := Lib.hid b1; clear b1
  go_enter Tryz.func83, Tryz.ntmps83
  go_wp2_with fail
  refine (sIsSet_val HA.out B1.out).mono ?_; rintro e w1 ⟨rfl, rfl⟩
  go_wp2_with fail
  go_ret
  exact ⟨congrArg (fun u : Int => Ending.returned (Value.int .i64 u)) hr.out.symm, K0.out⟩
 | true =>
  cases b2 : isSetB o.add n with
  | false =>
   have hr : Hid (opCode o n = 5) := by unfold Hid opCode; simp [b2]
   have B1 := Lib.hid b1; have B2 := Lib.hid b2; clear b1 b2
   go_enter Tryz.func83, Tryz.ntmps83
   go_wp2_with fail
   refine (sIsSet_val HA.out B1.out).mono ?_; rintro e w1 ⟨rfl, rfl⟩
   go_wp2_with fail
   refine (sIsSet_val HB.out B2.out).mono ?_; rintro e w1 ⟨rfl, rfl⟩
   go_wp2_with fail
   go_ret
   exact ⟨congrArg (fun u : Int => Ending.returned (Value.int .i64 u)) hr.out.symm, K0.out⟩
  | true =>
   cases b3 : isSetB o.del n with
   | false =>
    have hr : Hid (opCode o n = 5) := by unfold Hid opCode; simp [b3]
    have B1 := Lib.hid b1; have B2 := Lib.hid b2; have B3 := Lib.hid b3; clear b1 b2 b3
    go_enter Tryz.func83, Tryz.ntmps83
    go_wp2_with fail
    refine (sIsSet_val HA.out B1.out).mono ?_; rintro e w1 ⟨rfl, rfl⟩
    go_wp2_with fail
    refine (sIsSet_val HB.out B2.out).mono ?_; rintro e w1 ⟨rfl, rfl⟩
    go_wp2_with fail
    refine (sIsSet_val HC.out B3.out).mono ?_; rintro e w1 ⟨rfl, rfl⟩
    go_wp2_with fail
    go_ret
    exact ⟨congrArg (fun u : Int => Ending.returned (Value.int .i64 u)) hr.out.symm, K0.out⟩
   | true =>
    have hl := isSet_length b3 hn
    have HM := Lib.hid (meets_any _ _ _ _ _ HB.out HC.out (isSet_iff.1 b3).2 (by omega))
    cases b4 : disjB o.add o.del with
    | false =>
     have hr : Hid (opCode o n = 5) := by unfold Hid opCode; simp [b4]
     have B1 := Lib.hid b1; have B2 := Lib.hid b2; have B3 := Lib.hid b3; have B4 := Lib.hid b4; clear b1 b2 b3 b4
     go_enter Tryz.func83, Tryz.ntmps83
     go_wp2_with fail
     refine (sIsSet_val HA.out B1.out).mono ?_; rintro e w1 ⟨rfl, rfl⟩
     go_wp2_with fail
     refine (sIsSet_val HB.out B2.out).mono ?_; rintro e w1 ⟨rfl, rfl⟩
     go_wp2_with fail
     refine (sIsSet_val HC.out B3.out).mono ?_; rintro e w1 ⟨rfl, rfl⟩
     go_wp2_with fail
     refine HM.out.mono ?_; rintro e w1 ⟨rfl, hk⟩
     rw [B4.out]
     have KF := Lib.hid (K0.out.trans hk)
     clear hk
     go_wp2_with fail
     go_ret
     exact ⟨congrArg (fun u : Int => Ending.returned (Value.int .i64 u)) hr.out.symm, KF.out⟩
    | true =>
     have HO : Hid (opCode o n = if 0 ≤ o.cost ∧ o.cost ≤ 100 then 0 else 3) := by unfold Hid opCode; simp [b1, b2, b3, b4]
     have B1 := Lib.hid b1; have B2 := Lib.hid b2; have B3 := Lib.hid b3; have B4 := Lib.hid b4; clear b1 b2 b3 b4
     have HF := Lib.hid (Four.new w (.slice ao1 o.pre.length ca1) (.slice ao2 o.add.length ca2) (.slice ao3 o.del.length ca3) (.int .i64 o.cost) 80)
     go_enter Tryz.func83, Tryz.ntmps83
     go_wp2_with fail
     refine (sIsSet_val HA.out B1.out).mono ?_; rintro e w1 ⟨rfl, rfl⟩
     go_wp2_with fail
     refine (sIsSet_val HB.out B2.out).mono ?_; rintro e w1 ⟨rfl, rfl⟩
     go_wp2_with fail
     refine (sIsSet_val HC.out B3.out).mono ?_; rintro e w1 ⟨rfl, rfl⟩
     go_wp2_with fail
     refine HM.out.mono ?_; rintro e w1 ⟨rfl, hk⟩
     rw [B4.out]
     have KF := Lib.hid (K0.out.trans hk)
     have c3 := (HF.out.keeps0 hk).c3
     have l3 := (HF.out.keeps0 hk).lt
     clear hk
     by_cases h0 : o.cost < 0
     ·have hr : Hid (opCode o n = 3) := by unfold Hid; rw [HO.out, if_neg (by omega)]
      go_wp2_with fail
      go_ret
      exact ⟨congrArg (fun u : Int => Ending.returned (Value.int .i64 u)) hr.out.symm, KF.out⟩
     ·have h0' : 0 ≤ o.cost := by omega
      clear h0
      by_cases h1 : 100 < o.cost
      ·have hr : Hid (opCode o n = 3) := by unfold Hid; rw [HO.out, if_neg (by omega)]
       go_wp2_with fail
       go_ret
       exact ⟨congrArg (fun u : Int => Ending.returned (Value.int .i64 u)) hr.out.symm, KF.out⟩
      ·have h1' : o.cost ≤ 100 := by omega
       clear h1
       have hr : Hid (opCode o n = 0) := by unfold Hid; rw [HO.out, if_pos ⟨h0', h1'⟩]
       go_wp2_with fail
       go_ret
       exact ⟨congrArg (fun u : Int => Ending.returned (Value.int .i64 u)) hr.out.symm, KF.out⟩

end Go.Proofs.YtdokakhgflljgaaGreat

namespace Go.Proofs.YtdokakhgflljgaaGreat
open Go.ChangeShapes Go.WideShapes Go.ChangeAt Go.RowKit Go.Deep

theorem cells_int : Tryz.prog.cellsOf 3 = 1 := by kernel_rfl
theorem cells_operator : Tryz.prog.cellsOf 80 = 4 := by kernel_rfl
theorem cells_task : Tryz.prog.cellsOf 25 = 4 := by kernel_rfl
theorem cells_ints : Tryz.prog.cellsOf 22 = 1 := by kernel_rfl

theorem ints_of_trod {H : Type} {enc : TypeId × Value → H} {W : World} {v : Value} {fuel : Nat} {x : DataW H × List MemPlace}
  (hf : DataW.trod enc Tryz.prog W 0 (fun _ => true) true fuel 22 [v] = some x) : ∃ l, Ints W v l := by
 rcases open_ints Tryz.underlying22 Tryz.underlying3 cells_int hf with ⟨hcs, hx⟩ | ⟨a, len, cap, zs, hcs, _, hl, hm, hz, hx, hcell, hwz⟩
 ·simp at hcs
  subst hcs
  exact ⟨[], none, 0, rfl, by simp, fun h => by simp at h⟩
 ·simp at hcs
  subst hcs
  simp only [if_true] at hz
  have hlt : (zs.take len).length = len := by simp; omega
  refine ⟨zs.take len, some a, cap, by rw [hlt], by rw [hlt]; omega, fun h => ?_⟩
  rw [hlt] at h
  obtain ⟨b, off, spot⟩ := a
  have hspot : spot = none := by simpa [Addr.add] using World.cell?_spot (hcell 0 (by omega))
  subst hspot
  refine ⟨b, off, rfl, fun j x hj => ?_⟩
  rw [List.getElem?_map, List.getElem?_take] at hj
  split at hj
  ·have := hcell j (by omega)
   rw [add_plain] at this
   rw [List.getD_eq_getElem?_getD] at this
   obtain ⟨y, hy⟩ : ∃ y, zs[j]? = some y := ⟨_, List.getElem?_eq_getElem (by omega)⟩
   rw [hy] at this hj
   simp at hj this
   subst hj
   exact this
  ·simp at hj

theorem operator_struct : ∃ f0 f1 f2 f3 : Field, Tryz.prog.underlying 80 = some (.struct #[f0, f1, f2, f3]) ∧ (f0.type = 22 ∧ f1.type = 22 ∧ f2.type = 22 ∧ f3.type = 3) ∧ f0.offset = 0 ∧ f1.offset = 1 ∧ f2.offset = 2 ∧ f3.offset = 3 :=
 ⟨_, _, _, _, Tryz.underlying80, ⟨rfl, rfl, rfl, rfl⟩, rfl, rfl, rfl, rfl⟩

set_option maxRecDepth 100000 in
theorem ops_of_trod {H : Type} {enc : TypeId × Value → H} {W : World} {v : Value} {fuel : Nat} {x : DataW H × List MemPlace}
  (hf : DataW.trod enc Tryz.prog W 0 (fun _ => true) true fuel 23 [v] = some x) : ∃ ops, OpsAt W v ops := by
 rcases open_slice Tryz.underlying23 hf with ⟨hcs, hx⟩ | ⟨a, len, cap, m, n, D, Pl, hcs, hb, hl, hm, hmm, hx, each⟩
 ·simp at hcs
  subst hcs
  exact ⟨[], none, 0, rfl, by simp, fun h => by simp at h⟩
 ·simp at hcs
  subst hcs
  simp only [if_true] at hmm
  obtain ⟨f0, f1, f2, f3, hs, ⟨t0, t1, t2, t3⟩, s0, s1, s2, s3⟩ := operator_struct
  have all : ∀ i, i < len → ∃ (o : Opr) (va vb vc : Value), W.cell? (a.add (i * 4)) = some va ∧ W.cell? (a.add (i * 4 + 1)) = some vb ∧ W.cell? (a.add (i * 4 + 2)) = some vc ∧ W.cell? (a.add (i * 4 + 3)) = some (.int .i64 o.cost) ∧ Ints W va o.pre ∧ Ints W vb o.add ∧ Ints W vc o.del := by
   intro i hi
   obtain ⟨cs', h1, h2⟩ := each i (by omega)
   rw [cells_operator] at h1
   obtain ⟨_, hlen, hcell⟩ := World.cells?_some h1
   obtain ⟨xs, k, hk, hxy, _, hxl, hff⟩ := DataW.trod_struct hs h2
   match xs, hxl, cs', hlen with
   | [y0, y1, y2, y3], _, [v0, v1, v2, v3], _ =>
    have g0 := hff 0 f0 rfl
    have g1 := hff 1 f1 rfl
    have g2 := hff 2 f2 rfl
    have g3 := hff 3 f3 rfl
    simp [t0, t1, t2, t3, s0, s1, s2, s3, cells_int, cells_ints] at g0 g1 g2 g3
    obtain ⟨l0, e0⟩ := ints_of_trod g0
    obtain ⟨l1, e1⟩ := ints_of_trod g1
    obtain ⟨l2, e2⟩ := ints_of_trod g2
    obtain ⟨x3, e3, _⟩ := DataW.trod_int Tryz.underlying3 g3
    simp at e3
    subst e3
    have c0 := hcell 0 (by omega)
    have c1 := hcell 1 (by omega)
    have c2 := hcell 2 (by omega)
    have c3 := hcell 3 (by omega)
    rw [add_add] at c0 c1 c2 c3
    exact ⟨⟨l0, l1, l2, x3⟩, v0, v1, v2, by simpa using c0, by simpa using c1, by simpa using c2, by simpa using c3, e0, e1, e2⟩
  have hops : ∀ n, n ≤ len → ∃ ops : List Opr, ops.length = n ∧ ∀ i o, ops[i]? = some o → ∃ va vb vc : Value, W.cell? (a.add (i * 4)) = some va ∧ W.cell? (a.add (i * 4 + 1)) = some vb ∧ W.cell? (a.add (i * 4 + 2)) = some vc ∧ W.cell? (a.add (i * 4 + 3)) = some (.int .i64 o.cost) ∧ Ints W va o.pre ∧ Ints W vb o.add ∧ Ints W vc o.del := by
   intro n
   induction n with
   | zero => intro _; exact ⟨[], rfl, by simp⟩
   | succ n ih =>
    intro hn
    obtain ⟨ops, h1, h2⟩ := ih (by omega)
    obtain ⟨o, ho⟩ := all n (by omega)
    refine ⟨ops ++ [o], by simp [h1], fun i o' hi => ?_⟩
    by_cases hin : i < ops.length
    ·rw [List.getElem?_append_left hin] at hi
     exact h2 i o' hi
    ·rw [List.getElem?_append_right (by omega)] at hi
     have hz : i - ops.length = 0 := by
      have := (List.getElem?_eq_some_iff.1 hi).1; simp at this; omega
     rw [hz] at hi
     simp at hi
     subst hi
     have : i = n := by omega
     subst this
     exact ho
  obtain ⟨ops, hlen, hcells⟩ := hops len (Nat.le_refl _)
  refine ⟨ops, some a, cap, by rw [hlen], by rw [hlen]; omega, fun h => ?_⟩
  obtain ⟨o, va, vb, vc, ho, _⟩ := all 0 (by omega)
  obtain ⟨b, off, spot⟩ := a
  have hspot : spot = none := by simpa [Addr.add] using World.cell?_spot ho
  subst hspot
  refine ⟨b, off, rfl, fun i o' hi => ?_⟩
  obtain ⟨va, vb, vc, g0, g1, g2, g3, g4⟩ := hcells i o' hi
  rw [add_plain] at g0 g1 g2 g3
  exact ⟨va, vb, vc, g0, g1, g2, g3, g4⟩

set_option maxRecDepth 100000 in
theorem task_struct : ∃ f0 f1 f2 f3 : Field, Tryz.prog.underlying 25 = some (.struct #[f0, f1, f2, f3]) ∧ (f0.type = 3 ∧ f1.type = 22 ∧ f2.type = 22 ∧ f3.type = 23) ∧ oneCellFields Tryz.prog #[f0, f1, f2, f3] = true :=
 ⟨_, _, _, _, Tryz.underlying25, ⟨rfl, rfl, rfl, rfl⟩, by kernel_rfl⟩

set_option maxRecDepth 100000 in
theorem opened_task {H : Type} {enc : TypeId × Value → H} {W : World} {v : Value} {d0 : DataW H} {p : List MemPlace} {r : Go.Reach} {b0 : Nat}
  (h0 : DataW.Trod enc Tryz.prog W 0 (fun _ => true) true 25 v d0 p) (hv : Value.okWide Tryz.prog W r b0 25 v) : ∃ (t : Tsk) (vi vg vo : Value), v = .agg #[.int .i64 t.n, vi, vg, vo] ∧ TaskAt W vi vg vo t := by
 obtain ⟨f0, f1, f2, f3, hs, ⟨t0, t1, t2, t3⟩, hone⟩ := task_struct
 obtain ⟨v0, v1, v2, v3, y0, y1, y2, y3, n, rfl, _, _, h1, h2, h3, h4⟩ := Joins.open_agg4 hs hone cells_task hv h0
 rw [t0] at h1; rw [t1] at h2; rw [t2] at h3; rw [t3] at h4
 obtain ⟨x0, e0, _⟩ := DataW.trod_int Tryz.underlying3 h1
 simp at e0
 subst e0
 obtain ⟨l1, k1⟩ := ints_of_trod h2
 obtain ⟨l2, k2⟩ := ints_of_trod h3
 obtain ⟨ops, k3⟩ := ops_of_trod h4
 exact ⟨⟨x0, l1, l2, ops⟩, v1, v2, v3, rfl, k1, k2, k3⟩

theorem godebug_own : ownKnob Tryz.prog.godebug = none := by kernel_rfl
theorem laidOut : laidOutB Tryz.prog = true := by kernel_rfl

end Go.Proofs.YtdokakhgflljgaaGreat

namespace Go.Proofs.YtdokakhgflljgaaGreat
open Go.RowKit

theorem u32_bits {a b : Nat} (ha : a < 4294967296) (hb : b < 4294967296) : bits .and .u32 (a : Int) (b : Int) = ((a &&& b : Nat) : Int) ∧ bits .or .u32 (a : Int) (b : Int) = ((a ||| b : Nat) : Int) :=
 bits_nat .u32 32 (by decide) (fun n h0 h1 => by rw [IntKind.wrap_u32]; omega) a b (by omega) (by omega)

theorem wd_lt32 {l : List Int} {n : Int} (hn : n ≤ 32) (h : isSetB l n = true) : wd l < 4294967296 :=
 wd_lt (n := 32) (fun x hx => by have := (isSet_iff.1 h).1 x hx; omega)

theorem pow_cast {p : Nat} (hp : p < 32) : (2 : Int) ^ p % 4294967296 = ((2 ^ p : Nat) : Int) := by
 have h : (2 : Nat) ^ p < 2 ^ 32 := Nat.pow_lt_pow_right (by decide) hp
 have e : ((2 : Int) ^ p) = ((2 ^ p : Nat) : Int) := by simp
 rw [e]
 have h' : (2 : Nat) ^ p < 4294967296 := h
 generalize (2 : Nat) ^ p = q at h' ⊢
 omega

theorem or_pow {u p : Nat} (hu : u < 4294967296) (hp : p < 32) : bits .or .u32 (u : Int) (2 ^ p % 4294967296) = ((u ||| 2 ^ p : Nat) : Int) := by
 rw [pow_cast hp]
 exact (u32_bits hu (by have := Nat.pow_lt_pow_right (a := 2) (by decide) hp; omega)).2

theorem wd_append (a b : List Int) : wd (a ++ b) = wd b ||| wd a := by
 induction a with
 | nil => simp [wd]
 | cons x r ih => rw [List.cons_append, wd, ih, wd, Nat.or_assoc]

theorem wd_take_lt {l : List Int} (h : ∀ x ∈ l, 0 ≤ x ∧ x < 32) (k : Nat) : wd (l.take k) < 4294967296 :=
 wd_lt (n := 32) (fun x hx => h x (List.mem_of_mem_take hx))

set_option maxHeartbeats 1000000 in
theorem word_any (w : World) (v : Value) (l : List Int) (h : Ints w v l) (hl : ∀ x ∈ l, 0 ≤ x ∧ x < 32) :
  Calls Tryz.prog 84 #[v] w fun e w' => e = .returned (.int .u32 (wd l : Nat)) ∧ w = w' := by
 obtain ⟨ao, ca, hv, ma⟩ := h.form
 have CA := Lib.hid (h.cell hv)
 have HL := Lib.hid hl
 subst hv
 clear h hl
 go_enter Tryz.func84, Tryz.ntmps84
 go_wp2_with fail
 go_loop [3, 8] (fun u i => ∃ k : Nat, k ≤ l.length ∧ i = .int .i64 (k : Int) ∧ u = .int .u32 (wd (l.take k) : Nat)) (fun _ i => l.length - (intOf i).toNat)
 case atStart => exact ⟨0, Nat.zero_le _, rfl, rfl⟩
 case round =>
  obtain ⟨k, hk, rfl, rfl⟩ := hrel
  by_cases hlt : k < l.length
  ·obtain ⟨ba, oa, rfl, ha'⟩ := CA.out (by omega)
   obtain ⟨x, hx⟩ : ∃ x, l[k]? = some x := ⟨_, List.getElem?_eq_getElem hlt⟩
   have ha1 := ha' k _ hx
   have hb := HL.out x (List.mem_of_getElem? hx)
   have e2 : wd (l.take (k + 1)) = wd (l.take k) ||| 2 ^ x.toNat := by
    rw [take_getS hx, wd_append, Nat.or_comm]; simp [wd]
   have e3 := or_pow (wd_take_lt HL.out k) (by omega : x.toNat < 32)
   rw [← e2] at e3
   have HE := Lib.hid e3
   have hb0 := hb.1
   clear ha' hx e2 e3
   go_wp2_with fail
   go_round
   case rel => exact ⟨k + 1, by omega, by go_num, by rw [HE.out]⟩
   case measure => simp [intOf]; omega
  ·have hf : Hid (wd (l.take k) = wd l) := by unfold Hid; rw [List.take_of_length_le (by omega)]
   go_wp2_with fail
   go_ret
   exact ⟨congrArg (fun u : Nat => Ending.returned (Value.int .u32 (u : Int))) hf.out, rfl⟩

/-! ### Facts -/
theorem and_one {x k : Nat} : bits .and .u32 ((x : Int) / 2 ^ k) 1 = if x.testBit k then 1 else 0 := by
 have e : ((x : Int) / 2 ^ k) = ((x / 2 ^ k : Nat) : Int) := by simp
 rw [e]
 generalize hy : x / 2 ^ k = y
 have ht : x.testBit k = decide (y % 2 = 1) := by rw [Nat.testBit_eq_decide_div_mod_eq, hy]
 rw [ht]
 have e1 : bits .and .u32 (y : Int) 1 = ((y % 2 : Nat) : Int) := by
  have hm : (y % 4294967296) % 2 = y % 2 := by omega
  have hB : ∀ (a b : BitVec 32), a.toNat = y % 4294967296 → b.toNat = 1 → IntKind.u32.wrap ((a &&& b).toNat : Int) = ((y % 2 : Nat) : Int) := by
   intro a b ha hb
   rw [BitVec.toNat_and, ha, hb, Nat.and_one_is_mod, hm, IntKind.wrap_u32]
   omega
  exact hB (BitVec.ofInt 32 (y : Int)) (BitVec.ofInt 32 1) (by rw [BitVec.ofInt_natCast, BitVec.toNat_ofNat]) (by decide)
 rw [e1]
 by_cases h : y % 2 = 1
 ·simp [h]
 ·have : y % 2 = 0 := by omega
  simp [this]

theorem own_grown {e : TypeId} {size n : Nat} {xs : List Value} {w2 wr Wa w4 : World} {v : Value} (h : wr.ownsRow w2.heap.size e size v n xs) (hk : Keeps (fun _ => False) w2 wr) (hWa : Keeps (fun _ => False) wr Wa) (hgrow : Wa.grownBy w4 v.ownBlock) : Keeps (fun _ => False) w2 w4 :=
 (hk.trans hWa).trans' ((Keeps.refl (fun k => v.ownBlock = some k) Wa).grown hgrow (fun _ hk => .inl hk)) (fun b hb => .inr (World.ownsRow.lt h b hb).1)

/-- The facts of a word below a bound. -/
def factsTo (x k : Nat) : List Int := ((List.range k).filter fun p => x.testBit p).map fun p : Nat => (p : Int)
theorem factsTo_succ (x k : Nat) : factsTo x (k + 1) = if x.testBit k then factsTo x k ++ [(k : Int)] else factsTo x k := by
 unfold factsTo
 rw [List.range_succ, List.filter_append, List.map_append]
 cases h : x.testBit k <;> simp [h]
theorem factsTo_le (x k : Nat) : (factsTo x k).length ≤ k := by
 unfold factsTo
 rw [List.length_map]
 have := List.length_filter_le (fun p => x.testBit p) (List.range k)
 simpa using this

set_option maxRecDepth 100000 in
theorem facts_any (w : World) (x : Nat) :
  Calls Tryz.prog 60 #[.int .u32 (x : Int)] w fun e w' => ∃ v, e = .returned v ∧ w'.ownsRow w.heap.size 3 1 v (facts x).length ((facts x).map (Value.int .i64)) ∧ Keeps (fun _ => False) w w' ∧ w.drawn ≤ w'.drawn := by
 obtain ⟨i0, hi0, hz0, hz1, hz2⟩ := info_parts Tryz.info3
 go_enter Tryz.func60, Tryz.ntmps60
 go_wp2_with fail
 go_loopw [3, 5] (fun v i wr => ∃ k : Nat, k ≤ 32 ∧ i = .int .i64 (k : Int) ∧ wr.ownsRow w.heap.size 3 1 v (factsTo x k).length ((factsTo x k).map (Value.int .i64)) ∧ Keeps (fun _ => False) w wr ∧ w.drawn ≤ wr.drawn) (fun _ i _ => 32 - (intOf i).toNat)
 case atStart => exact ⟨0, by omega, rfl, World.ownsRow_nil _ _ _ _, Keeps.refl _ _, Nat.le_refl _⟩
 case round =>
  obtain ⟨k, hk, rfl, hown, hkw, hd⟩ := hrel
  have HO := Lib.hid hown; clear hown
  have KW := Lib.hid hkw; clear hkw
  by_cases hlt : k < 32
  ·have hle := factsTo_le x k
   have hsz := KW.out.size
   by_cases ht : x.testBit k = true
   ·have hb : (bits .and .u32 ((x : Int) / 2 ^ k) 1 == 1) = true := by rw [and_one, if_pos ht]; rfl
    have HS : Hid (factsTo x (k + 1) = factsTo x k ++ [(k : Int)]) := by unfold Hid; rw [factsTo_succ, if_pos ht]
    clear ht
    obtain ⟨av, cv, hv⟩ := ownsRow_form1 HO.out
    subst hv
    go_wp2_with (at_builtin; refine wpList_append_d rfl _ _ _ rfl w.heap.size 3 i0 _ 1 8 Tryz.underlying22 hi0 hz0 hz1 hz2 rfl (by omega) _ (factsTo x k).length ((factsTo x k).map (Value.int .i64)) (by rfl) (World.ownsRow.alloc HO.out (.cells #[.int .i64 (k : Int)] 3)) ⟨wr.heap.size, 0, none⟩ 1 1 [.int .i64 (k : Int)] (by rfl) (by rfl) ?hnews ?hone (by omega) (by unfold maxLen; omega) (by omega) (by simp; omega) (wr.heap.size + 1) (by simp) ?_)
    case hnews => exact World.news_of_block (cs := #[.int .i64 (k : Int)]) (t := 3) (fr := (0, 0)) (heap_alloc_new _ _)
    case hone => simp [Value.oneCell']
    intro g cap2 w4 hown hgrow hat hlt4 hd4
    have HN := Lib.hid (show w4.ownsRow w.heap.size 3 1 (.slice (some ⟨g, 0, none⟩) ((factsTo x k).length + 1) cap2) (factsTo x (k + 1)).length ((factsTo x (k + 1)).map (Value.int .i64)) by
     rw [HS.out, List.map_append, List.length_append]; exact hown)
    have HKN := Lib.hid (own_grown HO.out KW.out ((Keeps.refl _ wr).alloc (.cells #[.int .i64 (k : Int)] 3)) hgrow)
    have hd5 : w.drawn ≤ w4.drawn := Nat.le_trans hd hd4
    clear hown hgrow hat hd4
    go_wp2_with fail
    go_roundw
    case rel => exact ⟨k + 1, by omega, by go_num, HN.out, HKN.out, hd5⟩
    case measure => simp [intOf]; omega
   ·have hb : (bits .and .u32 ((x : Int) / 2 ^ k) 1 == 1) = false := by rw [and_one, if_neg ht]; rfl
    have HS : Hid (factsTo x (k + 1) = factsTo x k) := by unfold Hid; rw [factsTo_succ, if_neg ht]
    clear ht
    go_wp2_with fail
    go_roundw
    case rel => exact ⟨k + 1, by omega, by go_num, by rw [HS.out]; exact HO.out, KW.out, hd⟩
    case measure => simp [intOf]; omega
  ·obtain rfl : k = 32 := by omega
   go_wp2_with fail
   go_ret
   exact ⟨_, rfl, HO.out, KW.out, hd⟩

end Go.Proofs.YtdokakhgflljgaaGreat

namespace Go.Proofs.YtdokakhgflljgaaGreat
open Go.RowKit

theorem opsFault_get {n i : Int} {l : List Opr} {k : Nat} {o : Opr} (h : l[k]? = some o) : opsFault n i (l.drop k) = if opCode o n = 0 then opsFault n (i + 1) (l.drop (k + 1)) else (opCode o n, i) := by
 obtain ⟨h1, h2⟩ := List.getElem?_eq_some_iff.1 h
 rw [List.drop_eq_getElem_cons h1, h2, opsFault]

/-- What a function that keeps its fault in a block of its own knows of that block. -/
structure Flt (w w1 : World) (F : Nat) (T : TypeId) : Prop where
 blk : w1.heap[F]? = some (.cells #[.int .i64 0, .int .i64 0] T (0, 0))
 base : w.heap.size ≤ F
 keep : Keeps (fun _ => False) w w1
theorem Flt.keeps0 {w w1 w2 : World} {F : Nat} {T : TypeId} (h : Flt w w1 F T) (hk : Keeps (fun _ => False) w1 w2) : Flt w w2 F T := ⟨hk.heap h.blk (fun h => h), h.base, h.keep.trans hk⟩
theorem Flt.cells {w w1 : World} {F : Nat} {T : TypeId} (h : Flt w w1 F T) : w1.cell? ⟨F, 0, none⟩ = some (.int .i64 0) ∧ w1.cell? ⟨F, 1, none⟩ = some (.int .i64 0) ∧ w1.frozen? ⟨F, 0, none⟩ = false ∧ w1.frozen? ⟨F, 1, none⟩ = false ∧ F < w1.heap.size :=
 ⟨by rw [cell_of_blk h.blk]; rfl, by rw [cell_of_blk h.blk]; rfl, frozen_of_blk h.blk, frozen_of_blk h.blk, lt_of_heap h.blk⟩
theorem Flt.set {w w1 : World} {F : Nat} {T : TypeId} (h : Flt w w1 F T) (c n : Value) : ((w1.setCell ⟨F, 0, none⟩ c).setCell ⟨F, 1, none⟩ n).heap[F]? = some (.cells #[c, n] T (0, 0)) ∧ Keeps (fun _ => False) w ((w1.setCell ⟨F, 0, none⟩ c).setCell ⟨F, 1, none⟩ n) :=
 ⟨pair_set h.blk c n, h.keep.trans' (keeps_pair F c n) (fun i hi => .inr (by have := h.base; omega))⟩

set_option maxHeartbeats 1000000 in
theorem validate_any (w : World) (vi vg vo : Value) (t : Tsk) (h : TaskAt w vi vg vo t) :
  Calls Tryz.prog 65 #[.agg #[.int .i64 t.n, vi, vg, vo]] w fun e w' => e = .returned (.agg #[.int .i64 (taskFault t).1, .int .i64 (taskFault t).2]) ∧ Keeps (fun _ => False) w w' := by
 obtain ⟨ai, ci, h1, _⟩ := h.init.form
 obtain ⟨ag, cg, h2, _⟩ := h.goal.form
 obtain ⟨ao, co, h3, hmo⟩ := h.ops.form
 subst h1 h2 h3
 have K1 := (Keeps.refl (fun _ => False) w).alloc (.cells #[.int .i64 t.n, .slice ai t.init.length ci, .slice ag t.goal.length cg, .slice ao t.ops.length co] 25)
 have HT := h.keeps0 (K1.alloc (.cells #[.int .i64 0, .int .i64 0] 31))
 have HB := (Four.new w (.int .i64 t.n) (.slice ai t.init.length ci) (.slice ag t.goal.length cg) (.slice ao t.ops.length co) 25).keeps0 ((Keeps.refl _ _).alloc (.cells #[.int .i64 0, .int .i64 0] 31))
 have HF : Flt w ((w.alloc (.cells #[.int .i64 t.n, .slice ai t.init.length ci, .slice ag t.goal.length cg, .slice ao t.ops.length co] 25)).alloc (.cells #[.int .i64 0, .int .i64 0] 31)) (w.heap.size + 1) 31 :=
  ⟨by have := heap_alloc_new (w.alloc (.cells #[.int .i64 t.n, .slice ai t.init.length ci, .slice ag t.goal.length cg, .slice ao t.ops.length co] 25)) (.cells #[.int .i64 0, .int .i64 0] 31); rwa [World.size_alloc] at this, by omega, K1.alloc _⟩
 replace HT := Lib.hid HT; replace HB := Lib.hid HB; replace HF := Lib.hid HF
 clear h K1
 go_enter Tryz.func65, Tryz.ntmps65
 go_upto_region 1 with fail
 generalize ((w.alloc (.cells #[.int .i64 t.n, .slice ai t.init.length ci, .slice ag t.goal.length cg, .slice ao t.ops.length co] 25)).alloc (.cells #[.int .i64 0, .int .i64 0] 31)) = w1 at HT HB HF ⊢
 obtain ⟨d0, d1, d2, d3⟩ := HB.out
 obtain ⟨e0, e1, z0, z1, hF⟩ := HF.out.cells
 by_cases hn : t.n < 0 ∨ 24 < t.n
 ·have HP : Hid (taskFault t = (3, -1)) := by unfold Hid taskFault; rw [if_pos (by omega)]
  rcases hn with hn | hn
  all_goals
   go_wp2_with fail
   refine bodyPost_ret (results_cell_row rfl _ _ (w.heap.size + 1) 31 _ (0, 0) _ rfl (HF.out.set (.int .i64 3) (.int .i64 (-1))).1 Tryz.underlying31 rfl (by kernel_rfl)) rfl ?_
   exact ⟨by rw [HP.out], (HF.out.set _ _).2⟩
 ·have hn0 : 0 ≤ t.n := by omega
  have hn1 : t.n ≤ 24 := by omega
  have hn2 : ¬ t.n < 0 := by omega
  have hn3 : ¬ 24 < t.n := by omega
  clear hn
  have P1 : taskFault t = if isSetB t.init t.n = false then (5, -2) else
   if isSetB t.goal t.n = false then (5, -3) else
   if 40 < t.ops.length then (2, -1) else opsFault t.n 0 t.ops := by unfold taskFault; rw [if_neg (by omega)]
  cases b1 : isSetB t.init t.n with
  | false =>
   have HP : Hid (taskFault t = (5, -2)) := by unfold Hid; rw [P1, if_pos b1]
   have B1 := Lib.hid b1
   clear b1 P1
   go_wp2_with fail
   refine (sIsSet_val HT.out.init B1.out).mono ?_; rintro e w2 ⟨rfl, rfl⟩
   go_wp2_with fail
   refine bodyPost_ret (results_cell_row rfl _ _ (w.heap.size + 1) 31 _ (0, 0) _ rfl (HF.out.set (.int .i64 5) (.int .i64 (-2))).1 Tryz.underlying31 rfl (by kernel_rfl)) rfl ?_
   exact ⟨by rw [HP.out], (HF.out.set _ _).2⟩
  | true =>
   rw [if_neg (by simp [b1])] at P1
   cases b2 : isSetB t.goal t.n with
   | false =>
    have HP : Hid (taskFault t = (5, -3)) := by unfold Hid; rw [P1, if_pos b2]
    have B1 := Lib.hid b1; have B2 := Lib.hid b2
    clear b1 b2 P1
    go_wp2_with fail
    refine (sIsSet_val HT.out.init B1.out).mono ?_; rintro e w2 ⟨rfl, rfl⟩
    go_wp2_with fail
    refine (sIsSet_val HT.out.goal B2.out).mono ?_; rintro e w2 ⟨rfl, rfl⟩
    go_wp2_with fail
    refine bodyPost_ret (results_cell_row rfl _ _ (w.heap.size + 1) 31 _ (0, 0) _ rfl (HF.out.set (.int .i64 5) (.int .i64 (-3))).1 Tryz.underlying31 rfl (by kernel_rfl)) rfl ?_
    exact ⟨by rw [HP.out], (HF.out.set _ _).2⟩
   | true =>
    rw [if_neg (by simp [b2])] at P1
    have B1 := Lib.hid b1; have B2 := Lib.hid b2
    clear b1 b2
    by_cases h40 : 40 < t.ops.length
    ·have HP : Hid (taskFault t = (2, -1)) := by unfold Hid; rw [P1, if_pos h40]
     clear P1
     go_wp2_with fail
     refine (sIsSet_val HT.out.init B1.out).mono ?_; rintro e w2 ⟨rfl, rfl⟩
     go_wp2_with fail
     refine (sIsSet_val HT.out.goal B2.out).mono ?_; rintro e w2 ⟨rfl, rfl⟩
     go_wp2_with fail
     refine bodyPost_ret (results_cell_row rfl _ _ (w.heap.size + 1) 31 _ (0, 0) _ rfl (HF.out.set (.int .i64 2) (.int .i64 (-1))).1 Tryz.underlying31 rfl (by kernel_rfl)) rfl ?_
     exact ⟨by rw [HP.out], (HF.out.set _ _).2⟩
    ·rw [if_neg h40] at P1
     have HQ := Lib.hid P1
     have HC := Lib.hid (HT.out.ops.cell rfl)
     clear P1
     go_wp2_with fail
     refine (sIsSet_val HT.out.init B1.out).mono ?_; rintro e w2 ⟨rfl, rfl⟩
     go_wp2_with fail
     refine (sIsSet_val HT.out.goal B2.out).mono ?_; rintro e w2 ⟨rfl, rfl⟩
     go_wp2_with fail
     go_loopw [41] (fun i wr => ∃ k : Nat, k ≤ t.ops.length ∧ i = .int .i64 (k : Int) ∧ opsFault t.n 0 t.ops = opsFault t.n (k : Int) (t.ops.drop k) ∧ Keeps (fun _ => False) w1 wr) (fun i _ => t.ops.length - (intOf i).toNat)
     case atStart => exact ⟨0, Nat.zero_le _, rfl, rfl, Keeps.refl _ _⟩
     case round =>
      obtain ⟨k, hk, rfl, ht, hkw⟩ := hrel
      have HTL := Lib.hid ht; clear ht
      have KW := Lib.hid hkw; clear hkw
      obtain ⟨d0, d1, d2, d3⟩ := HB.out.keeps0 KW.out
      have hbx := (HB.out.keeps0 KW.out).lt
      obtain ⟨e0, e1, z0, z1, hF⟩ := (HF.out.keeps0 KW.out).cells
      by_cases hlt : k < t.ops.length
      ·obtain ⟨bo, oo, rfl, hcell⟩ := HC.out (by omega)
       obtain ⟨o, ho⟩ : ∃ o, t.ops[k]? = some o := ⟨_, List.getElem?_eq_getElem hlt⟩
       obtain ⟨va, vb, vc, p0, p1, p2, p3, i1, i2, i3⟩ := hcell k o ho
       have q0 := KW.out.cell p0 (fun h => h)
       have q1 := KW.out.cell p1 (fun h => h)
       have q2 := KW.out.cell p2 (fun h => h)
       have q3 := KW.out.cell p3 (fun h => h)
       have I1 := Lib.hid (i1.keeps0 KW.out); have I2 := Lib.hid (i2.keeps0 KW.out); have I3 := Lib.hid (i3.keeps0 KW.out)
       have HG := Lib.hid (opsFault_get (n := t.n) (i := (k : Int)) ho)
       obtain ⟨a1, k1, f1, _⟩ := i1.form
       obtain ⟨a2, k2, f2, _⟩ := i2.form
       obtain ⟨a3, k3, f3, _⟩ := i3.form
       subst f1 f2 f3
       clear hcell ho p0 p1 p2 p3 i1 i2 i3
       have KA := Lib.hid ((Keeps.refl (fun _ => False) wr).alloc (.cells #[.slice a1 o.pre.length k1, .slice a2 o.add.length k2, .slice a3 o.del.length k3, .int .i64 o.cost] 80))
       have HOP := Lib.hid (fun (w' : World) => operator_any w' (.slice a1 o.pre.length k1) (.slice a2 o.add.length k2) (.slice a3 o.del.length k3) o t.n)
       go_wp2_with fail
       refine (HOP.out _ (I1.out.keeps0 KA.out) (I2.out.keeps0 KA.out) (I3.out.keeps0 KA.out) (by omega)).mono ?_; rintro e w3 ⟨rfl, hk3⟩
       have K3 := Lib.hid (KA.out.trans hk3)
       clear hk3
       by_cases hz : opCode o t.n = 0
       ·have HN : Hid (opsFault t.n 0 t.ops = opsFault t.n ((k + 1 : Nat) : Int) (t.ops.drop (k + 1))) := by
         unfold Hid; rw [HTL.out, HG.out, if_pos hz]; rfl
        have hz' : (opCode o t.n != 0) = false := by simpa using hz
        clear hz
        generalize opCode o t.n = c at hz' ⊢
        go_wp2_with fail
        go_roundw
        case rel => exact ⟨k + 1, by omega, by go_num, HN.out, KW.out.trans K3.out⟩
        case measure => simp [intOf]; omega
       ·have HP : Hid (taskFault t = (opCode o t.n, (k : Int))) := by unfold Hid; rw [HQ.out, HTL.out, HG.out, if_neg hz]
        have hz' : (opCode o t.n != 0) = true := by simpa using hz
        clear hz
        have HF4 := Lib.hid ((HF.out.keeps0 KW.out).keeps0 K3.out)
        obtain ⟨e0, e1, z0, z1, hF⟩ := HF4.out.cells
        generalize opCode o t.n = c at hz' HP ⊢
        go_wp2_with fail
        refine bodyPost_ret (results_cell_row rfl _ _ (w.heap.size + 1) 31 _ (0, 0) _ rfl (HF4.out.set (.int .i64 c) (.int .i64 (k : Int))).1 Tryz.underlying31 rfl (by kernel_rfl)) rfl ?_
        exact ⟨by rw [HP.out], (HF4.out.set _ _).2⟩
      ·have HP : Hid (taskFault t = (0, 0)) := by unfold Hid; rw [HQ.out, HTL.out, List.drop_of_length_le (by omega)]; rfl
       have HF4 := Lib.hid (HF.out.keeps0 KW.out)
       go_wp2_with fail
       refine bodyPost_ret (results_cell_row rfl _ _ (w.heap.size + 1) 31 _ (0, 0) _ rfl (HF4.out.set (.int .i64 0) (.int .i64 0)).1 Tryz.underlying31 rfl (by kernel_rfl)) rfl ?_
       exact ⟨by rw [HP.out], (HF4.out.set _ _).2⟩

end Go.Proofs.YtdokakhgflljgaaGreat

namespace Go.Proofs.YtdokakhgflljgaaGreat
open Go.RowKit

theorem rIsSet_b {v : Value} {l : List Int} {n : Int} {b : Bool} (w : World) (h : Ints w v l) (hb : isSetB l n = b) (hn0 : 0 ≤ n) (hn1 : n ≤ 1000) :
  Calls Tryz.prog 47 #[v, .int .i64 n] w fun e w' => e = .returned (.bool b) ∧ Keeps (fun _ => False) w w' := by rw [← hb]; exact rIsSet_val w v l n h hn0 hn1
theorem disjoint_b {va vb : Value} {a b : List Int} {r : Bool} (w : World) (ha : Ints w va a) (hb : Ints w vb b) (hr : disjB a b = r) :
  Calls Tryz.prog 48 #[va, vb] w fun e w' => e = .returned (.bool r) ∧ w = w' := by rw [← hr]; exact disjoint_any w va vb a b ha hb

set_option maxHeartbeats 2000000 in
theorem taskFault_any (w : World) (vi vg vo : Value) (t : Tsk) (h : TaskAt w vi vg vo t) :
  Calls Tryz.prog 20 #[.agg #[.int .i64 t.n, vi, vg, vo]] w fun e w' => e = .returned (.agg #[.int .i64 (taskFault t).1, .int .i64 (taskFault t).2]) ∧ Keeps (fun _ => False) w w' := by
 obtain ⟨ai, ci, h1, _⟩ := h.init.form
 obtain ⟨ag, cg, h2, _⟩ := h.goal.form
 obtain ⟨ao, co, h3, hmo⟩ := h.ops.form
 subst h1 h2 h3
 have K1 := (Keeps.refl (fun _ => False) w).alloc (.cells #[.int .i64 t.n, .slice ai t.init.length ci, .slice ag t.goal.length cg, .slice ao t.ops.length co] 25)
 have HT := h.keeps0 (K1.alloc (.cells #[.int .i64 0, .int .i64 0] 31))
 have HB := (Four.new w (.int .i64 t.n) (.slice ai t.init.length ci) (.slice ag t.goal.length cg) (.slice ao t.ops.length co) 25).keeps0 ((Keeps.refl _ _).alloc (.cells #[.int .i64 0, .int .i64 0] 31))
 have HF : Flt w ((w.alloc (.cells #[.int .i64 t.n, .slice ai t.init.length ci, .slice ag t.goal.length cg, .slice ao t.ops.length co] 25)).alloc (.cells #[.int .i64 0, .int .i64 0] 31)) (w.heap.size + 1) 31 :=
  ⟨by have := heap_alloc_new (w.alloc (.cells #[.int .i64 t.n, .slice ai t.init.length ci, .slice ag t.goal.length cg, .slice ao t.ops.length co] 25)) (.cells #[.int .i64 0, .int .i64 0] 31); rwa [World.size_alloc] at this, by omega, K1.alloc _⟩
 replace HT := Lib.hid HT; replace HB := Lib.hid HB; replace HF := Lib.hid HF
 clear h K1
 go_enter Tryz.func20, Tryz.ntmps20
 go_upto_region 1 with fail
 generalize ((w.alloc (.cells #[.int .i64 t.n, .slice ai t.init.length ci, .slice ag t.goal.length cg, .slice ao t.ops.length co] 25)).alloc (.cells #[.int .i64 0, .int .i64 0] 31)) = w1 at HT HB HF ⊢
 have hbx_w1 := HB.out.lt
 obtain ⟨d0, d1, d2, d3⟩ := HB.out
 by_cases hn : ¬ (0 ≤ t.n ∧ t.n ≤ 24)
 ·have HP : Hid (taskFault t = (3, -1)) := by unfold Hid taskFault; rw [if_pos hn]
  have HIN := Lib.hid (inB_false' hn)
  clear hn
  go_wp2_with fail
  refine (in_val _ HIN.out).mono ?_; rintro e w2 ⟨rfl, hw2⟩
  obtain rfl : w1 = w2 := hw2.symm
  go_wp2_with fail
  refine (at_any _ _ _).mono ?_; rintro e wA ⟨rfl, hkA⟩
  have HFA := Lib.hid ((HF.out.keeps0 (Keeps.refl _ _)).keeps0 hkA)
  obtain ⟨e0, e1, z0, z1, hFA⟩ := HFA.out.cells
  clear hkA
  go_wp2_with fail
  refine bodyPost_ret (results_cell_row rfl _ _ (w.heap.size + 1) 31 _ (0, 0) _ rfl (HFA.out.set (.int .i64 3) (.int .i64 (-1))).1 Tryz.underlying31 rfl (by kernel_rfl)) rfl ?_
  exact ⟨by rw [HP.out], (HFA.out.set _ _).2⟩
 ·have hn0 : 0 ≤ t.n := by omega
  have hn1 : t.n ≤ 24 := by omega
  have hn1' : t.n ≤ 1000 := by omega
  have P1 : taskFault t = if isSetB t.init t.n = false then (5, -2) else
   if isSetB t.goal t.n = false then (5, -3) else
   if 40 < t.ops.length then (2, -1) else opsFault t.n 0 t.ops := by unfold taskFault; rw [if_neg hn]
  have HIN := Lib.hid (inB_true' hn0 hn1)
  clear hn
  go_wp2_with fail
  refine (in_val _ HIN.out).mono ?_; rintro e w0 ⟨rfl, hw0⟩
  obtain rfl : w1 = w0 := hw0.symm
  cases b1 : isSetB t.init t.n with
  | false =>
   have HP : Hid (taskFault t = (5, -2)) := by unfold Hid; rw [P1, if_pos b1]
   have B1 := Lib.hid b1
   clear b1 P1
   go_wp2_with fail
   refine (rIsSet_b _ HT.out.init B1.out hn0 hn1').mono ?_; rintro e w2 ⟨rfl, hk_w2⟩
   have KA := Lib.hid ((Keeps.refl _ _).trans hk_w2)
   have hbx_w2 := (HB.out.keeps0 KA.out).lt
   obtain ⟨d0, d1, d2, d3⟩ := HB.out.keeps0 KA.out
   clear hk_w2
   go_wp2_with fail
   refine (at_any _ _ _).mono ?_; rintro e wA ⟨rfl, hkA⟩
   have HFA := Lib.hid ((HF.out.keeps0 KA.out).keeps0 hkA)
   obtain ⟨e0, e1, z0, z1, hFA⟩ := HFA.out.cells
   clear hkA
   go_wp2_with fail
   refine bodyPost_ret (results_cell_row rfl _ _ (w.heap.size + 1) 31 _ (0, 0) _ rfl (HFA.out.set (.int .i64 5) (.int .i64 (-2))).1 Tryz.underlying31 rfl (by kernel_rfl)) rfl ?_
   exact ⟨by rw [HP.out], (HFA.out.set _ _).2⟩
  | true =>
   rw [if_neg (by simp [b1])] at P1
   cases b2 : isSetB t.goal t.n with
   | false =>
    have HP : Hid (taskFault t = (5, -3)) := by unfold Hid; rw [P1, if_pos b2]
    have B1 := Lib.hid b1; have B2 := Lib.hid b2
    clear b1 b2 P1
    go_wp2_with fail
    refine (rIsSet_b _ HT.out.init B1.out hn0 hn1').mono ?_; rintro e w2 ⟨rfl, hk_w2⟩
    have KA := Lib.hid ((Keeps.refl _ _).trans hk_w2)
    have hbx_w2 := (HB.out.keeps0 KA.out).lt
    obtain ⟨d0, d1, d2, d3⟩ := HB.out.keeps0 KA.out
    clear hk_w2
    go_wp2_with fail
    refine (rIsSet_b _ (HT.out.goal.keeps0 KA.out) B2.out hn0 hn1').mono ?_; rintro e w3 ⟨rfl, hk_w3⟩
    have KB := Lib.hid (KA.out.trans hk_w3)
    have hbx_w3 := (HB.out.keeps0 KB.out).lt
    obtain ⟨d0, d1, d2, d3⟩ := HB.out.keeps0 KB.out
    clear hk_w3
    go_wp2_with fail
    refine (at_any _ _ _).mono ?_; rintro e wA ⟨rfl, hkA⟩
    have HFA := Lib.hid ((HF.out.keeps0 KB.out).keeps0 hkA)
    obtain ⟨e0, e1, z0, z1, hFA⟩ := HFA.out.cells
    clear hkA
    go_wp2_with fail
    refine bodyPost_ret (results_cell_row rfl _ _ (w.heap.size + 1) 31 _ (0, 0) _ rfl (HFA.out.set (.int .i64 5) (.int .i64 (-3))).1 Tryz.underlying31 rfl (by kernel_rfl)) rfl ?_
    exact ⟨by rw [HP.out], (HFA.out.set _ _).2⟩
   | true =>
    rw [if_neg (by simp [b2])] at P1
    have B1 := Lib.hid b1; have B2 := Lib.hid b2
    clear b1 b2
    by_cases h40 : 40 < t.ops.length
    ·have HP : Hid (taskFault t = (2, -1)) := by unfold Hid; rw [P1, if_pos h40]
     clear P1
     go_wp2_with fail
     refine (rIsSet_b _ HT.out.init B1.out hn0 hn1').mono ?_; rintro e w2 ⟨rfl, hk_w2⟩
     have KA := Lib.hid ((Keeps.refl _ _).trans hk_w2)
     have hbx_w2 := (HB.out.keeps0 KA.out).lt
     obtain ⟨d0, d1, d2, d3⟩ := HB.out.keeps0 KA.out
     clear hk_w2
     go_wp2_with fail
     refine (rIsSet_b _ (HT.out.goal.keeps0 KA.out) B2.out hn0 hn1').mono ?_; rintro e w3 ⟨rfl, hk_w3⟩
     have KB := Lib.hid (KA.out.trans hk_w3)
     have hbx_w3 := (HB.out.keeps0 KB.out).lt
     obtain ⟨d0, d1, d2, d3⟩ := HB.out.keeps0 KB.out
     clear hk_w3
     go_wp2_with fail
     refine (at_any _ _ _).mono ?_; rintro e wA ⟨rfl, hkA⟩
     have HFA := Lib.hid ((HF.out.keeps0 KB.out).keeps0 hkA)
     obtain ⟨e0, e1, z0, z1, hFA⟩ := HFA.out.cells
     clear hkA
     go_wp2_with fail
     refine bodyPost_ret (results_cell_row rfl _ _ (w.heap.size + 1) 31 _ (0, 0) _ rfl (HFA.out.set (.int .i64 2) (.int .i64 (-1))).1 Tryz.underlying31 rfl (by kernel_rfl)) rfl ?_
     exact ⟨by rw [HP.out], (HFA.out.set _ _).2⟩
    ·rw [if_neg h40] at P1
     have HQ := Lib.hid P1
     clear P1
     go_wp2_with fail
     refine (rIsSet_b _ HT.out.init B1.out hn0 hn1').mono ?_; rintro e w2 ⟨rfl, hk_w2⟩
     have KA := Lib.hid ((Keeps.refl _ _).trans hk_w2)
     have hbx_w2 := (HB.out.keeps0 KA.out).lt
     obtain ⟨d0, d1, d2, d3⟩ := HB.out.keeps0 KA.out
     clear hk_w2
     go_wp2_with fail
     refine (rIsSet_b _ (HT.out.goal.keeps0 KA.out) B2.out hn0 hn1').mono ?_; rintro e w3 ⟨rfl, hk_w3⟩
     have KB := Lib.hid (KA.out.trans hk_w3)
     have hbx_w3 := (HB.out.keeps0 KB.out).lt
     obtain ⟨d0, d1, d2, d3⟩ := HB.out.keeps0 KB.out
     clear hk_w3
     have HC := Lib.hid (HT.out.ops.cell rfl)
     go_wp2_with fail
     go_loopw [3] (fun i wr => ∃ k : Nat, k ≤ t.ops.length ∧ i = .int .i64 (k : Int) ∧ opsFault t.n 0 t.ops = opsFault t.n (k : Int) (t.ops.drop k) ∧ Keeps (fun _ => False) w1 wr) (fun i _ => t.ops.length - (intOf i).toNat)
     case atStart => exact ⟨0, Nat.zero_le _, rfl, rfl, KB.out⟩
     case round =>
      obtain ⟨k, hk, rfl, ht, hkw⟩ := hrel
      have HTL := Lib.hid ht; clear ht
      have KW := Lib.hid hkw; clear hkw
      have hbx := (HB.out.keeps0 KW.out).lt
      obtain ⟨d0, d1, d2, d3⟩ := HB.out.keeps0 KW.out
      by_cases hlt : k < t.ops.length
      ·obtain ⟨bo, oo, rfl, hcell⟩ := HC.out (by omega)
       obtain ⟨o, ho⟩ : ∃ o, t.ops[k]? = some o := ⟨_, List.getElem?_eq_getElem hlt⟩
       obtain ⟨va, vb, vc, p0, p1, p2, p3, i1, i2, i3⟩ := hcell k o ho
       have q0 := KW.out.cell p0 (fun h => h)
       have q1 := KW.out.cell p1 (fun h => h)
       have q2 := KW.out.cell p2 (fun h => h)
       have q3 := KW.out.cell p3 (fun h => h)
       obtain ⟨a1, k1, f1, _⟩ := i1.form
       obtain ⟨a2, k2, f2, _⟩ := i2.form
       obtain ⟨a3, k3, f3, _⟩ := i3.form
       subst f1 f2 f3
       have K4 := (Keeps.refl (fun _ => False) wr).alloc (.cells #[.slice a1 o.pre.length k1, .slice a2 o.add.length k2, .slice a3 o.del.length k3, .int .i64 o.cost] 80)
       have HO4 := Four.new wr (.slice a1 o.pre.length k1) (.slice a2 o.add.length k2) (.slice a3 o.del.length k3) (.int .i64 o.cost) 80
       have I1 := Lib.hid (i1.keeps0 (KW.out.trans K4)); have I2 := Lib.hid (i2.keeps0 (KW.out.trans K4)); have I3 := Lib.hid (i3.keeps0 (KW.out.trans K4))
       have HG := Lib.hid (opsFault_get (n := t.n) (i := (k : Int)) ho)
       clear hcell ho p0 p1 p2 p3 i1 i2 i3
       go_upto_region 13 with fail
       have KW4 := Lib.hid (KW.out.trans K4)
       have HO4' := Lib.hid HO4
       have lwr := HO4.lt
       clear K4 HO4
       obtain ⟨bb, hbb⟩ : ∃ bb, wr.heap.size = bb := ⟨_, rfl⟩
       rw [hbb] at HO4' lwr ⊢
       clear q0 q1 q2 q3
       generalize (wr.alloc (.cells #[.slice a1 o.pre.length k1, .slice a2 o.add.length k2, .slice a3 o.del.length k3, .int .i64 o.cost] 80)) = w4 at KW4 HO4' I1 I2 I3 lwr ⊢
       clear hbb
       obtain ⟨d0, d1, d2, d3⟩ := HB.out.keeps0 KW4.out
       have hbx4 := (HB.out.keeps0 KW4.out).lt
       obtain ⟨c0, c1, c2, c3⟩ := HO4'.out
       cases c1_ : isSetB o.pre t.n with
       | false =>
        have HP : Hid (taskFault t = (5, (k : Int))) := by
         unfold Hid
         have hc : opCode o t.n = 5 := by unfold opCode; simp [c1_]
         rw [HQ.out, HTL.out, HG.out, hc, if_neg (by decide)]
        have C1 := Lib.hid c1_
        clear c1_
        go_wp2_with fail
        refine (rIsSet_b _ I1.out C1.out hn0 hn1').mono ?_; rintro e w5 ⟨rfl, hk5⟩
        have KW5 := Lib.hid (KW4.out.trans hk5)
        have M1 := Lib.hid (hk5)
        obtain ⟨d0, d1, d2, d3⟩ := HB.out.keeps0 KW5.out
        obtain ⟨c0, c1, c2, c3⟩ := HO4'.out.keeps0 M1.out
        have hb5 := (HO4'.out.keeps0 M1.out).lt
        have hb6 := (HB.out.keeps0 KW5.out).lt
        clear hk5
        go_wp2_with fail
        refine (at_any _ _ _).mono ?_; rintro e wA ⟨rfl, hkA⟩
        have HFA := Lib.hid ((HF.out.keeps0 KW5.out).keeps0 hkA)
        obtain ⟨e0, e1, z0, z1, hFA⟩ := HFA.out.cells
        clear hkA
        go_wp2_with fail
        refine bodyPost_ret (results_cell_row rfl _ _ (w.heap.size + 1) 31 _ (0, 0) _ rfl (HFA.out.set (.int .i64 5) (.int .i64 (k : Int))).1 Tryz.underlying31 rfl (by kernel_rfl)) rfl ?_
        exact ⟨by rw [HP.out], (HFA.out.set _ _).2⟩
       | true =>
        cases c2_ : isSetB o.add t.n with
        | false =>
         have HP : Hid (taskFault t = (5, (k : Int))) := by
          unfold Hid
          have hc : opCode o t.n = 5 := by unfold opCode; simp [c2_]
          rw [HQ.out, HTL.out, HG.out, hc, if_neg (by decide)]
         have C1 := Lib.hid c1_
         have C2 := Lib.hid c2_
         clear c1_ c2_
         go_wp2_with fail
         refine (rIsSet_b _ I1.out C1.out hn0 hn1').mono ?_; rintro e w5 ⟨rfl, hk5⟩
         have KW5 := Lib.hid (KW4.out.trans hk5)
         have M1 := Lib.hid (hk5)
         obtain ⟨d0, d1, d2, d3⟩ := HB.out.keeps0 KW5.out
         obtain ⟨c0, c1, c2, c3⟩ := HO4'.out.keeps0 M1.out
         have hb5 := (HO4'.out.keeps0 M1.out).lt
         have hb6 := (HB.out.keeps0 KW5.out).lt
         clear hk5
         go_wp2_with fail
         refine (rIsSet_b _ (I2.out.keeps0 M1.out) C2.out hn0 hn1').mono ?_; rintro e w6 ⟨rfl, hk5⟩
         have KW6 := Lib.hid (KW5.out.trans hk5)
         have M2 := Lib.hid (M1.out.trans hk5)
         obtain ⟨d0, d1, d2, d3⟩ := HB.out.keeps0 KW6.out
         obtain ⟨c0, c1, c2, c3⟩ := HO4'.out.keeps0 M2.out
         have hb5 := (HO4'.out.keeps0 M2.out).lt
         have hb6 := (HB.out.keeps0 KW6.out).lt
         clear hk5
         go_wp2_with fail
         refine (at_any _ _ _).mono ?_; rintro e wA ⟨rfl, hkA⟩
         have HFA := Lib.hid ((HF.out.keeps0 KW6.out).keeps0 hkA)
         obtain ⟨e0, e1, z0, z1, hFA⟩ := HFA.out.cells
         clear hkA
         go_wp2_with fail
         refine bodyPost_ret (results_cell_row rfl _ _ (w.heap.size + 1) 31 _ (0, 0) _ rfl (HFA.out.set (.int .i64 5) (.int .i64 (k : Int))).1 Tryz.underlying31 rfl (by kernel_rfl)) rfl ?_
         exact ⟨by rw [HP.out], (HFA.out.set _ _).2⟩
        | true =>
         cases c3_ : isSetB o.del t.n with
         | false =>
          have HP : Hid (taskFault t = (5, (k : Int))) := by
           unfold Hid
           have hc : opCode o t.n = 5 := by unfold opCode; simp [c3_]
           rw [HQ.out, HTL.out, HG.out, hc, if_neg (by decide)]
          have C1 := Lib.hid c1_
          have C2 := Lib.hid c2_
          have C3 := Lib.hid c3_
          clear c1_ c2_ c3_
          go_wp2_with fail
          refine (rIsSet_b _ I1.out C1.out hn0 hn1').mono ?_; rintro e w5 ⟨rfl, hk5⟩
          have KW5 := Lib.hid (KW4.out.trans hk5)
          have M1 := Lib.hid (hk5)
          obtain ⟨d0, d1, d2, d3⟩ := HB.out.keeps0 KW5.out
          obtain ⟨c0, c1, c2, c3⟩ := HO4'.out.keeps0 M1.out
          have hb5 := (HO4'.out.keeps0 M1.out).lt
          have hb6 := (HB.out.keeps0 KW5.out).lt
          clear hk5
          go_wp2_with fail
          refine (rIsSet_b _ (I2.out.keeps0 M1.out) C2.out hn0 hn1').mono ?_; rintro e w6 ⟨rfl, hk5⟩
          have KW6 := Lib.hid (KW5.out.trans hk5)
          have M2 := Lib.hid (M1.out.trans hk5)
          obtain ⟨d0, d1, d2, d3⟩ := HB.out.keeps0 KW6.out
          obtain ⟨c0, c1, c2, c3⟩ := HO4'.out.keeps0 M2.out
          have hb5 := (HO4'.out.keeps0 M2.out).lt
          have hb6 := (HB.out.keeps0 KW6.out).lt
          clear hk5
          go_wp2_with fail
          refine (rIsSet_b _ (I3.out.keeps0 M2.out) C3.out hn0 hn1').mono ?_; rintro e w7 ⟨rfl, hk5⟩
          have KW7 := Lib.hid (KW6.out.trans hk5)
          have M3 := Lib.hid (M2.out.trans hk5)
          obtain ⟨d0, d1, d2, d3⟩ := HB.out.keeps0 KW7.out
          obtain ⟨c0, c1, c2, c3⟩ := HO4'.out.keeps0 M3.out
          have hb5 := (HO4'.out.keeps0 M3.out).lt
          have hb6 := (HB.out.keeps0 KW7.out).lt
          clear hk5
          go_wp2_with fail
          refine (at_any _ _ _).mono ?_; rintro e wA ⟨rfl, hkA⟩
          have HFA := Lib.hid ((HF.out.keeps0 KW7.out).keeps0 hkA)
          obtain ⟨e0, e1, z0, z1, hFA⟩ := HFA.out.cells
          clear hkA
          go_wp2_with fail
          refine bodyPost_ret (results_cell_row rfl _ _ (w.heap.size + 1) 31 _ (0, 0) _ rfl (HFA.out.set (.int .i64 5) (.int .i64 (k : Int))).1 Tryz.underlying31 rfl (by kernel_rfl)) rfl ?_
          exact ⟨by rw [HP.out], (HFA.out.set _ _).2⟩
         | true =>
          cases c4_ : disjB o.add o.del with
          | false =>
           have HP : Hid (taskFault t = (5, (k : Int))) := by
            unfold Hid
            have hc : opCode o t.n = 5 := by unfold opCode; simp [c4_]
            rw [HQ.out, HTL.out, HG.out, hc, if_neg (by decide)]
           have C1 := Lib.hid c1_
           have C2 := Lib.hid c2_
           have C3 := Lib.hid c3_
           have C4 := Lib.hid c4_
           clear c1_ c2_ c3_ c4_
           go_wp2_with fail
           refine (rIsSet_b _ I1.out C1.out hn0 hn1').mono ?_; rintro e w5 ⟨rfl, hk5⟩
           have KW5 := Lib.hid (KW4.out.trans hk5)
           have M1 := Lib.hid (hk5)
           obtain ⟨d0, d1, d2, d3⟩ := HB.out.keeps0 KW5.out
           obtain ⟨c0, c1, c2, c3⟩ := HO4'.out.keeps0 M1.out
           have hb5 := (HO4'.out.keeps0 M1.out).lt
           have hb6 := (HB.out.keeps0 KW5.out).lt
           clear hk5
           go_wp2_with fail
           refine (rIsSet_b _ (I2.out.keeps0 M1.out) C2.out hn0 hn1').mono ?_; rintro e w6 ⟨rfl, hk5⟩
           have KW6 := Lib.hid (KW5.out.trans hk5)
           have M2 := Lib.hid (M1.out.trans hk5)
           obtain ⟨d0, d1, d2, d3⟩ := HB.out.keeps0 KW6.out
           obtain ⟨c0, c1, c2, c3⟩ := HO4'.out.keeps0 M2.out
           have hb5 := (HO4'.out.keeps0 M2.out).lt
           have hb6 := (HB.out.keeps0 KW6.out).lt
           clear hk5
           go_wp2_with fail
           refine (rIsSet_b _ (I3.out.keeps0 M2.out) C3.out hn0 hn1').mono ?_; rintro e w7 ⟨rfl, hk5⟩
           have KW7 := Lib.hid (KW6.out.trans hk5)
           have M3 := Lib.hid (M2.out.trans hk5)
           obtain ⟨d0, d1, d2, d3⟩ := HB.out.keeps0 KW7.out
           obtain ⟨c0, c1, c2, c3⟩ := HO4'.out.keeps0 M3.out
           have hb5 := (HO4'.out.keeps0 M3.out).lt
           have hb6 := (HB.out.keeps0 KW7.out).lt
           clear hk5
           go_wp2_with fail
           refine (disjoint_b _ (I2.out.keeps0 M3.out) (I3.out.keeps0 M3.out) C4.out).mono ?_; rintro e w8 ⟨rfl, rfl⟩
           go_wp2_with fail
           refine (at_any _ _ _).mono ?_; rintro e wA ⟨rfl, hkA⟩
           have HFA := Lib.hid ((HF.out.keeps0 KW7.out).keeps0 hkA)
           obtain ⟨e0, e1, z0, z1, hFA⟩ := HFA.out.cells
           clear hkA
           go_wp2_with fail
           refine bodyPost_ret (results_cell_row rfl _ _ (w.heap.size + 1) 31 _ (0, 0) _ rfl (HFA.out.set (.int .i64 5) (.int .i64 (k : Int))).1 Tryz.underlying31 rfl (by kernel_rfl)) rfl ?_
           exact ⟨by rw [HP.out], (HFA.out.set _ _).2⟩
          | true =>
           have HO : Hid (opCode o t.n = if 0 ≤ o.cost ∧ o.cost ≤ 100 then 0 else 3) := by unfold Hid opCode; simp [c1_, c2_, c3_, c4_]
           have C1 := Lib.hid c1_
           have C2 := Lib.hid c2_
           have C3 := Lib.hid c3_
           have C4 := Lib.hid c4_
           clear c1_ c2_ c3_ c4_
           go_wp2_with fail
           refine (rIsSet_b _ I1.out C1.out hn0 hn1').mono ?_; rintro e w5 ⟨rfl, hk5⟩
           have KW5 := Lib.hid (KW4.out.trans hk5)
           have M1 := Lib.hid (hk5)
           obtain ⟨d0, d1, d2, d3⟩ := HB.out.keeps0 KW5.out
           obtain ⟨c0, c1, c2, c3⟩ := HO4'.out.keeps0 M1.out
           have hb5 := (HO4'.out.keeps0 M1.out).lt
           have hb6 := (HB.out.keeps0 KW5.out).lt
           clear hk5
           go_wp2_with fail
           refine (rIsSet_b _ (I2.out.keeps0 M1.out) C2.out hn0 hn1').mono ?_; rintro e w6 ⟨rfl, hk5⟩
           have KW6 := Lib.hid (KW5.out.trans hk5)
           have M2 := Lib.hid (M1.out.trans hk5)
           obtain ⟨d0, d1, d2, d3⟩ := HB.out.keeps0 KW6.out
           obtain ⟨c0, c1, c2, c3⟩ := HO4'.out.keeps0 M2.out
           have hb5 := (HO4'.out.keeps0 M2.out).lt
           have hb6 := (HB.out.keeps0 KW6.out).lt
           clear hk5
           go_wp2_with fail
           refine (rIsSet_b _ (I3.out.keeps0 M2.out) C3.out hn0 hn1').mono ?_; rintro e w7 ⟨rfl, hk5⟩
           have KW7 := Lib.hid (KW6.out.trans hk5)
           have M3 := Lib.hid (M2.out.trans hk5)
           obtain ⟨d0, d1, d2, d3⟩ := HB.out.keeps0 KW7.out
           obtain ⟨c0, c1, c2, c3⟩ := HO4'.out.keeps0 M3.out
           have hb5 := (HO4'.out.keeps0 M3.out).lt
           have hb6 := (HB.out.keeps0 KW7.out).lt
           clear hk5
           go_wp2_with fail
           refine (disjoint_b _ (I2.out.keeps0 M3.out) (I3.out.keeps0 M3.out) C4.out).mono ?_; rintro e w8 ⟨rfl, rfl⟩
           by_cases hcost : 0 ≤ o.cost ∧ o.cost ≤ 100
           ·have HIN2 := Lib.hid (inB_true' hcost.1 hcost.2)
            have HN : Hid (opsFault t.n 0 t.ops = opsFault t.n ((k + 1 : Nat) : Int) (t.ops.drop (k + 1))) := by
             unfold Hid; rw [HTL.out, HG.out, HO.out, if_pos hcost, if_pos rfl]; rfl
            clear hcost
            go_wp2_with fail
            refine (in_val _ HIN2.out).mono ?_; rintro e w9 ⟨rfl, hw9⟩
            subst hw9
            go_wp2_with fail
            go_roundw
            case rel => exact ⟨k + 1, by omega, by go_num, HN.out, KW7.out⟩
            case measure => simp [intOf]; omega
           ·have HIN2 := Lib.hid (inB_false' hcost)
            have HP : Hid (taskFault t = (3, (k : Int))) := by
             unfold Hid; rw [HQ.out, HTL.out, HG.out, HO.out, if_neg hcost, if_neg (by decide)]
            clear hcost
            go_wp2_with fail
            refine (in_val _ HIN2.out).mono ?_; rintro e w9 ⟨rfl, hw9⟩
            subst hw9
            go_wp2_with fail
            refine (at_any _ _ _).mono ?_; rintro e wA ⟨rfl, hkA⟩
            have HFA := Lib.hid ((HF.out.keeps0 KW7.out).keeps0 hkA)
            obtain ⟨e0, e1, z0, z1, hFA⟩ := HFA.out.cells
            clear hkA
            go_wp2_with fail
            refine bodyPost_ret (results_cell_row rfl _ _ (w.heap.size + 1) 31 _ (0, 0) _ rfl (HFA.out.set (.int .i64 3) (.int .i64 (k : Int))).1 Tryz.underlying31 rfl (by kernel_rfl)) rfl ?_
            exact ⟨by rw [HP.out], (HFA.out.set _ _).2⟩
      ·have HP : Hid (taskFault t = (0, 0)) := by unfold Hid; rw [HQ.out, HTL.out, List.drop_of_length_le (by omega)]; rfl
       have HF4 := Lib.hid (HF.out.keeps0 KW.out)
       obtain ⟨e0, e1, z0, z1, hF⟩ := HF4.out.cells
       go_wp2_with fail
       refine bodyPost_ret (results_cell_row rfl _ _ (w.heap.size + 1) 31 _ (0, 0) _ rfl (HF4.out.set (.int .i64 0) (.int .i64 0)).1 Tryz.underlying31 rfl (by kernel_rfl)) rfl ?_
       exact ⟨by rw [HP.out], (HF4.out.set _ _).2⟩

end Go.Proofs.YtdokakhgflljgaaGreat

namespace Go.Proofs.YtdokakhgflljgaaGreat
open Go.RowKit

theorem wd_small {l : List Int} {p : Nat} (h : ∀ x ∈ l, 0 ≤ x ∧ x < (p : Int)) : wd l ||| 2 ^ p = wd l + 2 ^ p := by
 have := Nat.two_pow_add_eq_or_of_lt (i := p) (b := wd l) (wd_lt h) 1
 rw [Nat.mul_one] at this
 rw [Nat.or_comm, ← this, Nat.add_comm]

theorem wrap64_small {n : Nat} (h : n < 9223372036854775808) : wrap64 (n : Int) = (n : Int) := by
 unfold wrap64
 omega

set_option maxRecDepth 100000 in
set_option maxHeartbeats 1000000 in
theorem rword_any (w : World) (v : Value) (l : List Int) (h : Ints w v l) (hl : isSetB l 32 = true) :
  Calls Tryz.prog 37 #[v] w fun e w' => e = .returned (.int .i64 (wd l : Nat)) ∧ w = w' := by
 obtain ⟨ao, ca, hv, ma⟩ := h.form
 have CA := Lib.hid (h.cell hv)
 have HL := Lib.hid hl
 subst hv
 clear h hl
 go_enter Tryz.func37, Tryz.ntmps37
 go_wp2_with fail
 go_loop [3, 4] (fun u i => ∃ k : Nat, k ≤ l.length ∧ i = .int .i64 (k : Int) ∧ u = .int .i64 (wd (l.take k) : Nat)) (fun _ i => l.length - (intOf i).toNat)
 case atStart => exact ⟨0, Nat.zero_le _, rfl, rfl⟩
 case round =>
  obtain ⟨k, hk, rfl, rfl⟩ := hrel
  by_cases hlt : k < l.length
  ·obtain ⟨ba, oa, rfl, ha'⟩ := CA.out (by omega)
   obtain ⟨x, hx⟩ : ∃ x, l[k]? = some x := ⟨_, List.getElem?_eq_getElem hlt⟩
   have ha1 := ha' k _ hx
   obtain ⟨hr, hp⟩ := isSet_iff.1 HL.out
   have hb := hr x (List.mem_of_getElem? hx)
   have hsm : ∀ y ∈ l.take k, 0 ≤ y ∧ y < (x.toNat : Int) := by
    intro y hy
    have h1 := hr y (List.mem_of_mem_take hy)
    obtain ⟨j, hj⟩ := List.mem_iff_getElem?.1 hy
    rw [List.getElem?_take] at hj
    split at hj
    ·rename_i hjk
     obtain ⟨l1, e1⟩ := List.getElem?_eq_some_iff.1 hj
     obtain ⟨l2, e2⟩ := List.getElem?_eq_some_iff.1 hx
     have := List.pairwise_iff_getElem.1 hp j k l1 l2 hjk
     rw [e1, e2] at this
     omega
    ·cases hj
   have e2 : wd (l.take (k + 1)) = wd (l.take k) + 2 ^ x.toNat := by
    rw [← wd_small hsm, take_getS hx, wd_append, Nat.or_comm]; simp [wd]
   have hlt32 : wd (l.take (k + 1)) < 4294967296 := wd_take_lt hr (k + 1)
   have hb0 := hb.1
   have hpw : (2 : Nat) ^ x.toNat < 4294967296 := show (2 : Nat) ^ x.toNat < 2 ^ 32 from Nat.pow_lt_pow_right (by decide) (by omega)
   have hpc : ((2 : Int) ^ x.toNat) = ((2 ^ x.toNat : Nat) : Int) := by simp
   have H1 := Lib.hid e2; have H2 := Lib.hid hlt32; have H3 := Lib.hid hpw; have H4 := Lib.hid hpc
   clear ha' hx e2 hlt32 hr hp hsm hpw hpc
   go_wp2_with fail
   go_round
   case rel =>
    refine ⟨k + 1, by omega, by go_num, ?_⟩
    rw [H4.out, wrap64_small (by have := H3.out; omega), H1.out]
    congr 1
    rw [← Int.natCast_add, wrap64_small (by rw [← H1.out]; have := H2.out; omega)]
   case measure => simp [intOf]; omega
  ·have hf : Hid (wd (l.take k) = wd l) := by unfold Hid; rw [List.take_of_length_le (by omega)]
   go_wp2_with fail
   go_ret
   exact ⟨congrArg (fun u : Nat => Ending.returned (Value.int .i64 (u : Int))) hf.out, rfl⟩

/-! ### Subset -/
def subB (a b : List Int) : Bool := a.all fun x => b.contains x

set_option maxHeartbeats 1000000 in
theorem subset_any (w : World) (va vb : Value) (a b : List Int) (ha : Ints w va a) (hb : Ints w vb b) :
  Calls Tryz.prog 40 #[va, vb] w fun e w' => e = .returned (.bool (subB a b)) ∧ w = w' := by
 obtain ⟨ao, ca, hv, ma⟩ := ha.form
 have CA := Lib.hid (ha.cell hv)
 have HB := Lib.hid hb
 obtain ⟨bo, cb, hvb, mb⟩ := hb.form
 subst hv hvb
 clear ha hb
 go_enter Tryz.func40, Tryz.ntmps40
 go_wp2_with fail
 go_loop [5] (fun i => ∃ k : Nat, k ≤ a.length ∧ i = .int .i64 (k : Int) ∧ subB (a.take k) b = true) (fun i => a.length - (intOf i).toNat)
 case atStart => exact ⟨0, Nat.zero_le _, rfl, rfl⟩
 case round =>
  obtain ⟨k, hk, rfl, ht⟩ := hrel
  have HT := Lib.hid ht; clear ht
  by_cases hlt : k < a.length
  ·obtain ⟨ba, oa, rfl, ha'⟩ := CA.out (by omega)
   obtain ⟨x, hx⟩ : ∃ x, a[k]? = some x := ⟨_, List.getElem?_eq_getElem hlt⟩
   have ha1 := ha' k _ hx
   have HX := Lib.hid hx
   clear ha' hx
   have e2 := take_getS HX.out
   by_cases hm : x ∈ b
   ·have HN : Hid (subB (a.take (k + 1)) b = true) := by
     unfold Hid
     rw [e2]
     have := HT.out
     unfold subB at this ⊢
     rw [List.all_append, this]
     simp [hm]
    have HD := Lib.hid (decide_eq_true hm)
    clear hm e2
    go_wp2_with fail
    refine (has_any _ _ _ _ HB.out).mono ?_; rintro e w1 ⟨rfl, rfl⟩
    rw [HD.out]
    go_wp2_with fail
    go_round
    case rel => exact ⟨k + 1, by omega, by go_num, HN.out⟩
    case measure => simp [intOf]; omega
   ·have hf : Hid (subB a b = false) := by
     unfold Hid subB
     rw [List.all_eq_false]
     exact ⟨x, List.mem_of_getElem? HX.out, by simp [hm]⟩
    have HD := Lib.hid (decide_eq_false hm)
    clear hm e2
    go_wp2_with fail
    refine (has_any _ _ _ _ HB.out).mono ?_; rintro e w1 ⟨rfl, rfl⟩
    rw [HD.out]
    go_wp2_with fail
    go_ret
    exact ⟨congrArg (fun b => Ending.returned (Value.bool b)) hf.out.symm, rfl⟩
  ·have hf : Hid (subB a b = true) := by
    have := HT.out
    rw [List.take_of_length_le (by omega)] at this
    exact this
   go_wp2_with fail
   go_ret
   exact ⟨congrArg (fun b => Ending.returned (Value.bool b)) hf.out.symm, rfl⟩

/-! ### Applies -/
set_option maxHeartbeats 1000000 in
theorem applies_any (w : World) (vi vg vo vs : Value) (t : Tsk) (s : List Int) (k : Nat) (o : Opr) (h : TaskAt w vi vg vo t) (hs : Ints w vs s) (hk : t.ops[k]? = some o) :
  Calls Tryz.prog 38 #[.agg #[.int .i64 t.n, vi, vg, vo], vs, .int .i64 (k : Int)] w fun e w' => e = .returned (.bool (appL o s)) ∧ Keeps (fun _ => False) w w' := by
 obtain ⟨ai, ci, h1, _⟩ := h.init.form
 obtain ⟨ag, cg, h2, _⟩ := h.goal.form
 obtain ⟨ao, co, h3, hmo⟩ := h.ops.form
 obtain ⟨aa, cs, h4, _⟩ := hs.form
 subst h1 h2 h3 h4
 have hlt : k < t.ops.length := (List.getElem?_eq_some_iff.1 hk).1
 have K1 := (Keeps.refl (fun _ => False) w).alloc (.cells #[.int .i64 t.n, .slice ai t.init.length ci, .slice ag t.goal.length cg, .slice ao t.ops.length co] 25)
 have HT := h.keeps0 K1
 have HSS := Lib.hid (show Ints _ (.slice aa s.length cs) s from hs.keeps0 K1)
 have HB := (Four.new w (.int .i64 t.n) (.slice ai t.init.length ci) (.slice ag t.goal.length cg) (.slice ao t.ops.length co) 25)
 obtain ⟨bo, off, rfl, hcell⟩ := HT.ops.cell rfl (by omega)
 obtain ⟨va, vb, vc, c0, c1, c2, c3, ia, ib, ic⟩ := hcell k o hk
 obtain ⟨pa, pc, hpa, _⟩ := ia.form
 have HIA := Lib.hid ia; have HK := Lib.hid K1
 clear h hs HT hcell ia ib ic c1 c2 c3 hk K1
 go_enter Tryz.func38, Tryz.ntmps38
 go_upto_region 1 with fail
 generalize (w.alloc (.cells #[.int .i64 t.n, .slice ai t.init.length ci, .slice ag t.goal.length cg, .slice (some ⟨bo, off, none⟩) t.ops.length co] 25)) = w1 at HB HSS c0 HIA HK ⊢
 obtain ⟨d0, d1, d2, d3⟩ := HB
 subst hpa
 go_wp2_with fail
 refine (subset_any _ _ _ _ _ HIA.out HSS.out).mono ?_; rintro e w2 ⟨rfl, rfl⟩
 go_wp2_with fail
 go_ret
 exact ⟨rfl, HK.out⟩

end Go.Proofs.YtdokakhgflljgaaGreat

/- The reference's After. -/
namespace Go.Proofs.YtdokakhgflljgaaGreat
open Go.RowKit

def aftP (o : Opr) (s : List Int) (x : Int) : Bool := decide (x ∈ o.add) || (decide (x ∈ s) && !decide (x ∈ o.del))
/-- The facts behind an operator, below k. -/
def aftTo (o : Opr) (s : List Int) (k : Nat) : List Int := ((List.range k).map fun p : Nat => (p : Int)).filter (aftP o s)
theorem aftTo_succ (o : Opr) (s : List Int) (k : Nat) : aftTo o s (k + 1) = if aftP o s k = true then aftTo o s k ++ [(k : Int)] else aftTo o s k := by
 unfold aftTo
 rw [List.range_succ, List.map_append, List.filter_append]
 cases h : aftP o s k <;> simp [h]
theorem aftTo_le (o : Opr) (s : List Int) (k : Nat) : (aftTo o s k).length ≤ k := by
 unfold aftTo
 refine Nat.le_trans (List.length_filter_le _ _) (by simp)
theorem aftTo_aftL {n : Int} (h0 : 0 ≤ n) (o : Opr) (s : List Int) : aftTo o s n.toNat = aftL n o s := by
 refine sorted_ext ?_ (isSet_iff.1 (isSet_aftL n o s)).2 fun x => ?_
 ·unfold aftTo
  refine List.Pairwise.sublist List.filter_sublist ?_
  rw [List.pairwise_map]
  refine List.Pairwise.imp ?_ (List.pairwise_lt_range (n := n.toNat))
  intro a b h; omega
 ·rw [mem_aftL]
  unfold aftTo aftP
  simp only [List.mem_filter, List.mem_map, List.mem_range, Bool.or_eq_true, Bool.and_eq_true, Bool.not_eq_true', decide_eq_true_eq, decide_eq_false_iff_not]
  constructor
  ·rintro ⟨⟨p, hp, rfl⟩, h⟩; exact ⟨⟨by omega, by omega⟩, h⟩
  ·rintro ⟨⟨h1, h2⟩, h⟩; exact ⟨⟨x.toNat, by omega, by omega⟩, h⟩

set_option maxRecDepth 100000 in
set_option maxHeartbeats 2000000 in
theorem after_any (w : World) (vi vg vo vs : Value) (t : Tsk) (s : List Int) (k : Nat) (o : Opr) (h : TaskAt w vi vg vo t) (hs : Ints w vs s) (hk : t.ops[k]? = some o) (hn0 : 0 ≤ t.n) (hn1 : t.n ≤ 1000) :
  Calls Tryz.prog 39 #[.agg #[.int .i64 t.n, vi, vg, vo], vs, .int .i64 (k : Int)] w fun e w' => ∃ v, e = .returned v ∧ w'.ownsRow w.heap.size 3 1 v (aftL t.n o s).length ((aftL t.n o s).map (Value.int .i64)) ∧ Keeps (fun _ => False) w w' := by
 obtain ⟨i0, hi0, hz0, hz1, hz2⟩ := info_parts Tryz.info3
 obtain ⟨ai, ci, h1, _⟩ := h.init.form
 obtain ⟨ag, cg, h2, _⟩ := h.goal.form
 obtain ⟨ao, co, h3, hmo⟩ := h.ops.form
 obtain ⟨aa, cs, h4, _⟩ := hs.form
 subst h1 h2 h3 h4
 have hlt : k < t.ops.length := (List.getElem?_eq_some_iff.1 hk).1
 have K1 := (Keeps.refl (fun _ => False) w).alloc (.cells #[.int .i64 t.n, .slice ai t.init.length ci, .slice ag t.goal.length cg, .slice ao t.ops.length co] 25)
 have HT := h.keeps0 K1
 have HSS := Lib.hid (show Ints _ (.slice aa s.length cs) s from hs.keeps0 K1)
 have HB := Lib.hid (Four.new w (.int .i64 t.n) (.slice ai t.init.length ci) (.slice ag t.goal.length cg) (.slice ao t.ops.length co) 25)
 obtain ⟨bo, off, rfl, hcell⟩ := HT.ops.cell rfl (by omega)
 obtain ⟨va, vb, vc, c0, c1, c2, c3, ia, ib, ic⟩ := hcell k o hk
 obtain ⟨pb, pcb, hpb, _⟩ := ib.form
 obtain ⟨pc, pcc, hpc, _⟩ := ic.form
 subst hpb hpc
 have HIB := Lib.hid ib; have HIC := Lib.hid ic; have HK := Lib.hid K1; have HC1 := Lib.hid c1; have HC2 := Lib.hid c2
 clear h hs HT hcell ia ib ic c0 c1 c2 c3 hk K1
 go_enter Tryz.func39, Tryz.ntmps39
 go_upto_region 1 with fail
 generalize (w.alloc (.cells #[.int .i64 t.n, .slice ai t.init.length ci, .slice ag t.goal.length cg, .slice (some ⟨bo, off, none⟩) t.ops.length co] 25)) = w1 at HB HSS HC1 HC2 HIB HIC HK ⊢
 have hbx := HB.out.lt
 go_wp2_with fail
 go_loopw [7, 8] (fun v i wr => ∃ p : Nat, (p : Int) ≤ t.n ∧ i = .int .i64 (p : Int) ∧ wr.ownsRow w1.heap.size 3 1 v (aftTo o s p).length ((aftTo o s p).map (Value.int .i64)) ∧ Keeps (fun _ => False) w1 wr) (fun _ i _ => t.n.toNat - (intOf i).toNat)
 case atStart => exact ⟨0, by omega, rfl, World.ownsRow_nil _ _ _ _, Keeps.refl _ _⟩
 case round =>
  obtain ⟨p, hp, rfl, hown, hkw⟩ := hrel
  have HO := Lib.hid hown; have KW := Lib.hid hkw
  obtain ⟨d0, d1, d2, d3⟩ := HB.out.keeps0 hkw
  have hbr := (HB.out.keeps0 hkw).lt
  have b1 := hkw.cell HC1.out (fun h => h)
  have b2 := hkw.cell HC2.out (fun h => h)
  have SB := Lib.hid (show Ints wr (.slice pb o.add.length pcb) o.add from HIB.out.keeps0 hkw)
  have SC := Lib.hid (show Ints wr (.slice pc o.del.length pcc) o.del from HIC.out.keeps0 hkw)
  have SS := Lib.hid (show Ints wr (.slice aa s.length cs) s from HSS.out.keeps0 hkw)
  clear hown hkw
  have hle := aftTo_le o s p
  have hsz := KW.out.size
  have hszw := HK.out.size
  by_cases hlp : (p : Int) < t.n
  ·obtain ⟨av, cv, hv⟩ := ownsRow_form1 HO.out
   subst hv
   by_cases ha : (p : Int) ∈ o.add
   ·have HA := Lib.hid (decide_eq_true ha)
    have HS : Hid (aftTo o s (p + 1) = aftTo o s p ++ [(p : Int)]) := by unfold Hid; rw [aftTo_succ, if_pos (by simp [aftP, ha])]
    clear ha
    go_wp2_with fail
    refine (has_any _ _ _ _ SB.out).mono ?_; rintro e w3 ⟨rfl, rfl⟩
    rw [HA.out]
    go_wp2_with (at_builtin; refine wpList_append_d rfl _ _ _ rfl w1.heap.size 3 i0 _ 1 8 Tryz.underlying22 hi0 hz0 hz1 hz2 rfl (by omega) _ (aftTo o s p).length ((aftTo o s p).map (Value.int .i64)) (by rfl) (World.ownsRow.alloc HO.out (.cells #[.int .i64 (p : Int)] 3)) ⟨wr.heap.size, 0, none⟩ 1 1 [.int .i64 (p : Int)] (by rfl) (by rfl) ?hnews ?hone (by omega) (by unfold maxLen; omega) (by omega) (by simp; omega) (wr.heap.size + 1) (by simp) ?_)
    case hnews => exact World.news_of_block (cs := #[.int .i64 (p : Int)]) (t := 3) (fr := (0, 0)) (heap_alloc_new _ _)
    case hone => simp [Value.oneCell']
    intro gg cap2 w4 hown hgrow hat hlt4 hd4
    have HN := Lib.hid (show w4.ownsRow w1.heap.size 3 1 (.slice (some ⟨gg, 0, none⟩) ((aftTo o s p).length + 1) cap2) (aftTo o s (p + 1)).length ((aftTo o s (p + 1)).map (Value.int .i64)) by
     rw [HS.out, List.map_append, List.length_append]; exact hown)
    have HKN := Lib.hid (own_grown HO.out KW.out ((Keeps.refl _ wr).alloc (.cells #[.int .i64 (p : Int)] 3)) hgrow)
    clear hown hgrow hat hd4
    go_wp2_with fail
    go_roundw
    case rel => exact ⟨p + 1, by omega, by go_num, HN.out, HKN.out⟩
    case measure => simp [intOf]; omega
   ·have HA := Lib.hid (decide_eq_false ha)
    by_cases hs : (p : Int) ∈ s
    ·have HSD := Lib.hid (decide_eq_true hs)
     by_cases hd : (p : Int) ∈ o.del
     ·have HDD := Lib.hid (decide_eq_true hd)
      have HS : Hid (aftTo o s (p + 1) = aftTo o s p) := by unfold Hid; rw [aftTo_succ, if_neg (by simp [aftP, ha, hd])]
      clear ha hs hd
      go_wp2_with fail
      refine (has_any _ _ _ _ SB.out).mono ?_; rintro e w3 ⟨rfl, rfl⟩
      rw [HA.out]
      go_wp2_with fail
      refine (has_any _ _ _ _ SS.out).mono ?_; rintro e w3 ⟨rfl, rfl⟩
      rw [HSD.out]
      go_wp2_with fail
      refine (has_any _ _ _ _ SC.out).mono ?_; rintro e w3 ⟨rfl, rfl⟩
      rw [HDD.out]
      go_wp2_with fail
      go_roundw
      case rel => exact ⟨p + 1, by omega, by go_num, by rw [HS.out]; exact HO.out, KW.out⟩
      case measure => simp [intOf]; omega
     ·have HDD := Lib.hid (decide_eq_false hd)
      have HS : Hid (aftTo o s (p + 1) = aftTo o s p ++ [(p : Int)]) := by unfold Hid; rw [aftTo_succ, if_pos (by simp [aftP, hs, hd])]
      clear ha hs hd
      go_wp2_with fail
      refine (has_any _ _ _ _ SB.out).mono ?_; rintro e w3 ⟨rfl, rfl⟩
      rw [HA.out]
      go_wp2_with fail
      refine (has_any _ _ _ _ SS.out).mono ?_; rintro e w3 ⟨rfl, rfl⟩
      rw [HSD.out]
      go_wp2_with fail
      refine (has_any _ _ _ _ SC.out).mono ?_; rintro e w3 ⟨rfl, rfl⟩
      rw [HDD.out]
      go_wp2_with (at_builtin; refine wpList_append_d rfl _ _ _ rfl w1.heap.size 3 i0 _ 1 8 Tryz.underlying22 hi0 hz0 hz1 hz2 rfl (by omega) _ (aftTo o s p).length ((aftTo o s p).map (Value.int .i64)) (by rfl) (World.ownsRow.alloc HO.out (.cells #[.int .i64 (p : Int)] 3)) ⟨wr.heap.size, 0, none⟩ 1 1 [.int .i64 (p : Int)] (by rfl) (by rfl) ?hnews ?hone (by omega) (by unfold maxLen; omega) (by omega) (by simp; omega) (wr.heap.size + 1) (by simp) ?_)
      case hnews => exact World.news_of_block (cs := #[.int .i64 (p : Int)]) (t := 3) (fr := (0, 0)) (heap_alloc_new _ _)
      case hone => simp [Value.oneCell']
      intro gg cap2 w4 hown hgrow hat hlt4 hd4
      have HN := Lib.hid (show w4.ownsRow w1.heap.size 3 1 (.slice (some ⟨gg, 0, none⟩) ((aftTo o s p).length + 1) cap2) (aftTo o s (p + 1)).length ((aftTo o s (p + 1)).map (Value.int .i64)) by
       rw [HS.out, List.map_append, List.length_append]; exact hown)
      have HKN := Lib.hid (own_grown HO.out KW.out ((Keeps.refl _ wr).alloc (.cells #[.int .i64 (p : Int)] 3)) hgrow)
      clear hown hgrow hat hd4
      go_wp2_with fail
      go_roundw
      case rel => exact ⟨p + 1, by omega, by go_num, HN.out, HKN.out⟩
      case measure => simp [intOf]; omega
    ·have HSD := Lib.hid (decide_eq_false hs)
     have HS : Hid (aftTo o s (p + 1) = aftTo o s p) := by unfold Hid; rw [aftTo_succ, if_neg (by simp [aftP, ha, hs])]
     clear ha hs
     go_wp2_with fail
     refine (has_any _ _ _ _ SB.out).mono ?_; rintro e w3 ⟨rfl, rfl⟩
     rw [HA.out]
     go_wp2_with fail
     refine (has_any _ _ _ _ SS.out).mono ?_; rintro e w3 ⟨rfl, rfl⟩
     rw [HSD.out]
     go_wp2_with fail
     go_roundw
     case rel => exact ⟨p + 1, by omega, by go_num, by rw [HS.out]; exact HO.out, KW.out⟩
     case measure => simp [intOf]; omega
  ·have hpn : p = t.n.toNat := by omega
   have HE : Hid (aftTo o s p = aftL t.n o s) := by unfold Hid; rw [hpn]; exact aftTo_aftL hn0 o s
   clear hpn
   go_wp2_with fail
   go_ret
   refine ⟨_, rfl, ?_, HK.out.trans KW.out⟩
   have := HO.out
   rw [HE.out] at this
   exact ownsRow_mono this HK.out.size

end Go.Proofs.YtdokakhgflljgaaGreat

namespace Go.Proofs.YtdokakhgflljgaaGreat
open Go.RowKit

theorem Tryz.info_mask : (Tryz.prog.info? 157).map (fun i => (i.zero, i.size, i.bytes)) = some (some (.agg #[.int .u32 0, .int .u32 0, .int .u32 0, .int .i64 0]), 4, 24) := by kernel_rfl

def wopCells (ops : List Wop) : List Value := ops.flatMap fun o => [.int .u32 (o.pre : Int), .int .u32 (o.add : Int), .int .u32 (o.del : Int), .int .i64 o.cost]
def wordsOf (ops : List Opr) : List Wop := ops.map Opr.word

theorem wopCells_append (a b : List Wop) : wopCells (a ++ b) = wopCells a ++ wopCells b := by unfold wopCells; exact List.flatMap_append

theorem word_still {w : World} {v : Value} {l : List Int} (h : Ints w v l) (hl : ∀ x ∈ l, 0 ≤ x ∧ x < 32) :
  Calls Tryz.prog 84 #[v] w fun e w' => e = .returned (.int .u32 (wd l : Nat)) ∧ w' = w :=
 (word_any w v l h hl).mono fun _ _ ⟨he, hw⟩ => ⟨he, hw.symm⟩

theorem set_bound {l : List Int} {n : Int} (h : isSetB l n = true) (hn : n ≤ 24) : ∀ x ∈ l, 0 ≤ x ∧ x < 32 := fun x hx => by have := (isSet_iff.1 h).1 x hx; omega

/-- A block that holds the words of a task. -/
structure WordsAt (w : World) (base b : Nat) (s g : Nat) (v : Value) (ops : List Wop) : Prop where
 blk : w.heap[b]? = some (.cells #[.int .u32 (s : Int), .int .u32 (g : Int), v] 114 (0, 0))
 own : w.ownsRow base 157 4 v ops.length (wopCells ops)
 low : base ≤ b
 ne : v.ownBlock ≠ some b

set_option maxHeartbeats 1000000 in
theorem grown_cell {w4 w5 : World} {o : Obj} {row : Option Nat} (hg : ((w4.alloc o).drew).grownBy w5 row) {b j : Nat} {x : Value} (h : w4.cell? ⟨b, j, none⟩ = some x) (hne : row ≠ some b) : w5.cell? ⟨b, j, none⟩ = some x :=
 hg.cell (a := ⟨b, j, none⟩) (((Keeps.refl (fun _ => False) w4).alloc o).drew.cell h (fun h => h)) (fun e => hne e.symm)
theorem grown_heap {w4 w5 : World} {o o' : Obj} {row : Option Nat} (hg : ((w4.alloc o).drew).grownBy w5 row) {b : Nat} (h : w4.heap[b]? = some o') (hne : row ≠ some b) : w5.heap[b]? = some o' := by
 have h1 := (((Keeps.refl (fun _ => False) w4).alloc o).drew).heap h (fun h => h)
 exact (hg.block b (lt_of_heap h1) (fun e => hne e.symm)).trans h1

theorem ownsRow_mono4 {w : World} {base base' : Nat} {e : TypeId} {size : Nat} {v : Value} {n : Nat} {xs : List Value} (h : w.ownsRow base e size v n xs) (hb : base' ≤ base) : w.ownsRow base' e size v n xs := ownsRow_mono h hb

theorem WordsAt.keeps0 {w w' : World} {base b s g : Nat} {v : Value} {ops : List Wop} (h : WordsAt w base b s g v ops) (hk : Keeps (fun _ => False) w w') : WordsAt w' base b s g v ops :=
 ⟨hk.heap h.blk (fun h => h), hk.ownsRow h.own (fun _ _ h => h), h.low, h.ne⟩

theorem WordsAt.push {w4 w5 : World} {base bb s g n cap gg : Nat} {v : Value} {ops : List Wop} {o : Obj} {p : Wop} (h : WordsAt w4 base bb s g v ops) (hg : ((w4.alloc o).drew).grownBy w5 v.ownBlock) (hn : n = ops.length + 1)
  (hown : w5.ownsRow base 157 4 (.slice (some ⟨gg, 0, none⟩) n cap) n (wopCells ops ++ [.int .u32 (p.pre : Int), .int .u32 (p.add : Int), .int .u32 (p.del : Int), .int .i64 p.cost])) (hat : v.ownBlock = some gg ∨ gg = w4.heap.size + 1) :
  WordsAt (w5.setCell ⟨bb, 2, none⟩ (.slice (some ⟨gg, 0, none⟩) n cap)) base bb s g (.slice (some ⟨gg, 0, none⟩) n cap) (ops ++ [p]) := by
 have hb := grown_heap (w4 := w4) hg h.blk h.ne
 have hne : gg ≠ bb := by
  rcases hat with e | e
  ·intro e'; exact h.ne (by rw [e, e'])
  ·have := lt_of_heap h.blk; omega
 refine ⟨by rw [blk_set_same hb]; rfl, ?_, h.low, by simpa [Value.ownBlock] using hne⟩
 have hk : Keeps (fun b => b = bb) w5 (w5.setCell ⟨bb, 2, none⟩ (.slice (some ⟨gg, 0, none⟩) n cap)) := (Keeps.refl (fun b => b = bb) w5).setCell (p := ⟨bb, 2, none⟩) (.inl rfl) _
 have h2 : w5.ownsRow base 157 4 (.slice (some ⟨gg, 0, none⟩) n cap) (ops ++ [p]).length (wopCells (ops ++ [p])) := by
  rw [wopCells_append, List.length_append, show ops.length + [p].length = n by simp [hn]]; exact hown
 exact hk.ownsRow h2 (fun k hk e => by simp [Value.ownBlock] at hk; omega)

theorem WordsAt.pushKeeps {w2 w4 w5 : World} {bb s g : Nat} {v : Value} {ops : List Wop} {o : Obj} (h : WordsAt w4 bb bb s g v ops) (hg : ((w4.alloc o).drew).grownBy w5 v.ownBlock) (hb : w2.heap.size = bb) (hk : Keeps (fun _ => False) w2 w4) (u : Value) : Keeps (fun _ => False) w2 (w5.setCell ⟨bb, 2, none⟩ u) := by
 have h1 : Keeps (fun b => v.ownBlock = some b) (w4.alloc o).drew w5 := (Keeps.refl _ _).grown hg (fun k hk => .inl hk)
 have h2 : Keeps (fun _ => False) w2 w5 := (hk.trans ((Keeps.refl _ w4).alloc o).drew).trans' h1 (fun b e => .inr (by have := (World.ownsRow.lt h.own b e).1; omega))
 exact h2.setCell (p := ⟨bb, 2, none⟩) (.inr (by simp only; omega)) u

set_option maxHeartbeats 4000000 in
set_option maxRecDepth 100000 in
theorem of_any (w : World) (vi vg vo : Value) (t : Tsk) (h : TaskAt w vi vg vo t) (ok : t.Ok) :
  Calls Tryz.prog 66 #[.agg #[.int .i64 t.n, vi, vg, vo]] w fun e w' => ∃ b v, e = .returned (.pointer (some ⟨b, 0, none⟩)) ∧ WordsAt w' w.heap.size b (wd t.init) (wd t.goal) v (wordsOf t.ops) ∧ Keeps (fun _ => False) w w' := by
 obtain ⟨ai, ci, h1, _⟩ := h.init.form
 obtain ⟨ag, cg, h2, _⟩ := h.goal.form
 obtain ⟨ao, co, h3, hmo⟩ := h.ops.form
 subst h1 h2 h3
 have K1 := (Keeps.refl (fun _ => False) w).alloc (.cells #[.int .i64 t.n, .slice ai t.init.length ci, .slice ag t.goal.length cg, .slice ao t.ops.length co] 25)
 have HT := h.keeps0 K1
 have HB := Four.new w (.int .i64 t.n) (.slice ai t.init.length ci) (.slice ag t.goal.length cg) (.slice ao t.ops.length co) 25
 replace HT := Lib.hid HT; replace HB := Lib.hid HB; have OK := Lib.hid ok; have K1 := Lib.hid K1
 clear h ok
 go_enter Tryz.func66, Tryz.ntmps66
 go_upto_region 1 with fail
 generalize (w.alloc (.cells #[.int .i64 t.n, .slice ai t.init.length ci, .slice ag t.goal.length cg, .slice ao t.ops.length co] 25)) = w1 at HT HB K1 ⊢
 obtain ⟨d0, d1, d2, d3⟩ := HB.out
 have hbx := HB.out.lt
 have BI := Lib.hid (set_bound OK.out.init OK.out.n1); have BG := Lib.hid (set_bound OK.out.goal OK.out.n1)
 go_still_tail 7, (by kernel_rfl)
 still_call (word_still (HT.out.init.keeps0 ((Keeps.refl _ _).drew)) BI.out)
 repeat still_step
 still_call (word_still (HT.out.goal.keeps0 ((Keeps.refl _ _).drew)) BG.out)
 repeat still_step
 refine wpStill_nil ?_
 change wpList _ _ _ _ _ w1.drew
 have K2 := Lib.hid (K1.out.drew)
 have HT2 := Lib.hid (HT.out.keeps0 ((Keeps.refl _ _).drew))
 have HB2 := Lib.hid (HB.out.keeps0 ((Keeps.refl _ _).drew))
 generalize w1.drew = w2 at K2 HT2 HB2 ⊢
 clear d0 d1 d2 d3 hbx
 obtain ⟨d0, d1, d2, d3⟩ := HB2.out
 have hbx := HB2.out.lt
 obtain ⟨i0, hi0, hz0, hz1, hz2⟩ := info_parts Tryz.info_mask
 have HC := Lib.hid (HT2.out.ops.cell rfl)
 go_wp2_with fail
 obtain ⟨bb, hbb⟩ : ∃ bb, w2.heap.size = bb := ⟨_, rfl⟩
 have HS : Hid (WordsAt (w2.alloc (.cells #[.int .u32 ((wd t.init : Nat) : Int), .int .u32 ((wd t.goal : Nat) : Int), .slice none 0 0] 114)) bb bb (wd t.init) (wd t.goal) (.slice none 0 0) (wordsOf (t.ops.take 0)) ∧ Keeps (fun _ => False) w2 (w2.alloc (.cells #[.int .u32 ((wd t.init : Nat) : Int), .int .u32 ((wd t.goal : Nat) : Int), .slice none 0 0] 114))) :=
  ⟨⟨by rw [← hbb]; exact heap_alloc_new _ _, World.ownsRow_nil _ _ _ _, Nat.le_refl _, by simp [Value.ownBlock]⟩, (Keeps.refl _ _).alloc _⟩
 rw [hbb]
 have HBB := Lib.hid hbb
 clear hbb
 generalize (w2.alloc (.cells #[.int .u32 ((wd t.init : Nat) : Int), .int .u32 ((wd t.goal : Nat) : Int), .slice none 0 0] 114)) = w3 at HS ⊢
 go_loopw [17] (fun i wr => ∃ k : Nat, k ≤ t.ops.length ∧ i = .int .i64 (k : Int) ∧ (∃ v, WordsAt wr bb bb (wd t.init) (wd t.goal) v (wordsOf (t.ops.take k))) ∧ Keeps (fun _ => False) w2 wr) (fun i _ => t.ops.length - (intOf i).toNat)
 case atStart => exact ⟨0, Nat.zero_le _, rfl, ⟨_, HS.out.1⟩, HS.out.2⟩
 case round =>
  obtain ⟨k, hk, rfl, ⟨v, hw⟩, hkw⟩ := hrel
  have HW := Lib.hid hw; have KW := Lib.hid hkw
  clear hw hkw
  by_cases hlt : k < t.ops.length
  ·obtain ⟨bo, oo, rfl, hcell⟩ := HC.out (by omega)
   obtain ⟨o, ho⟩ : ∃ o, t.ops[k]? = some o := ⟨_, List.getElem?_eq_getElem hlt⟩
   obtain ⟨va, vb, vc, p0, p1, p2, p3, i1, i2, i3⟩ := hcell k o ho
   have hom := OK.out.ops o (List.mem_of_getElem? ho)
   have U1 := Lib.hid (set_bound hom.pre OK.out.n1); have U2 := Lib.hid (set_bound hom.add OK.out.n1); have U3 := Lib.hid (set_bound hom.del OK.out.n1)
   have HTK := Lib.hid (take_getS ho)
   have q0 := KW.out.cell p0 (fun h => h)
   have q1 := KW.out.cell p1 (fun h => h)
   have q2 := KW.out.cell p2 (fun h => h)
   have q3 := KW.out.cell p3 (fun h => h)
   obtain ⟨a1, k1, f1, _⟩ := i1.form
   obtain ⟨a2, k2, f2, _⟩ := i2.form
   obtain ⟨a3, k3, f3, _⟩ := i3.form
   subst f1 f2 f3
   have K4 := (Keeps.refl (fun _ => False) wr).alloc (.cells #[.slice a1 o.pre.length k1, .slice a2 o.add.length k2, .slice a3 o.del.length k3, .int .i64 o.cost] 80)
   have HO4 := Four.new wr (.slice a1 o.pre.length k1) (.slice a2 o.add.length k2) (.slice a3 o.del.length k3) (.int .i64 o.cost) 80
   have I1 := Lib.hid (i1.keeps0 (KW.out.trans K4)); have I2 := Lib.hid (i2.keeps0 (KW.out.trans K4)); have I3 := Lib.hid (i3.keeps0 (KW.out.trans K4))
   clear hcell ho hom p0 p1 p2 p3 i1 i2 i3
   go_upto_region 5 with fail
   have KW4 := Lib.hid (KW.out.trans K4)
   have HO4' := Lib.hid HO4
   have HW4 := Lib.hid (HW.out.keeps0 K4)
   clear K4 HO4
   obtain ⟨b4, hb4⟩ : ∃ b4, wr.heap.size = b4 := ⟨_, rfl⟩
   rw [hb4] at HO4' ⊢
   have hv4 : v.ownBlock ≠ some b4 := fun e => by have := (World.ownsRow.lt HW.out.own b4 e).2; omega
   have hbb4 : b4 ≠ bb := by have := lt_of_heap HW.out.blk; omega
   have HNE := Lib.hid hbb4
   clear q0 q1 q2 q3 hb4 hbb4
   generalize (wr.alloc (.cells #[.slice a1 o.pre.length k1, .slice a2 o.add.length k2, .slice a3 o.del.length k3, .int .i64 o.cost] 80)) = w4 at KW4 HO4' HW4 I1 I2 I3 ⊢
   obtain ⟨c0, c1, c2, c3⟩ := HO4'.out
   have g2 : w4.cell? ⟨bb, 2, none⟩ = some v := by rw [cell_of_blk HW4.out.blk]; rfl
   have gz : w4.frozen? ⟨bb, 2, none⟩ = false := frozen_of_blk HW4.out.blk
   have gl := lt_of_heap HW4.out.blk
   have hg4 := HO4'.out.lt
   have hbb4 := HNE.out
   have J1 := Lib.hid (word_still (I1.out.keeps0 ((Keeps.refl _ _).drew)) U1.out)
   have J2 := Lib.hid (word_still (I2.out.keeps0 ((Keeps.refl _ _).drew)) U2.out)
   have J3 := Lib.hid (word_still (I3.out.keeps0 ((Keeps.refl _ _).drew)) U3.out)
   have hnb : (wordsOf (t.ops.take k)).length ≤ 40 := by unfold wordsOf; simp; have := OK.out.few; omega
   have hbase : bb ≤ w4.heap.size := by omega
   have e1 := World.new_ne w4 ⟨bb, 2, none⟩ g2
   refine wp_region_L (by kernel_rfl) (fun w' => w'.cell? ⟨bb, 2, none⟩ = some v ∧ w'.cell? ⟨b4, 0, none⟩ = some (.slice a1 o.pre.length k1) ∧ w'.cell? ⟨b4, 1, none⟩ = some (.slice a2 o.add.length k2) ∧ w'.cell? ⟨b4, 2, none⟩ = some (.slice a3 o.del.length k3) ∧ w'.cell? ⟨b4, 3, none⟩ = some (.int .i64 o.cost)) [0, 1, 2, 3, 4, 5, 6, 8, 9, 11, 12, 14, 15, 16] ?_
   have hS : w4.drew.cell? ⟨bb, 2, none⟩ = some v ∧ w4.drew.cell? ⟨b4, 0, none⟩ = some (.slice a1 o.pre.length k1) ∧ w4.drew.cell? ⟨b4, 1, none⟩ = some (.slice a2 o.add.length k2) ∧ w4.drew.cell? ⟨b4, 2, none⟩ = some (.slice a3 o.del.length k3) ∧ w4.drew.cell? ⟨b4, 3, none⟩ = some (.int .i64 o.cost) := ⟨g2, c0, c1, c2, c3⟩
   refine wpAnyL_take (i := 0) (v := ?_) rfl (by decide) (by kernel_rfl) (by kernel_rfl) (by kernel_rfl) (fun _ _ _ h => h) rfl ?_ hS ?_
   rotate_left
   ·(intro w' hSw; obtain ⟨t0, t1, t2, t3, t4⟩ := hSw; go_simp; try with_reducible rfl)
   try simp only [Act.put, List.setIfInBounds_toArray]
   refine wpAnyL_take (i := 1) (v := ?_) rfl (by decide) (by kernel_rfl) (by kernel_rfl) (by kernel_rfl) (fun _ _ _ h => h) rfl ?_ hS ?_
   rotate_left
   ·(intro w' hSw; obtain ⟨t0, t1, t2, t3, t4⟩ := hSw; go_simp; try with_reducible rfl)
   try simp only [Act.put]
   refine wpAnyL_take (i := 2) (v := ?_) rfl (by decide) (by kernel_rfl) (by kernel_rfl) (by kernel_rfl) (fun _ _ _ h => h) rfl ?_ hS ?_
   rotate_left
   ·(intro w' hSw; obtain ⟨t0, t1, t2, t3, t4⟩ := hSw; go_simp; try with_reducible rfl)
   try simp only [Act.put]
   refine wpAnyL_take (i := 3) (v := ?_) rfl (by decide) (by kernel_rfl) (by kernel_rfl) (by kernel_rfl) (fun _ _ _ h => h) rfl ?_ hS ?_
   rotate_left
   ·(intro w' hSw; obtain ⟨t0, t1, t2, t3, t4⟩ := hSw; go_simp; try with_reducible rfl)
   try simp only [Act.put]
   refine wpAnyL_take (i := 4) (v := ?_) rfl (by decide) (by kernel_rfl) (by kernel_rfl) (by kernel_rfl) (fun _ _ _ h => h) rfl ?_ hS ?_
   rotate_left
   ·(intro w' hSw; obtain ⟨t0, t1, t2, t3, t4⟩ := hSw; go_simp; try with_reducible rfl)
   try simp only [Act.put]
   refine wpAnyL_take (i := 5) (v := ?_) rfl (by decide) (by kernel_rfl) (by kernel_rfl) (by kernel_rfl) (fun _ _ _ h => h) rfl ?_ hS ?_
   rotate_left
   ·(intro w' hSw; obtain ⟨t0, t1, t2, t3, t4⟩ := hSw; go_simp; try with_reducible rfl)
   try simp only [Act.put]
   refine wpAnyL_take (i := 6) (v := ?_) rfl (by decide) (by kernel_rfl) (by kernel_rfl) (by kernel_rfl) (fun _ _ _ h => h) rfl ?_ hS ?_
   rotate_left
   ·(intro w' hSw; obtain ⟨t0, t1, t2, t3, t4⟩ := hSw; go_simp; try with_reducible rfl)
   try simp only [Act.put]
   refine wpAnyL_take (i := 8) (v := ?_) rfl (by decide) (by kernel_rfl) (by kernel_rfl) (by kernel_rfl) (fun _ _ _ h => h) rfl ?_ hS ?_
   rotate_left
   ·(intro w' hSw; obtain ⟨t0, t1, t2, t3, t4⟩ := hSw; go_simp; try with_reducible rfl)
   try simp only [Act.put]
   refine wpAnyL_take (i := 9) (v := ?_) rfl (by decide) (by kernel_rfl) (by kernel_rfl) (by kernel_rfl) (fun _ _ _ h => h) rfl ?_ hS ?_
   rotate_left
   ·(intro w' hSw; obtain ⟨t0, t1, t2, t3, t4⟩ := hSw; go_simp; try with_reducible rfl)
   try simp only [Act.put]
   refine wpAnyL_take (i := 11) (v := ?_) rfl (by decide) (by kernel_rfl) (by kernel_rfl) (by kernel_rfl) (fun _ _ _ h => h) rfl ?_ hS ?_
   rotate_left
   ·(intro w' hSw; obtain ⟨t0, t1, t2, t3, t4⟩ := hSw; go_simp; try with_reducible rfl)
   try simp only [Act.put]
   refine wpAnyL_take (i := 12) (v := ?_) rfl (by decide) (by kernel_rfl) (by kernel_rfl) (by kernel_rfl) (fun _ _ _ h => h) rfl ?_ hS ?_
   rotate_left
   ·(intro w' hSw; obtain ⟨t0, t1, t2, t3, t4⟩ := hSw; go_simp; try with_reducible rfl)
   try simp only [Act.put]
   refine wpAnyL_take (i := 14) (v := ?_) rfl (by decide) (by kernel_rfl) (by kernel_rfl) (by kernel_rfl) (fun _ _ _ h => h) rfl ?_ hS ?_
   rotate_left
   ·(intro w' hSw; obtain ⟨t0, t1, t2, t3, t4⟩ := hSw; go_simp; try with_reducible rfl)
   try simp only [Act.put]
   refine wpAnyL_take (i := 15) (v := ?_) rfl (by decide) (by kernel_rfl) (by kernel_rfl) (by kernel_rfl) (fun _ _ _ h => h) rfl ?_ hS ?_
   rotate_left
   ·(intro w' hSw; obtain ⟨t0, t1, t2, t3, t4⟩ := hSw; go_simp; try with_reducible rfl)
   try simp only [Act.put]
   refine wpAnyL_one (i := 7) rfl (by kernel_rfl) (fun K hK => ?_)
   go_simp
   refine J1.out.mono ?_; rintro e w' ⟨rfl, rfl⟩
   refine hK _ _ hS ?_
   clear hK K
   try simp only [Act.put, List.setIfInBounds_toArray, List.set_cons_zero, List.set_cons_succ]
   refine wpAnyL_one (i := 10) rfl (by kernel_rfl) (fun K hK => ?_)
   go_simp
   refine J2.out.mono ?_; rintro e w' ⟨rfl, rfl⟩
   refine hK _ _ hS ?_
   clear hK K
   try simp only [Act.put, List.setIfInBounds_toArray, List.set_cons_zero, List.set_cons_succ]
   refine wpAnyL_one (i := 13) rfl (by kernel_rfl) (fun K hK => ?_)
   go_simp
   refine J3.out.mono ?_; rintro e w' ⟨rfl, rfl⟩
   refine hK _ _ hS ?_
   clear hK K
   try simp only [Act.put, List.setIfInBounds_toArray, List.set_cons_zero, List.set_cons_succ]
   refine wpAnyL_take (i := 16) (v := ?_) rfl (by decide) (by kernel_rfl) (by kernel_rfl) (by kernel_rfl) (fun _ _ _ h => h) rfl ?_ hS ?_
   rotate_left
   ·(intro w' hSw; obtain ⟨t0, t1, t2, t3, t4⟩ := hSw; go_simp; try with_reducible rfl)
   try simp only [Act.put, List.setIfInBounds_toArray]
   refine wpAnyL_one (i := 17) rfl (by kernel_rfl) (fun K hK => ?_)
   go_simp
   refine hK _ _ ?_ ?_
   ·obtain ⟨t0, t1, t2, t3, t4⟩ := hS
    have kk := (Keeps.refl (fun _ => False) w4.drew).alloc (.cells #[.int .u32 ((wd o.pre : Nat) : Int), .int .u32 ((wd o.add : Nat) : Int), .int .u32 ((wd o.del : Nat) : Int), .int .i64 o.cost] 157)
    exact ⟨kk.cell t0 (fun h => h), kk.cell t1 (fun h => h), kk.cell t2 (fun h => h), kk.cell t3 (fun h => h), kk.cell t4 (fun h => h)⟩
   clear hK K hS
   try simp only [Act.put, List.setIfInBounds_toArray, List.set_cons_zero, List.set_cons_succ]
   refine wpAnyL_one (i := 18) rfl (by kernel_rfl) (fun K hK => ?_)
   refine step_append_lies _ (by rfl) (.tmp 25) (.tmp 38) 112 (by rfl) bb 157 i0 _ 4 24 Tryz.underlying112 hi0 hz0 hz1 hz2 rfl (by omega) v (wordsOf (t.ops.take k)).length (wopCells (wordsOf (t.ops.take k))) (by rfl) ((HW4.out.own.drew).alloc _) ⟨w4.heap.size, 0, none⟩ 1 1 [.int .u32 ((wd o.pre : Nat) : Int), .int .u32 ((wd o.add : Nat) : Int), .int .u32 ((wd o.del : Nat) : Int), .int .i64 o.cost] (by rfl) (by rfl) (World.news_of_block (cs := #[.int .u32 ((wd o.pre : Nat) : Int), .int .u32 ((wd o.add : Nat) : Int), .int .u32 ((wd o.del : Nat) : Int), .int .i64 o.cost]) (t := 157) (fr := (0, 0)) (heap_alloc_new w4.drew _)) (by simp [Value.oneCell']) (by omega) (by unfold maxLen; omega) (by omega) (by simp; omega) (w4.heap.size + 1) (by simp) ?_
   intro g cap w5 hown hgrow hat hlt5
   have s0 := grown_cell (w4 := w4) hgrow g2 HW4.out.ne
   have s1 := grown_cell (w4 := w4) hgrow c0 hv4
   have s2 := grown_cell (w4 := w4) hgrow c1 hv4
   have s3 := grown_cell (w4 := w4) hgrow c2 hv4
   have s4 := grown_cell (w4 := w4) hgrow c3 hv4
   have sb := Lib.hid (grown_heap (w4 := w4) hgrow HW4.out.blk HW4.out.ne)
   have sz := frozen_of_blk (o := 2) sb.out
   have sl := lt_of_heap sb.out
   refine hK _ _ ⟨s0, s1, s2, s3, s4⟩ ?_
   clear hK K s1 s2 s3 s4
   try simp only [Act.put, List.setIfInBounds_toArray]
   refine wpAnyL_late (i := 19) rfl (by kernel_rfl) (by kernel_rfl) (fun K hK => ?_)
   go_simp
   refine hK _ _ ?_
   clear hK K
   refine wpAnyL_late (i := 20) rfl (by kernel_rfl) (by kernel_rfl) (fun K hK => ?_)
   go_simp
   refine hK _ _ ?_
   clear hK K
   refine wpAnyL_late (i := 21) rfl (by kernel_rfl) (by kernel_rfl) (fun K hK => ?_)
   go_simp
   refine hK _ _ ?_
   clear hK K
   refine wpAnyL_done (by kernel_rfl) ?_ _
   have HN := Lib.hid (show WordsAt (w5.setCell ⟨bb, 2, none⟩ (.slice (some ⟨g, 0, none⟩) ((wordsOf (t.ops.take k)).length + 1) cap)) bb bb (wd t.init) (wd t.goal) (.slice (some ⟨g, 0, none⟩) ((wordsOf (t.ops.take k)).length + 1) cap) (wordsOf (t.ops.take (k + 1))) by
    have e : wordsOf (t.ops.take (k + 1)) = wordsOf (t.ops.take k) ++ [o.word] := by rw [HTK.out]; unfold wordsOf; simp
    rw [e]
    exact WordsAt.push (w4 := w4) (p := o.word) HW4.out hgrow rfl hown hat)
   have HKN := Lib.hid (WordsAt.pushKeeps (w4 := w4) HW4.out hgrow HBB.out KW4.out (.slice (some ⟨g, 0, none⟩) ((wordsOf (t.ops.take k)).length + 1) cap))
   clear hown hgrow hat s0 sz sl
   generalize (w5.setCell ⟨bb, 2, none⟩ (.slice (some ⟨g, 0, none⟩) ((wordsOf (t.ops.take k)).length + 1) cap)) = w6 at HN HKN ⊢
   go_wp2_with fail
   go_roundw
   case rel => exact ⟨k + 1, by omega, by go_num, ⟨_, HN.out⟩, HKN.out⟩
   case measure => simp [intOf]; omega
  ·obtain rfl : k = t.ops.length := by omega
   have hf := HW.out
   rw [List.take_length] at hf
   have HFIN := Lib.hid (show WordsAt wr w.heap.size bb (wd t.init) (wd t.goal) v (wordsOf t.ops) from ⟨hf.blk, ownsRow_mono4 hf.own (by have := K2.out.size; have := HBB.out; omega), by have := K2.out.size; have := HBB.out; omega, hf.ne⟩)
   clear hf
   go_wp2_with fail
   go_ret
   exact ⟨bb, v, rfl, HFIN.out, K2.out.trans KW.out⟩

end Go.Proofs.YtdokakhgflljgaaGreat
