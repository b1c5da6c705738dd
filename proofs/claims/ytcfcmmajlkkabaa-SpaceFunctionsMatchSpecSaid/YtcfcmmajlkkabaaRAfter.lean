/- The reference's Word, Subset, StateOk, Applies. -/
import Derived.Test.YtcfcmmajlkkabaaWord
import Derived.Test.YtcfcmmajlkkabaaTaskW
import Derived.Test.YtcfcmmajlkkabaaFaultW
namespace Go.Proofs.Ytcfcmmajlkkabaa
open Go.RowKit

theorem wd_small {l : List Int} {p : Nat} (h : ∀ x ∈ l, 0 ≤ x ∧ x < (p : Int)) : wd l ||| 2 ^ p = wd l + 2 ^ p := by
  have := Nat.two_pow_add_eq_or_of_lt (i := p) (b := wd l) (wd_lt h) 1
  rw [Nat.mul_one] at this
  rw [Nat.or_comm, ← this, Nat.add_comm]

theorem wrap64_small {n : Nat} (h : n < 9223372036854775808) : wrap64 (n : Int) = (n : Int) := by
  unfold wrap64
  omega

set_option maxRecDepth 100000 in
set_option maxHeartbeats 1000000 in
theorem rword_any (w : World) (v : Value) (l : List Int) (h : Ints w v l) (hl : isSetB l 32 = true) :
    Calls Try.prog 63 #[v] w fun e w' => e = .returned (.int .i64 (wd l : Nat)) ∧ w = w' := by
  obtain ⟨ao, ca, hv, ma⟩ := h.form
  have CA := Lib.hid (h.cell hv)
  have HL := Lib.hid hl
  subst hv
  clear h hl
  go_enter Try.func63, Try.ntmps63
  go_wp2_with fail
  go_loop [3, 4] (fun u i => ∃ k : Nat, k ≤ l.length ∧ i = .int .i64 (k : Int) ∧ u = .int .i64 (wd (l.take k) : Nat)) (fun _ i => l.length - (intOf i).toNat)
  case atStart => exact ⟨0, Nat.zero_le _, rfl, rfl⟩
  case round =>
    obtain ⟨k, hk, rfl, rfl⟩ := hrel
    by_cases hlt : k < l.length
    · obtain ⟨ba, oa, rfl, ha'⟩ := CA.out (by omega)
      obtain ⟨x, hx⟩ : ∃ x, l[k]? = some x := ⟨_, List.getElem?_eq_getElem hlt⟩
      have ha1 := ha' k _ hx
      obtain ⟨hr, hp⟩ := isSet_iff.1 HL.out
      have hb := hr x (List.mem_of_getElem? hx)
      have hsm : ∀ y ∈ l.take k, 0 ≤ y ∧ y < (x.toNat : Int) := by
        intro y hy
        have h1 := hr y (List.mem_of_mem_take hy)
        obtain ⟨j, hj⟩ := List.mem_iff_getElem?.1 hy
        rw [List.getElem?_take] at hj
        split at hj
        · rename_i hjk
          obtain ⟨l1, e1⟩ := List.getElem?_eq_some_iff.1 hj
          obtain ⟨l2, e2⟩ := List.getElem?_eq_some_iff.1 hx
          have := List.pairwise_iff_getElem.1 hp j k l1 l2 hjk
          rw [e1, e2] at this
          omega
        · cases hj
      have e2 : wd (l.take (k + 1)) = wd (l.take k) + 2 ^ x.toNat := by
        rw [← wd_small hsm, take_getS hx, wd_append, Nat.or_comm]; simp [wd]
      have hlt32 : wd (l.take (k + 1)) < 4294967296 := wd_take_lt hr (k + 1)
      have hb0 := hb.1
      have hpw : (2 : Nat) ^ x.toNat < 4294967296 := show (2 : Nat) ^ x.toNat < 2 ^ 32 from Nat.pow_lt_pow_right (by decide) (by omega)
      have hpc : ((2 : Int) ^ x.toNat) = ((2 ^ x.toNat : Nat) : Int) := by simp
      have H1 := Lib.hid e2; have H2 := Lib.hid hlt32; have H3 := Lib.hid hpw; have H4 := Lib.hid hpc
      clear ha' hx e2 hlt32 hr hp hsm hpw hpc
      go_wp2_with fail
      go_round
      case rel =>
        refine ⟨k + 1, by omega, by go_num, ?_⟩
        rw [H4.out, wrap64_small (by have := H3.out; omega), H1.out]
        congr 1
        rw [← Int.natCast_add, wrap64_small (by rw [← H1.out]; have := H2.out; omega)]
      case measure => simp [intOf]; omega
    · have hf : Hid (wd (l.take k) = wd l) := by unfold Hid; rw [List.take_of_length_le (by omega)]
      go_wp2_with fail
      go_ret
      exact ⟨congrArg (fun u : Nat => Ending.returned (Value.int .i64 (u : Int))) hf.out, rfl⟩

/-! ### Subset -/
def subB (a b : List Int) : Bool := a.all fun x => b.contains x

set_option maxHeartbeats 1000000 in
theorem subset_any (w : World) (va vb : Value) (a b : List Int) (ha : Ints w va a) (hb : Ints w vb b) :
    Calls Try.prog 51 #[va, vb] w fun e w' => e = .returned (.bool (subB a b)) ∧ w = w' := by
  obtain ⟨ao, ca, hv, ma⟩ := ha.form
  have CA := Lib.hid (ha.cell hv)
  have HB := Lib.hid hb
  obtain ⟨bo, cb, hvb, mb⟩ := hb.form
  subst hv hvb
  clear ha hb
  go_enter Try.func51, Try.ntmps51
  go_wp2_with fail
  go_loop [5] (fun i => ∃ k : Nat, k ≤ a.length ∧ i = .int .i64 (k : Int) ∧ subB (a.take k) b = true) (fun i => a.length - (intOf i).toNat)
  case atStart => exact ⟨0, Nat.zero_le _, rfl, rfl⟩
  case round =>
    obtain ⟨k, hk, rfl, ht⟩ := hrel
    have HT := Lib.hid ht; clear ht
    by_cases hlt : k < a.length
    · obtain ⟨ba, oa, rfl, ha'⟩ := CA.out (by omega)
      obtain ⟨x, hx⟩ : ∃ x, a[k]? = some x := ⟨_, List.getElem?_eq_getElem hlt⟩
      have ha1 := ha' k _ hx
      have HX := Lib.hid hx
      clear ha' hx
      have e2 := take_getS HX.out
      by_cases hm : x ∈ b
      · have HN : Hid (subB (a.take (k + 1)) b = true) := by
          unfold Hid
          rw [e2]
          have := HT.out
          unfold subB at this ⊢
          rw [List.all_append, this]
          simp [hm]
        have HD := Lib.hid (decide_eq_true hm)
        clear hm e2
        go_wp2_with fail
        refine (has_any _ _ _ _ HB.out).mono ?_; rintro e w1 ⟨rfl, rfl⟩
        rw [HD.out]
        go_wp2_with fail
        go_round
        case rel => exact ⟨k + 1, by omega, by go_num, HN.out⟩
        case measure => simp [intOf]; omega
      · have hf : Hid (subB a b = false) := by
          unfold Hid subB
          rw [List.all_eq_false]
          exact ⟨x, List.mem_of_getElem? HX.out, by simp [hm]⟩
        have HD := Lib.hid (decide_eq_false hm)
        clear hm e2
        go_wp2_with fail
        refine (has_any _ _ _ _ HB.out).mono ?_; rintro e w1 ⟨rfl, rfl⟩
        rw [HD.out]
        go_wp2_with fail
        go_ret
        exact ⟨congrArg (fun b => Ending.returned (Value.bool b)) hf.out.symm, rfl⟩
    · have hf : Hid (subB a b = true) := by
        have := HT.out
        rw [List.take_of_length_le (by omega)] at this
        exact this
      go_wp2_with fail
      go_ret
      exact ⟨congrArg (fun b => Ending.returned (Value.bool b)) hf.out.symm, rfl⟩

/-! ### Applies -/
set_option maxHeartbeats 1000000 in
theorem applies_any (w : World) (vi vg vo vs : Value) (t : Tsk) (s : List Int) (k : Nat) (o : Opr) (h : TaskAt w vi vg vo t) (hs : Ints w vs s) (hk : t.ops[k]? = some o) :
    Calls Try.prog 31 #[.agg #[.int .i64 t.n, vi, vg, vo], vs, .int .i64 (k : Int)] w fun e w' => e = .returned (.bool (appL o s)) ∧ Keeps (fun _ => False) w w' := by
  obtain ⟨ai, ci, h1, _⟩ := h.init.form
  obtain ⟨ag, cg, h2, _⟩ := h.goal.form
  obtain ⟨ao, co, h3, hmo⟩ := h.ops.form
  obtain ⟨aa, cs, h4, _⟩ := hs.form
  subst h1 h2 h3 h4
  have hlt : k < t.ops.length := (List.getElem?_eq_some_iff.1 hk).1
  have K1 := (Keeps.refl (fun _ => False) w).alloc (.cells #[.int .i64 t.n, .slice ai t.init.length ci, .slice ag t.goal.length cg, .slice ao t.ops.length co] 25)
  have HT := h.keeps0 K1
  have HSS := Lib.hid (show Ints _ (.slice aa s.length cs) s from hs.keeps0 K1)
  have HB := (Four.new w (.int .i64 t.n) (.slice ai t.init.length ci) (.slice ag t.goal.length cg) (.slice ao t.ops.length co) 25)
  obtain ⟨bo, off, rfl, hcell⟩ := HT.ops.cell rfl (by omega)
  obtain ⟨va, vb, vc, c0, c1, c2, c3, ia, ib, ic⟩ := hcell k o hk
  obtain ⟨pa, pc, hpa, _⟩ := ia.form
  have HIA := Lib.hid ia; have HK := Lib.hid K1
  clear h hs HT hcell ia ib ic c1 c2 c3 hk K1
  go_enter Try.func31, Try.ntmps31
  go_upto_region 1 with fail
  generalize (w.alloc (.cells #[.int .i64 t.n, .slice ai t.init.length ci, .slice ag t.goal.length cg, .slice (some ⟨bo, off, none⟩) t.ops.length co] 25)) = w1 at HB HSS c0 HIA HK ⊢
  obtain ⟨d0, d1, d2, d3⟩ := HB
  subst hpa
  go_wp2_with fail
  refine (subset_any _ _ _ _ _ HIA.out HSS.out).mono ?_; rintro e w2 ⟨rfl, rfl⟩
  go_wp2_with fail
  go_ret
  exact ⟨rfl, HK.out⟩

end Go.Proofs.Ytcfcmmajlkkabaa

/- The reference's After. -/
namespace Go.Proofs.Ytcfcmmajlkkabaa
open Go.RowKit

def aftP (o : Opr) (s : List Int) (x : Int) : Bool := decide (x ∈ o.add) || (decide (x ∈ s) && !decide (x ∈ o.del))
/-- The facts behind an operator, below k. -/
def aftTo (o : Opr) (s : List Int) (k : Nat) : List Int := ((List.range k).map fun p : Nat => (p : Int)).filter (aftP o s)
theorem aftTo_succ (o : Opr) (s : List Int) (k : Nat) : aftTo o s (k + 1) = if aftP o s k = true then aftTo o s k ++ [(k : Int)] else aftTo o s k := by
  unfold aftTo
  rw [List.range_succ, List.map_append, List.filter_append]
  cases h : aftP o s k <;> simp [h]
theorem aftTo_le (o : Opr) (s : List Int) (k : Nat) : (aftTo o s k).length ≤ k := by
  unfold aftTo
  refine Nat.le_trans (List.length_filter_le _ _) (by simp)
theorem aftTo_aftL {n : Int} (h0 : 0 ≤ n) (o : Opr) (s : List Int) : aftTo o s n.toNat = aftL n o s := by
  refine sorted_ext ?_ (isSet_iff.1 (isSet_aftL n o s)).2 fun x => ?_
  · unfold aftTo
    refine List.Pairwise.sublist List.filter_sublist ?_
    rw [List.pairwise_map]
    refine List.Pairwise.imp ?_ (List.pairwise_lt_range (n := n.toNat))
    intro a b h; omega
  · rw [mem_aftL]
    unfold aftTo aftP
    simp only [List.mem_filter, List.mem_map, List.mem_range, Bool.or_eq_true, Bool.and_eq_true, Bool.not_eq_true', decide_eq_true_eq, decide_eq_false_iff_not]
    constructor
    · rintro ⟨⟨p, hp, rfl⟩, h⟩; exact ⟨⟨by omega, by omega⟩, h⟩
    · rintro ⟨⟨h1, h2⟩, h⟩; exact ⟨⟨x.toNat, by omega, by omega⟩, h⟩

set_option maxRecDepth 100000 in
set_option maxHeartbeats 2000000 in
theorem after_any (w : World) (vi vg vo vs : Value) (t : Tsk) (s : List Int) (k : Nat) (o : Opr) (h : TaskAt w vi vg vo t) (hs : Ints w vs s) (hk : t.ops[k]? = some o) (hn0 : 0 ≤ t.n) (hn1 : t.n ≤ 1000) :
    Calls Try.prog 32 #[.agg #[.int .i64 t.n, vi, vg, vo], vs, .int .i64 (k : Int)] w fun e w' => ∃ v, e = .returned v ∧ w'.ownsRow w.heap.size 3 1 v (aftL t.n o s).length ((aftL t.n o s).map (Value.int .i64)) ∧ Keeps (fun _ => False) w w' := by
  obtain ⟨i0, hi0, hz0, hz1, hz2⟩ := info_parts Try.info3
  obtain ⟨ai, ci, h1, _⟩ := h.init.form
  obtain ⟨ag, cg, h2, _⟩ := h.goal.form
  obtain ⟨ao, co, h3, hmo⟩ := h.ops.form
  obtain ⟨aa, cs, h4, _⟩ := hs.form
  subst h1 h2 h3 h4
  have hlt : k < t.ops.length := (List.getElem?_eq_some_iff.1 hk).1
  have K1 := (Keeps.refl (fun _ => False) w).alloc (.cells #[.int .i64 t.n, .slice ai t.init.length ci, .slice ag t.goal.length cg, .slice ao t.ops.length co] 25)
  have HT := h.keeps0 K1
  have HSS := Lib.hid (show Ints _ (.slice aa s.length cs) s from hs.keeps0 K1)
  have HB := Lib.hid (Four.new w (.int .i64 t.n) (.slice ai t.init.length ci) (.slice ag t.goal.length cg) (.slice ao t.ops.length co) 25)
  obtain ⟨bo, off, rfl, hcell⟩ := HT.ops.cell rfl (by omega)
  obtain ⟨va, vb, vc, c0, c1, c2, c3, ia, ib, ic⟩ := hcell k o hk
  obtain ⟨pb, pcb, hpb, _⟩ := ib.form
  obtain ⟨pc, pcc, hpc, _⟩ := ic.form
  subst hpb hpc
  have HIB := Lib.hid ib; have HIC := Lib.hid ic; have HK := Lib.hid K1; have HC1 := Lib.hid c1; have HC2 := Lib.hid c2
  clear h hs HT hcell ia ib ic c0 c1 c2 c3 hk K1
  go_enter Try.func32, Try.ntmps32
  go_upto_region 1 with fail
  generalize (w.alloc (.cells #[.int .i64 t.n, .slice ai t.init.length ci, .slice ag t.goal.length cg, .slice (some ⟨bo, off, none⟩) t.ops.length co] 25)) = w1 at HB HSS HC1 HC2 HIB HIC HK ⊢
  have hbx := HB.out.lt
  go_wp2_with fail
  go_loopw [7, 8] (fun v i wr => ∃ p : Nat, (p : Int) ≤ t.n ∧ i = .int .i64 (p : Int) ∧ wr.ownsRow w1.heap.size 3 1 v (aftTo o s p).length ((aftTo o s p).map (Value.int .i64)) ∧ Keeps (fun _ => False) w1 wr) (fun _ i _ => t.n.toNat - (intOf i).toNat)
  case atStart => exact ⟨0, by omega, rfl, World.ownsRow_nil _ _ _ _, Keeps.refl _ _⟩
  case round =>
    obtain ⟨p, hp, rfl, hown, hkw⟩ := hrel
    have HO := Lib.hid hown; have KW := Lib.hid hkw
    obtain ⟨d0, d1, d2, d3⟩ := HB.out.keeps0 hkw
    have hbr := (HB.out.keeps0 hkw).lt
    have b1 := hkw.cell HC1.out (fun h => h)
    have b2 := hkw.cell HC2.out (fun h => h)
    have SB := Lib.hid (show Ints wr (.slice pb o.add.length pcb) o.add from HIB.out.keeps0 hkw)
    have SC := Lib.hid (show Ints wr (.slice pc o.del.length pcc) o.del from HIC.out.keeps0 hkw)
    have SS := Lib.hid (show Ints wr (.slice aa s.length cs) s from HSS.out.keeps0 hkw)
    clear hown hkw
    have hle := aftTo_le o s p
    have hsz := KW.out.size
    have hszw := HK.out.size
    by_cases hlp : (p : Int) < t.n
    · obtain ⟨av, cv, hv⟩ := ownsRow_form1 HO.out
      subst hv
      by_cases ha : (p : Int) ∈ o.add
      · have HA := Lib.hid (decide_eq_true ha)
        have HS : Hid (aftTo o s (p + 1) = aftTo o s p ++ [(p : Int)]) := by unfold Hid; rw [aftTo_succ, if_pos (by simp [aftP, ha])]
        clear ha
        go_wp2_with fail
        refine (has_any _ _ _ _ SB.out).mono ?_; rintro e w3 ⟨rfl, rfl⟩
        rw [HA.out]
        go_wp2_with (at_builtin; refine wpList_append_d rfl _ _ _ rfl w1.heap.size 3 i0 _ 1 8 Try.underlying22 hi0 hz0 hz1 hz2 rfl (by omega) _ (aftTo o s p).length ((aftTo o s p).map (Value.int .i64)) (by rfl) (World.ownsRow.alloc HO.out (.cells #[.int .i64 (p : Int)] 3)) ⟨wr.heap.size, 0, none⟩ 1 1 [.int .i64 (p : Int)] (by rfl) (by rfl) ?hnews ?hone (by omega) (by unfold maxLen; omega) (by omega) (by simp; omega) (wr.heap.size + 1) (by simp) ?_)
        case hnews => exact World.news_of_block (cs := #[.int .i64 (p : Int)]) (t := 3) (fr := (0, 0)) (heap_alloc_new _ _)
        case hone => simp [Value.oneCell']
        intro gg cap2 w4 hown hgrow hat hlt4 hd4
        have HN := Lib.hid (show w4.ownsRow w1.heap.size 3 1 (.slice (some ⟨gg, 0, none⟩) ((aftTo o s p).length + 1) cap2) (aftTo o s (p + 1)).length ((aftTo o s (p + 1)).map (Value.int .i64)) by
          rw [HS.out, List.map_append, List.length_append]; exact hown)
        have HKN := Lib.hid (own_grown HO.out KW.out ((Keeps.refl _ wr).alloc (.cells #[.int .i64 (p : Int)] 3)) hgrow)
        clear hown hgrow hat hd4
        go_wp2_with fail
        go_roundw
        case rel => exact ⟨p + 1, by omega, by go_num, HN.out, HKN.out⟩
        case measure => simp [intOf]; omega
      · have HA := Lib.hid (decide_eq_false ha)
        by_cases hs : (p : Int) ∈ s
        · have HSD := Lib.hid (decide_eq_true hs)
          by_cases hd : (p : Int) ∈ o.del
          · have HDD := Lib.hid (decide_eq_true hd)
            have HS : Hid (aftTo o s (p + 1) = aftTo o s p) := by unfold Hid; rw [aftTo_succ, if_neg (by simp [aftP, ha, hd])]
            clear ha hs hd
            go_wp2_with fail
            refine (has_any _ _ _ _ SB.out).mono ?_; rintro e w3 ⟨rfl, rfl⟩
            rw [HA.out]
            go_wp2_with fail
            refine (has_any _ _ _ _ SS.out).mono ?_; rintro e w3 ⟨rfl, rfl⟩
            rw [HSD.out]
            go_wp2_with fail
            refine (has_any _ _ _ _ SC.out).mono ?_; rintro e w3 ⟨rfl, rfl⟩
            rw [HDD.out]
            go_wp2_with fail
            go_roundw
            case rel => exact ⟨p + 1, by omega, by go_num, by rw [HS.out]; exact HO.out, KW.out⟩
            case measure => simp [intOf]; omega
          · have HDD := Lib.hid (decide_eq_false hd)
            have HS : Hid (aftTo o s (p + 1) = aftTo o s p ++ [(p : Int)]) := by unfold Hid; rw [aftTo_succ, if_pos (by simp [aftP, hs, hd])]
            clear ha hs hd
            go_wp2_with fail
            refine (has_any _ _ _ _ SB.out).mono ?_; rintro e w3 ⟨rfl, rfl⟩
            rw [HA.out]
            go_wp2_with fail
            refine (has_any _ _ _ _ SS.out).mono ?_; rintro e w3 ⟨rfl, rfl⟩
            rw [HSD.out]
            go_wp2_with fail
            refine (has_any _ _ _ _ SC.out).mono ?_; rintro e w3 ⟨rfl, rfl⟩
            rw [HDD.out]
            go_wp2_with (at_builtin; refine wpList_append_d rfl _ _ _ rfl w1.heap.size 3 i0 _ 1 8 Try.underlying22 hi0 hz0 hz1 hz2 rfl (by omega) _ (aftTo o s p).length ((aftTo o s p).map (Value.int .i64)) (by rfl) (World.ownsRow.alloc HO.out (.cells #[.int .i64 (p : Int)] 3)) ⟨wr.heap.size, 0, none⟩ 1 1 [.int .i64 (p : Int)] (by rfl) (by rfl) ?hnews ?hone (by omega) (by unfold maxLen; omega) (by omega) (by simp; omega) (wr.heap.size + 1) (by simp) ?_)
            case hnews => exact World.news_of_block (cs := #[.int .i64 (p : Int)]) (t := 3) (fr := (0, 0)) (heap_alloc_new _ _)
            case hone => simp [Value.oneCell']
            intro gg cap2 w4 hown hgrow hat hlt4 hd4
            have HN := Lib.hid (show w4.ownsRow w1.heap.size 3 1 (.slice (some ⟨gg, 0, none⟩) ((aftTo o s p).length + 1) cap2) (aftTo o s (p + 1)).length ((aftTo o s (p + 1)).map (Value.int .i64)) by
              rw [HS.out, List.map_append, List.length_append]; exact hown)
            have HKN := Lib.hid (own_grown HO.out KW.out ((Keeps.refl _ wr).alloc (.cells #[.int .i64 (p : Int)] 3)) hgrow)
            clear hown hgrow hat hd4
            go_wp2_with fail
            go_roundw
            case rel => exact ⟨p + 1, by omega, by go_num, HN.out, HKN.out⟩
            case measure => simp [intOf]; omega
        · have HSD := Lib.hid (decide_eq_false hs)
          have HS : Hid (aftTo o s (p + 1) = aftTo o s p) := by unfold Hid; rw [aftTo_succ, if_neg (by simp [aftP, ha, hs])]
          clear ha hs
          go_wp2_with fail
          refine (has_any _ _ _ _ SB.out).mono ?_; rintro e w3 ⟨rfl, rfl⟩
          rw [HA.out]
          go_wp2_with fail
          refine (has_any _ _ _ _ SS.out).mono ?_; rintro e w3 ⟨rfl, rfl⟩
          rw [HSD.out]
          go_wp2_with fail
          go_roundw
          case rel => exact ⟨p + 1, by omega, by go_num, by rw [HS.out]; exact HO.out, KW.out⟩
          case measure => simp [intOf]; omega
    · have hpn : p = t.n.toNat := by omega
      have HE : Hid (aftTo o s p = aftL t.n o s) := by unfold Hid; rw [hpn]; exact aftTo_aftL hn0 o s
      clear hpn
      go_wp2_with fail
      go_ret
      refine ⟨_, rfl, ?_, HK.out.trans KW.out⟩
      have := HO.out
      rw [HE.out] at this
      exact ownsRow_mono this HK.out.size

end Go.Proofs.Ytcfcmmajlkkabaa
