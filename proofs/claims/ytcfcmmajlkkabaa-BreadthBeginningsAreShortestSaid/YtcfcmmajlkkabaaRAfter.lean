/- The reference's After. -/
import Derived.Test.YtcfcmmajlkkabaaRWord
namespace Go.Proofs.Ytcfcmmajlkkabaa
open Go.RowKit

def aftP (o : Opr) (s : List Int) (x : Int) : Bool := decide (x ∈ o.add) || (decide (x ∈ s) && !decide (x ∈ o.del))
/-- The facts behind an operator, below k. -/
def aftTo (o : Opr) (s : List Int) (k : Nat) : List Int := ((List.range k).map fun p : Nat => (p : Int)).filter (aftP o s)
theorem aftTo_succ (o : Opr) (s : List Int) (k : Nat) : aftTo o s (k + 1) = if aftP o s k = true then aftTo o s k ++ [(k : Int)] else aftTo o s k := by
  unfold aftTo
  rw [List.range_succ, List.map_append, List.filter_append]
  cases h : aftP o s k <;> simp [h]
theorem aftTo_le (o : Opr) (s : List Int) (k : Nat) : (aftTo o s k).length ≤ k := by
  unfold aftTo
  refine Nat.le_trans (List.length_filter_le _ _) (by simp)
theorem aftTo_aftL {n : Int} (h0 : 0 ≤ n) (o : Opr) (s : List Int) : aftTo o s n.toNat = aftL n o s := by
  refine sorted_ext ?_ (isSet_iff.1 (isSet_aftL n o s)).2 fun x => ?_
  · unfold aftTo
    refine List.Pairwise.sublist List.filter_sublist ?_
    rw [List.pairwise_map]
    refine List.Pairwise.imp ?_ (List.pairwise_lt_range (n := n.toNat))
    intro a b h; omega
  · rw [mem_aftL]
    unfold aftTo aftP
    simp only [List.mem_filter, List.mem_map, List.mem_range, Bool.or_eq_true, Bool.and_eq_true, Bool.not_eq_true', decide_eq_true_eq, decide_eq_false_iff_not]
    constructor
    · rintro ⟨⟨p, hp, rfl⟩, h⟩; exact ⟨⟨by omega, by omega⟩, h⟩
    · rintro ⟨⟨h1, h2⟩, h⟩; exact ⟨⟨x.toNat, by omega, by omega⟩, h⟩

set_option maxRecDepth 100000 in
set_option maxHeartbeats 2000000 in
theorem after_any (w : World) (vi vg vo vs : Value) (t : Tsk) (s : List Int) (k : Nat) (o : Opr) (h : TaskAt w vi vg vo t) (hs : Ints w vs s) (hk : t.ops[k]? = some o) (hn0 : 0 ≤ t.n) (hn1 : t.n ≤ 1000) :
    Calls Try.prog 32 #[.agg #[.int .i64 t.n, vi, vg, vo], vs, .int .i64 (k : Int)] w fun e w' => ∃ v, e = .returned v ∧ w'.ownsRow w.heap.size 3 1 v (aftL t.n o s).length ((aftL t.n o s).map (Value.int .i64)) ∧ Keeps (fun _ => False) w w' := by
  obtain ⟨i0, hi0, hz0, hz1, hz2⟩ := info_parts Try.info3
  obtain ⟨ai, ci, h1, _⟩ := h.init.form
  obtain ⟨ag, cg, h2, _⟩ := h.goal.form
  obtain ⟨ao, co, h3, hmo⟩ := h.ops.form
  obtain ⟨aa, cs, h4, _⟩ := hs.form
  subst h1 h2 h3 h4
  have hlt : k < t.ops.length := (List.getElem?_eq_some_iff.1 hk).1
  have K1 := (Keeps.refl (fun _ => False) w).alloc (.cells #[.int .i64 t.n, .slice ai t.init.length ci, .slice ag t.goal.length cg, .slice ao t.ops.length co] 25)
  have HT := h.keeps0 K1
  have HSS := Lib.hid (show Ints _ (.slice aa s.length cs) s from hs.keeps0 K1)
  have HB := Lib.hid (Four.new w (.int .i64 t.n) (.slice ai t.init.length ci) (.slice ag t.goal.length cg) (.slice ao t.ops.length co) 25)
  obtain ⟨bo, off, rfl, hcell⟩ := HT.ops.cell rfl (by omega)
  obtain ⟨va, vb, vc, c0, c1, c2, c3, ia, ib, ic⟩ := hcell k o hk
  obtain ⟨pb, pcb, hpb, _⟩ := ib.form
  obtain ⟨pc, pcc, hpc, _⟩ := ic.form
  subst hpb hpc
  have HIB := Lib.hid ib; have HIC := Lib.hid ic; have HK := Lib.hid K1; have HC1 := Lib.hid c1; have HC2 := Lib.hid c2
  clear h hs HT hcell ia ib ic c0 c1 c2 c3 hk K1
  go_enter Try.func32, Try.ntmps32
  go_upto_region 1 with fail
  generalize (w.alloc (.cells #[.int .i64 t.n, .slice ai t.init.length ci, .slice ag t.goal.length cg, .slice (some ⟨bo, off, none⟩) t.ops.length co] 25)) = w1 at HB HSS HC1 HC2 HIB HIC HK ⊢
  have hbx := HB.out.lt
  go_wp2_with fail
  go_loopw [7, 8] (fun v i wr => ∃ p : Nat, (p : Int) ≤ t.n ∧ i = .int .i64 (p : Int) ∧ wr.ownsRow w1.heap.size 3 1 v (aftTo o s p).length ((aftTo o s p).map (Value.int .i64)) ∧ Keeps (fun _ => False) w1 wr) (fun _ i _ => t.n.toNat - (intOf i).toNat)
  case atStart => exact ⟨0, by omega, rfl, World.ownsRow_nil _ _ _ _, Keeps.refl _ _⟩
  case round =>
    obtain ⟨p, hp, rfl, hown, hkw⟩ := hrel
    have HO := Lib.hid hown; have KW := Lib.hid hkw
    obtain ⟨d0, d1, d2, d3⟩ := HB.out.keeps0 hkw
    have hbr := (HB.out.keeps0 hkw).lt
    have b1 := hkw.cell HC1.out (fun h => h)
    have b2 := hkw.cell HC2.out (fun h => h)
    have SB := Lib.hid (show Ints wr (.slice pb o.add.length pcb) o.add from HIB.out.keeps0 hkw)
    have SC := Lib.hid (show Ints wr (.slice pc o.del.length pcc) o.del from HIC.out.keeps0 hkw)
    have SS := Lib.hid (show Ints wr (.slice aa s.length cs) s from HSS.out.keeps0 hkw)
    clear hown hkw
    have hle := aftTo_le o s p
    have hsz := KW.out.size
    have hszw := HK.out.size
    by_cases hlp : (p : Int) < t.n
    · obtain ⟨av, cv, hv⟩ := ownsRow_form1 HO.out
      subst hv
      by_cases ha : (p : Int) ∈ o.add
      · have HA := Lib.hid (decide_eq_true ha)
        have HS : Hid (aftTo o s (p + 1) = aftTo o s p ++ [(p : Int)]) := by unfold Hid; rw [aftTo_succ, if_pos (by simp [aftP, ha])]
        clear ha
        go_wp2_with fail
        refine (has_any _ _ _ _ SB.out).mono ?_; rintro e w3 ⟨rfl, rfl⟩
        rw [HA.out]
        go_wp2_with (at_builtin; refine wpList_append_d rfl _ _ _ rfl w1.heap.size 3 i0 _ 1 8 Try.underlying22 hi0 hz0 hz1 hz2 rfl (by omega) _ (aftTo o s p).length ((aftTo o s p).map (Value.int .i64)) (by rfl) (World.ownsRow.alloc HO.out (.cells #[.int .i64 (p : Int)] 3)) ⟨wr.heap.size, 0, none⟩ 1 1 [.int .i64 (p : Int)] (by rfl) (by rfl) ?hnews ?hone (by omega) (by unfold maxLen; omega) (by omega) (by simp; omega) (wr.heap.size + 1) (by simp) ?_)
        case hnews => exact World.news_of_block (cs := #[.int .i64 (p : Int)]) (t := 3) (fr := (0, 0)) (heap_alloc_new _ _)
        case hone => simp [Value.oneCell']
        intro gg cap2 w4 hown hgrow hat hlt4 hd4
        have HN := Lib.hid (show w4.ownsRow w1.heap.size 3 1 (.slice (some ⟨gg, 0, none⟩) ((aftTo o s p).length + 1) cap2) (aftTo o s (p + 1)).length ((aftTo o s (p + 1)).map (Value.int .i64)) by
          rw [HS.out, List.map_append, List.length_append]; exact hown)
        have HKN := Lib.hid (own_grown HO.out KW.out ((Keeps.refl _ wr).alloc (.cells #[.int .i64 (p : Int)] 3)) hgrow)
        clear hown hgrow hat hd4
        go_wp2_with fail
        go_roundw
        case rel => exact ⟨p + 1, by omega, by go_num, HN.out, HKN.out⟩
        case measure => simp [intOf]; omega
      · have HA := Lib.hid (decide_eq_false ha)
        by_cases hs : (p : Int) ∈ s
        · have HSD := Lib.hid (decide_eq_true hs)
          by_cases hd : (p : Int) ∈ o.del
          · have HDD := Lib.hid (decide_eq_true hd)
            have HS : Hid (aftTo o s (p + 1) = aftTo o s p) := by unfold Hid; rw [aftTo_succ, if_neg (by simp [aftP, ha, hd])]
            clear ha hs hd
            go_wp2_with fail
            refine (has_any _ _ _ _ SB.out).mono ?_; rintro e w3 ⟨rfl, rfl⟩
            rw [HA.out]
            go_wp2_with fail
            refine (has_any _ _ _ _ SS.out).mono ?_; rintro e w3 ⟨rfl, rfl⟩
            rw [HSD.out]
            go_wp2_with fail
            refine (has_any _ _ _ _ SC.out).mono ?_; rintro e w3 ⟨rfl, rfl⟩
            rw [HDD.out]
            go_wp2_with fail
            go_roundw
            case rel => exact ⟨p + 1, by omega, by go_num, by rw [HS.out]; exact HO.out, KW.out⟩
            case measure => simp [intOf]; omega
          · have HDD := Lib.hid (decide_eq_false hd)
            have HS : Hid (aftTo o s (p + 1) = aftTo o s p ++ [(p : Int)]) := by unfold Hid; rw [aftTo_succ, if_pos (by simp [aftP, hs, hd])]
            clear ha hs hd
            go_wp2_with fail
            refine (has_any _ _ _ _ SB.out).mono ?_; rintro e w3 ⟨rfl, rfl⟩
            rw [HA.out]
            go_wp2_with fail
            refine (has_any _ _ _ _ SS.out).mono ?_; rintro e w3 ⟨rfl, rfl⟩
            rw [HSD.out]
            go_wp2_with fail
            refine (has_any _ _ _ _ SC.out).mono ?_; rintro e w3 ⟨rfl, rfl⟩
            rw [HDD.out]
            go_wp2_with (at_builtin; refine wpList_append_d rfl _ _ _ rfl w1.heap.size 3 i0 _ 1 8 Try.underlying22 hi0 hz0 hz1 hz2 rfl (by omega) _ (aftTo o s p).length ((aftTo o s p).map (Value.int .i64)) (by rfl) (World.ownsRow.alloc HO.out (.cells #[.int .i64 (p : Int)] 3)) ⟨wr.heap.size, 0, none⟩ 1 1 [.int .i64 (p : Int)] (by rfl) (by rfl) ?hnews ?hone (by omega) (by unfold maxLen; omega) (by omega) (by simp; omega) (wr.heap.size + 1) (by simp) ?_)
            case hnews => exact World.news_of_block (cs := #[.int .i64 (p : Int)]) (t := 3) (fr := (0, 0)) (heap_alloc_new _ _)
            case hone => simp [Value.oneCell']
            intro gg cap2 w4 hown hgrow hat hlt4 hd4
            have HN := Lib.hid (show w4.ownsRow w1.heap.size 3 1 (.slice (some ⟨gg, 0, none⟩) ((aftTo o s p).length + 1) cap2) (aftTo o s (p + 1)).length ((aftTo o s (p + 1)).map (Value.int .i64)) by
              rw [HS.out, List.map_append, List.length_append]; exact hown)
            have HKN := Lib.hid (own_grown HO.out KW.out ((Keeps.refl _ wr).alloc (.cells #[.int .i64 (p : Int)] 3)) hgrow)
            clear hown hgrow hat hd4
            go_wp2_with fail
            go_roundw
            case rel => exact ⟨p + 1, by omega, by go_num, HN.out, HKN.out⟩
            case measure => simp [intOf]; omega
        · have HSD := Lib.hid (decide_eq_false hs)
          have HS : Hid (aftTo o s (p + 1) = aftTo o s p) := by unfold Hid; rw [aftTo_succ, if_neg (by simp [aftP, ha, hs])]
          clear ha hs
          go_wp2_with fail
          refine (has_any _ _ _ _ SB.out).mono ?_; rintro e w3 ⟨rfl, rfl⟩
          rw [HA.out]
          go_wp2_with fail
          refine (has_any _ _ _ _ SS.out).mono ?_; rintro e w3 ⟨rfl, rfl⟩
          rw [HSD.out]
          go_wp2_with fail
          go_roundw
          case rel => exact ⟨p + 1, by omega, by go_num, by rw [HS.out]; exact HO.out, KW.out⟩
          case measure => simp [intOf]; omega
    · have hpn : p = t.n.toNat := by omega
      have HE : Hid (aftTo o s p = aftL t.n o s) := by unfold Hid; rw [hpn]; exact aftTo_aftL hn0 o s
      clear hpn
      go_wp2_with fail
      go_ret
      refine ⟨_, rfl, ?_, HK.out.trans KW.out⟩
      have := HO.out
      rw [HE.out] at this
      exact ownsRow_mono this HK.out.size

end Go.Proofs.Ytcfcmmajlkkabaa
