/- OpenlistDecreaseIsDropAndInsert: the walk. -/
import Derived.Test.YtlghadoejmnllaaSortIsW
import Derived.Test.YtlghadoejmnllaaLostW
namespace Go.Proofs.Ytlghadoejmnllaa
open Go.RowKit

theorem expandQ_snoc (l : List QOp) (o : QOp) : expandQ (l ++ [o]) = expandQ l ++ (if o.k = 2 then [⟨4, o.i, 0⟩, ⟨1, o.i, o.y⟩] else [o]) := by
  induction l with
  | nil =>
    show expandQ [o] = [] ++ _
    rw [expandQ, List.nil_append]
    split <;> rfl
  | cons a r ih =>
    rw [List.cons_append, expandQ, expandQ]
    split <;> rw [ih] <;> simp

theorem expandQ_take {l : List QOp} {i : Nat} {o : QOp} (h : l[i]? = some o) : expandQ (l.take (i + 1)) = expandQ (l.take i) ++ (if o.k = 2 then [⟨4, o.i, 0⟩, ⟨1, o.i, o.y⟩] else [o]) := by
  obtain ⟨h1, h2⟩ := List.getElem?_eq_some_iff.1 h
  rw [List.take_succ_eq_append_getElem h1, h2, expandQ_snoc]

theorem length_expandQ (l : List QOp) : (expandQ l).length ≤ 2 * l.length := by
  induction l with
  | nil => simp [expandQ]
  | cons o r ih => rw [expandQ]; split <;> simp only [List.length_cons] <;> omega

theorem playQ_expand {ops : List QOp} {r : List Int × List (Int × Int)} (h : playQ ops = .ok r) (hl : (expandQ ops).length ≤ 60) : playQ (expandQ ops) = .ok r := by
  unfold playQ at h ⊢
  rw [if_neg (by omega)]
  split at h
  · cases h
  · exact play_expand ops 0 0 [] [] r h

theorem OwnOps.snoc2 {B n : Nat} {w4 : World} {V : Value} {ops : List QOp} {o p : QOp} (hn : ops.length = n) (hown : w4.ownsRow B 38 3 V (n + 2) (opCells ops ++ [.int .i64 o.k, .int .i64 o.i, .int .i64 o.y, .int .i64 p.k, .int .i64 p.i, .int .i64 p.y])) : OwnOps B w4 V (ops ++ [o, p]) := by
  unfold OwnOps
  rw [List.length_append, opCells_append, hn]
  exact hown

set_option maxHeartbeats 4000000 in
theorem dec_ok (w : World) (v : Value) (ops : List QOp) (h : Sl w v ops.length (opCells ops)) (tk : List Int) (A : List (Int × Int)) (hq : playQ ops = .ok (tk, A)) :
    Calls Try.prog 6 #[v] w fun e w' => e = .returned (.bool true) ∧ Keeps (fun _ => False) w w' := by
  have HI := Lib.hid h
  obtain ⟨ao, cap, rfl, hm, hc⟩ := h
  have h1 : takenQ ops = .ok tk := by unfold takenQ; rw [hq]; rfl
  have h2 : restQ ops = .ok (drainA A.length A) := by unfold restQ; rw [hq]; rfl
  have hlen := playQ_len hq
  have H1 := Lib.hid h1; have H2 := Lib.hid h2; have HQ := Lib.hid hq; have HC := Lib.hid hc
  clear h1 h2 hq hc
  go_enter Try.func6, Try.ntmps6
  go_wp2_with fail
  refine (Play_any _ _ ops HI.out).mono ?_; rintro e w1 ⟨hk, hr⟩
  rw [H1.out] at hr; obtain ⟨va, rfl, ho⟩ := hr
  have OA := Lib.hid (Ints.of_own ho); clear ho
  have K1 := Lib.hid hk; clear hk
  go_wp2_with fail
  refine (Rest_any _ _ ops (HI.out.keeps0 (K1.out.alloc _))).mono ?_; rintro e w2 ⟨hk, hr⟩
  rw [H2.out] at hr; obtain ⟨vb, rfl, ho⟩ := hr
  have OB := Lib.hid (Ints.of_own ho); clear ho
  have K2 := Lib.hid (((Keeps.refl _ w1).alloc _).trans hk)
  have b1 : w2.cell? ⟨w1.heap.size, 0, none⟩ = some (.int .i64 0) := hk.cell ((cell_of_blk (heap_alloc_new w1 _)).trans rfl) (fun h => h)
  have l1 : w1.heap.size < w2.heap.size := by have := hk.size; simp at this; omega
  clear hk
  go_wp2_with fail
  refine (example_any _).mono ?_; rintro e w3 ⟨rfl, hk⟩
  have K3 := Lib.hid (((Keeps.refl _ w2).alloc _).trans hk)
  have c1 := K3.out.cell b1 (fun h => h)
  have c2 : w3.cell? ⟨w2.heap.size, 0, none⟩ = some (.int .i64 0) := hk.cell ((cell_of_blk (heap_alloc_new w2 _)).trans rfl) (fun h => h)
  have KW := Lib.hid (K1.out.trans (K2.out.trans K3.out))
  clear b1 hk
  go_wp2_with fail
  obtain ⟨i0, hi0, hz0, hz1, hz2⟩ := info_parts Try.info_op
  go_loopw [7, 8] (fun ov iv wr => ∃ i : Nat, iv = .int .i64 (i : Int) ∧ i ≤ ops.length ∧ OwnOps w3.heap.size wr ov (expandQ (ops.take i)) ∧ Keeps (fun _ => False) w3 wr) (fun _ iv _ => ops.length - (intOf iv).toNat)
  case atStart => exact ⟨0, rfl, Nat.zero_le _, OwnOps.nil _ _, Keeps.refl _ _⟩
  case round =>
    obtain ⟨i, rfl, hi, how, hkw⟩ := hrel
    have HW := Lib.hid how; have HKW := Lib.hid hkw
    clear how hkw
    by_cases hlt : i < ops.length
    · obtain ⟨b, off, rfl, hcell⟩ := HC.out (by omega)
      obtain ⟨o, ho⟩ : ∃ o, ops[i]? = some o := ⟨_, List.getElem?_eq_getElem hlt⟩
      obtain ⟨o1, o2, o3⟩ := opCells_get ops i o ho
      have p1 := (KW.out.trans HKW.out).cell (hcell _ _ o1) (fun h => h)
      have p2 := (KW.out.trans HKW.out).cell (hcell _ _ o2) (fun h => h)
      have p3 := (KW.out.trans HKW.out).cell (hcell _ _ o3) (fun h => h)
      rw [← Nat.add_assoc] at p2 p3
      have HX := Lib.hid (expandQ_take ho)
      obtain ⟨au, cu, rfl⟩ := HW.out.form
      obtain ⟨N, hN⟩ : ∃ N, (expandQ (ops.take i)).length = N := ⟨_, rfl⟩
      have hNb : N ≤ 120 := by have := length_expandQ (ops.take i); rw [List.length_take] at this; omega
      have HLE := Lib.hid hN
      have hw' : wr.ownsRow w3.heap.size 38 3 (.slice au N cu) N (opCells (expandQ (ops.take i))) := by
        have h := HW.out; unfold OwnOps at h; rw [hN] at h; exact h
      have HW' := Lib.hid hw'
      have hs2 : w3.heap.size ≤ wr.heap.size := HKW.out.size
      have i0' : (0 : Int) ≤ (i : Int) := by omega
      have i1' : (i : Int) < (ops.length : Int) := by omega
      clear hcell o1 o2 o3 ho hw'
      rw [hN]
      clear hN
      by_cases k2 : o.k = 2
      · have b2 : (o.k == 2) = true := by simpa using k2
        have K2' := Lib.hid k2
        clear k2
        go_wp2_with fail
        go_region_law ((refine step_append_lies _ (by rfl) _ _ _ (by rfl) w3.heap.size 38 i0 _ 3 24 Try.underlying22 hi0 hz0 hz1 hz2 rfl (by omega) _ N (opCells (expandQ (ops.take i))) (by rfl) (((World.ownsRow.alloc (o := .cells #[.int .i64 4, .int .i64 o.i, .int .i64 0, .int .i64 1, .int .i64 o.i, .int .i64 o.y] 38) HW'.out)).drew) ⟨wr.heap.size, 0, none⟩ 2 2 [.int .i64 4, .int .i64 o.i, .int .i64 0, .int .i64 1, .int .i64 o.i, .int .i64 o.y] (by rfl) (by rfl) (World.news_of_block (cs := #[.int .i64 4, .int .i64 o.i, .int .i64 0, .int .i64 1, .int .i64 o.i, .int .i64 o.y]) (t := 38) (fr := (0, 0)) (heap_alloc_new wr _)) (by simp [Value.oneCell']) (by omega) (by unfold maxLen; omega) (by omega) (by simp; omega) (wr.heap.size + 1) (by simp) ?_; intro g cap2 w4 hown hgrow hat hlt4))
        all_goals
          have hNx : OwnOps w3.heap.size w4 (.slice (some ⟨g, 0, none⟩) (N + 2) cap2) (expandQ (ops.take (i + 1))) := by
            rw [HX.out, if_pos K2'.out]
            exact OwnOps.snoc2 (o := ⟨4, o.i, 0⟩) (p := ⟨1, o.i, o.y⟩) HLE.out hown
          have HN := Lib.hid hNx
          have hw'' : OwnOps w3.heap.size wr (.slice au N cu) (expandQ (ops.take i)) := by unfold OwnOps; rw [HLE.out]; exact HW'.out
          have HKN := Lib.hid (hw''.grown HKW.out (((Keeps.refl _ wr).alloc (.cells #[.int .i64 4, .int .i64 o.i, .int .i64 0, .int .i64 1, .int .i64 o.i, .int .i64 o.y] 38)).drew) hgrow)
          clear hown hgrow hat hNx hw''
          go_wp2
          go_roundw
          case rel => exact ⟨i + 1, by go_num, by omega, HN.out, HKN.out⟩
          case measure => simp [intOf]; omega
      · have b2 : (o.k == 2) = false := by simpa using k2
        have K2' := Lib.hid k2
        clear k2
        go_wp2_with (at_builtin; refine wpList_append_lies _ rfl _ _ _ rfl w3.heap.size 38 i0 _ 3 24 Try.underlying22 hi0 hz0 hz1 hz2 rfl (by omega) _ N (opCells (expandQ (ops.take i))) (by rfl) (World.ownsRow.alloc (o := .cells #[.int .i64 o.k, .int .i64 o.i, .int .i64 o.y] 38) HW'.out) ⟨wr.heap.size, 0, none⟩ 1 1 [.int .i64 o.k, .int .i64 o.i, .int .i64 o.y] (by rfl) (by rfl) ?hnews ?hone (by omega) (by unfold maxLen; omega) (by omega) (by simp; omega) (wr.heap.size + 1) (by simp) ?_)
        case hnews => exact World.news_of_block (cs := #[.int .i64 o.k, .int .i64 o.i, .int .i64 o.y]) (t := 38) (fr := (0, 0)) (heap_alloc_new _ _)
        case hone => simp [Value.oneCell']
        intro g cap2 w4 hown hgrow hat hlt4
        have hNx : OwnOps w3.heap.size w4 (.slice (some ⟨g, 0, none⟩) (N + 1) cap2) (expandQ (ops.take (i + 1))) := by
          rw [HX.out, if_neg K2'.out]
          exact OwnOps.snoc HLE.out hown
        have HN := Lib.hid hNx
        have hw'' : OwnOps w3.heap.size wr (.slice au N cu) (expandQ (ops.take i)) := by unfold OwnOps; rw [HLE.out]; exact HW'.out
        have HKN := Lib.hid (hw''.grown HKW.out ((Keeps.refl _ wr).alloc (.cells #[.int .i64 o.k, .int .i64 o.i, .int .i64 o.y] 38)) hgrow)
        clear hown hgrow hat hNx hw''
        go_wp2_with fail
        go_roundw
        case rel => exact ⟨i + 1, by go_num, by omega, HN.out, HKN.out⟩
        case measure => simp [intOf]; omega
    · obtain rfl : i = ops.length := by omega
      have hfin := HW.out
      rw [List.take_length] at hfin
      obtain ⟨au, cu, rfl⟩ := hfin.form
      have HSL := Lib.hid hfin.sl
      clear hfin
      have hNb := length_expandQ ops
      by_cases hbig : 60 < (expandQ ops).length
      · have hbig' : (60 : Int) < ((expandQ ops).length : Int) := by omega
        have HKF := Lib.hid (KW.out.trans HKW.out)
        generalize (expandQ ops).length = N at hbig' hNb ⊢
        go_wp2_with fail
        go_ret
        exact ⟨rfl, HKF.out⟩
      · have hE := playQ_expand HQ.out (by omega)
        have h3 : takenQ (expandQ ops) = .ok tk := by unfold takenQ; rw [hE]; rfl
        have h4 : restQ (expandQ ops) = .ok (drainA A.length A) := by unfold restQ; rw [hE]; rfl
        have H3 := Lib.hid h3; have H4 := Lib.hid h4
        have hsm : ((expandQ ops).length : Int) ≤ 60 := by omega
        clear hE h3 h4
        have hb1 : (tk == tk) = true := by simp
        have hb2 : (drainA A.length A == drainA A.length A) = true := by simp
        have HB1 := Lib.hid hb1; have HB2 := Lib.hid hb2
        clear hb1 hb2
        go_wp2_with fail
        refine (Play_any _ _ _ HSL.out).mono ?_; rintro e w6 ⟨hk6, hr⟩
        rw [H3.out] at hr
        obtain ⟨vc, rfl, ho⟩ := hr
        have OC := Lib.hid (Ints.of_own ho)
        have K6 := Lib.hid hk6
        clear hk6 ho
        go_wp2_with fail
        refine (Rest_any _ _ _ (HSL.out.keeps0 (K6.out.alloc _))).mono ?_; rintro e w7 ⟨hk, hr⟩
        rw [H4.out] at hr
        obtain ⟨vd, rfl, ho⟩ := hr
        have OD := Lib.hid (Ints.of_own ho)
        have K7 := Lib.hid (((Keeps.refl _ w6).alloc _).trans hk)
        have c3 : w7.cell? ⟨w6.heap.size, 0, none⟩ = some (.int .i64 0) := hk.cell ((cell_of_blk (heap_alloc_new w6 _)).trans rfl) (fun h => h)
        have l6 : w6.heap.size < w7.heap.size := by have := hk.size; simp at this; omega
        clear hk ho
        go_wp2_with fail
        refine (ints_any _ _ _ _ _ (OA.out.keeps0 (K2.out.trans (K3.out.trans (HKW.out.trans (K6.out.trans (K7.out.alloc _)))))) (OC.out.keeps0 (K7.out.alloc _))).mono ?_; rintro e w8 ⟨rfl, hk8⟩
        rw [HB1.out]
        have K8 := Lib.hid (((Keeps.refl _ w7).alloc _).trans hk8)
        clear hk8
        go_wp2_with fail
        refine (ints_any _ _ _ _ _ (OB.out.keeps0 (K3.out.trans (HKW.out.trans (K6.out.trans (K7.out.trans K8.out))))) (OD.out.keeps0 K8.out)).mono ?_; rintro e w9 ⟨rfl, hk9⟩
        rw [HB2.out]
        have KF := Lib.hid (KW.out.trans (HKW.out.trans (K6.out.trans (K7.out.trans (K8.out.trans hk9)))))
        clear hk9
        go_wp2_with fail
        go_ret
        exact ⟨rfl, KF.out⟩

theorem dec_err (w : World) (v : Value) (ops : List QOp) (h : Sl w v ops.length (opCells ops)) (c n : Int) (hq : playQ ops = .error (c, n)) :
    Calls Try.prog 6 #[v] w fun e w' => e = .returned (.bool true) ∧ Keeps (fun _ => False) w w' := by
  have HI := Lib.hid h
  have h1 : takenQ ops = .error (c, n) := by unfold takenQ; rw [hq]; rfl
  have h2 : restQ ops = .error (c, n) := by unfold restQ; rw [hq]; rfl
  have hc := playQ_error hq
  have hc2 : (c != 0) = true := by simpa using hc
  have H1 := Lib.hid h1; have H2 := Lib.hid h2
  clear h h1 h2 hq hc
  go_enter Try.func6, Try.ntmps6
  go_wp2_with fail
  refine (Play_any _ _ ops HI.out).mono ?_; rintro e w1 ⟨hk, hr⟩
  rw [H1.out] at hr; subst hr
  have K1 := Lib.hid hk; clear hk
  go_wp2_with fail
  refine (Rest_any _ _ ops (HI.out.keeps0 (K1.out.alloc _))).mono ?_; rintro e w2 ⟨hk, hr⟩
  rw [H2.out] at hr; subst hr
  have K2 := Lib.hid (((Keeps.refl _ w1).alloc _).trans hk)
  have b1 : w2.cell? ⟨w1.heap.size, 0, none⟩ = some (.int .i64 c) := hk.cell ((cell_of_blk (heap_alloc_new w1 _)).trans rfl) (fun h => h)
  have b2 : w2.cell? ⟨w1.heap.size, 1, none⟩ = some (.int .i64 n) := hk.cell ((cell_of_blk (heap_alloc_new w1 _)).trans rfl) (fun h => h)
  have l1 : w1.heap.size < w2.heap.size := by have := hk.size; simp at this; omega
  clear hk
  go_wp2_with fail
  refine (example_any _).mono ?_; rintro e w3 ⟨rfl, hk⟩
  have K3 := Lib.hid (((Keeps.refl _ w2).alloc _).trans hk)
  have c1 := K3.out.cell b1 (fun h => h)
  have c2 := K3.out.cell b2 (fun h => h)
  have c3 : w3.cell? ⟨w2.heap.size, 0, none⟩ = some (.int .i64 c) := hk.cell ((cell_of_blk (heap_alloc_new w2 _)).trans rfl) (fun h => h)
  have c4 : w3.cell? ⟨w2.heap.size, 1, none⟩ = some (.int .i64 n) := hk.cell ((cell_of_blk (heap_alloc_new w2 _)).trans rfl) (fun h => h)
  have KW := Lib.hid (K1.out.trans (K2.out.trans K3.out))
  clear b1 b2 hk
  go_wp2_with fail
  go_ret
  exact ⟨rfl, KW.out⟩

theorem dec_any (w : World) (v : Value) (ops : List QOp) (h : Sl w v ops.length (opCells ops)) :
    Calls Try.prog 6 #[v] w fun e w' => e = .returned (.bool true) ∧ Keeps (fun _ => False) w w' := by
  cases hq : playQ ops with
  | error p => obtain ⟨c, n⟩ := p; exact dec_err w v ops h c n hq
  | ok p => obtain ⟨tk, A⟩ := p; exact dec_ok w v ops h tk A hq

end Go.Proofs.Ytlghadoejmnllaa
