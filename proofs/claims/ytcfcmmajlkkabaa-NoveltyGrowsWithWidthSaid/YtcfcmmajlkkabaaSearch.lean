/- novelty.search. -/
import Derived.Test.YtcfcmmajlkkabaaSchB
namespace Go.Proofs.Ytcfcmmajlkkabaa
open Go.RowKit Go.Shelf
attribute [local go_sem] Oper.semAt_some

set_option maxRecDepth 100000 in
set_option maxHeartbeats 4000000 in
theorem search_in (w : World) (b st g0 base : Nat) (v : Value) (ops : List Wop) (hw : WordsAt w base b st g0 v ops) (hops : WopsOk ops) (hmany : ops.length ≤ 40) (hst : st < 4294967296) (l : List Nat) (hl : reached ops st = some l) (n : Nat) (hn : n ≤ 1000) :
    CallsIn Fence.wide 9 Try.prog 72 #[.pointer (some ⟨b, 0, none⟩), .int .i64 (n : Int)] w (SearchPost ops st (accW g0) (covW n) w) := by
  have HL0 := Lib.hid hl; have HW0 := Lib.hid hw
  have hmm := @run_makeMap Try.prog
  have F0 : Fixed w [] w := fun p hp => by simp at hp
  have F1 := F0.add (Nat.le_refl _) 84 (.pointer (some ⟨b, 0, none⟩))
  have F2 := F1.add (by simp) 3 (.int .i64 (n : Int))
  have F3 := F2.add (by simp; omega) 22 (.slice none 0 0)
  have F4 := F3.add (by simp; omega) 3 (.int .i64 0)
  have F5 := F4.add (by simp; omega) 4 (.bool false)
  have K5 := ((((Keeps.refl (fun _ => False) w).alloc (.cells #[.pointer (some ⟨b, 0, none⟩)] 84)).alloc (.cells #[.int .i64 (n : Int)] 3)).alloc (.cells #[.slice none 0 0] 22)).alloc (.cells #[.int .i64 0] 3) |>.alloc (.cells #[.bool false] 4)
  have HW := Lib.hid (hw.keeps0 K5)
  simp only [World.size_alloc, List.nil_append, List.cons_append] at F5
  have HF := Lib.hid F5; have HK := Lib.hid K5
  clear hw hl F0 F1 F2 F3 F4 F5 K5
  refine callsIn_of_wp_marks Try.func72 rfl trivial ?_ rfl
  simp only [Try.ntmps72, List.size_toArray, List.length_cons, List.length_nil, Nat.reduceAdd, Nat.reduceSub, Array.replicate_succ, Array.replicate_zero, List.push_toArray, List.append_toArray, List.nil_append, List.cons_append]
  gi_wp2
  refine ⟨trivial, ?_⟩
  refine (callsIn_wide.2 (start_any _ _ _ _ _ _ _ HW.out)).mono ?_; rintro e w1 ⟨rfl, rfl⟩
  obtain ⟨W1, hW1⟩ : ∃ W1, (((((w.alloc (.cells #[.pointer (some ⟨b, 0, none⟩)] 84)).alloc (.cells #[.int .i64 (n : Int)] 3)).alloc (.cells #[.slice none 0 0] 22)).alloc (.cells #[.int .i64 0] 3)).alloc (.cells #[.bool false] 4)) = W1 := ⟨_, rfl⟩
  have hz1 : W1.heap.size = w.heap.size + 1 + 1 + 1 + 1 + 1 := by rw [← hW1]; simp
  rw [hW1] at HF HK HW ⊢
  have F6 := HF.out.add HK.out.size 90 (.int .u32 (st : Int))
  have KA := (Keeps.refl (fun _ => False) W1).alloc (.cells #[.int .u32 (st : Int)] 90)
  have HW2 := Lib.hid (HW.out.keeps0 KA)
  have HK2 := Lib.hid (HK.out.trans KA)
  simp only [List.cons_append, List.nil_append, hz1] at F6
  have HF2 := Lib.hid F6
  clear hW1 F6 KA HF HK HW
  have x2 := (show Boxed _ _ _ _ from (HF2.out _ (List.mem_cons_self ..)).2).cell
  have x7 := (show Boxed _ _ _ _ from (HF2.out (w.heap.size + 1 + 1 + 1 + 1 + 1, 90, .int .u32 (st : Int)) (by simp)).2).cell
  simp only at x2 x7
  gi_wp2
  refine ⟨trivial, ?_⟩
  refine (callsIn_wide.2 (goal_any _ base b st g0 st v ops HW2.out)).mono ?_; rintro e w3 ⟨rfl, q, rfl⟩
  have KQ := (Keeps.refl (fun _ => False) (W1.alloc (.cells #[.int .u32 (st : Int)] 90))).drewN q
  have HF3 := Lib.hid (HF2.out.keeps0 KQ); have HW3 := Lib.hid (HW2.out.keeps0 KQ); have HK3 := Lib.hid (HK2.out.trans KQ)
  clear x2 x7 HF2 HW2 HK2 KQ
  generalize (W1.alloc (.cells #[.int .u32 (st : Int)] 90)).drewN q = W3 at HF3 HW3 HK3 ⊢
  clear hz1
  obtain ⟨bn, hbn⟩ : ∃ bn, w.heap.size + 1 = bn := ⟨_, rfl⟩
  rw [hbn] at HF3 ⊢
  obtain ⟨b4, hb4⟩ : ∃ b4, bn + 1 = b4 := ⟨_, rfl⟩
  rw [hb4] at HF3 ⊢
  obtain ⟨b5, hb5⟩ : ∃ b5, b4 + 1 = b5 := ⟨_, rfl⟩
  rw [hb5] at HF3 ⊢
  obtain ⟨b6, hb6⟩ : ∃ b6, b5 + 1 = b6 := ⟨_, rfl⟩
  rw [hb6] at HF3 ⊢
  obtain ⟨b7, hb7⟩ : ∃ b7, b6 + 1 = b7 := ⟨_, rfl⟩
  rw [hb7] at HF3 ⊢
  obtain ⟨bw, hbw⟩ : ∃ bw, w.heap.size = bw := ⟨_, rfl⟩
  have HFB : Hid (Fixed w [(bw, 84, .pointer (some ⟨b, 0, none⟩)), (bn, 3, .int .i64 (n : Int)), (b4, 22, .slice none 0 0), (b5, 3, .int .i64 0), (b6, 4, .bool false), (b7, 90, .int .u32 (st : Int))] W3) := by rw [← hbw]; exact HF3
  have n1 : bw < bn ∧ bn < b4 ∧ b4 < b5 ∧ b5 < b6 ∧ b6 < b7 := by omega
  have HBW := Lib.hid hbw
  rw [hbw]
  clear hbw hbn hb4 hb5 hb6 hb7 HF3
  have X2 : Boxed W3 bw 84 (.pointer (some ⟨b, 0, none⟩)) := (HFB.out _ (List.mem_cons_self ..)).2
  have X3 : Boxed W3 bn 3 (.int .i64 (n : Int)) := (HFB.out (bn, 3, .int .i64 (n : Int)) (by simp)).2
  have X4 : Boxed W3 b4 22 (.slice none 0 0) := (HFB.out (b4, 22, .slice none 0 0) (by simp)).2
  have X5 : Boxed W3 b5 3 (.int .i64 0) := (HFB.out (b5, 3, .int .i64 0) (by simp)).2
  have X6 : Boxed W3 b6 4 (.bool false) := (HFB.out (b6, 4, .bool false) (by simp)).2
  have X7 : Boxed W3 b7 90 (.int .u32 (st : Int)) := (HFB.out (b7, 90, .int .u32 (st : Int)) (by simp)).2
  rcases hacc : (bits .and .u32 (st : Int) (g0 : Int) == (g0 : Int)) with _ | _
  · have hm0 : IMap (W3.alloc (.map #[] 0)) W3.heap.size .u32 [] := IMap.made W3 .u32
    have c7 := X7.cell
    have l7 := X7.lt
    have hlow3 : w.heap.size ≤ W3.heap.size := HK3.out.size
    obtain ⟨W4, hrun, hI4, hk4⟩ := hm0.run_update_new (P := Try.prog) Try.underlying138 Try.underlying90 (x := (st : Int)) (by simp) (.agg #[.int .u32 (st : Int), .int .i64 0])
    have k34 : Keeps (fun k => k = W3.heap.size) W3 W4 := ((Keeps.refl (fun k => k = W3.heap.size) W3).alloc (.map #[] 0)).trans hk4
    have HF4 := Lib.hid (HFB.out.by k34 (fun p hp e => by have := lt_of_heap (HFB.out p hp).2; omega))
    have c7' : W4.cell? ⟨b7, 0, none⟩ = some (.int .u32 (st : Int)) := k34.cell c7 (by simp only; omega)
    have l7' : b7 < W4.heap.size := Nat.lt_of_lt_of_le l7 k34.size
    gi_wp2
    have hz4 : W3.heap.size + 1 ≤ W4.heap.size := by have := hk4.size; simpa using this
    obtain ⟨b2, hb2⟩ : ∃ b2, W3.heap.size = b2 := ⟨_, rfl⟩
    obtain ⟨b3, hb3⟩ : ∃ b3, W4.heap.size = b3 := ⟨_, rfl⟩
    have kA := (Keeps.refl (fun _ => False) W4).alloc (.cells #[.map (some b2)] 138)
    have kB := (Keeps.refl (fun _ => False) (W4.alloc (.cells #[.map (some b2)] 138))).alloc (.cells #[.int .u32 (st : Int)] 90)
    have kC := (Keeps.refl (fun _ => False) ((W4.alloc (.cells #[.map (some b2)] 138)).alloc (.cells #[.int .u32 (st : Int)] 90))).alloc (.cells #[.slice (some ⟨b3 + 1, 0, none⟩) 1 1] 85)
    have kD := (Keeps.refl (fun _ => False) (((W4.alloc (.cells #[.map (some b2)] 138)).alloc (.cells #[.int .u32 (st : Int)] 90)).alloc (.cells #[.slice (some ⟨b3 + 1, 0, none⟩) 1 1] 85))).alloc (.cells #[.int .i64 0] 3)
    have n3 := Boxed.new W4 138 (.map (some b2))
    have nl := Tail.new (W4.alloc (.cells #[.map (some b2)] 138)) w.heap.size 90 (.int .u32 (st : Int)) (by simp; omega)
    have n1' := Boxed.new ((W4.alloc (.cells #[.map (some b2)] 138)).alloc (.cells #[.int .u32 (st : Int)] 90)) 85 (.slice (some ⟨b3 + 1, 0, none⟩) 1 1)
    have ni := Boxed.new (((W4.alloc (.cells #[.map (some b2)] 138)).alloc (.cells #[.int .u32 (st : Int)] 90)).alloc (.cells #[.slice (some ⟨b3 + 1, 0, none⟩) 1 1] 85)) 3 (.int .i64 0)
    rw [hb2, hb3]
    rw [hb3] at n3
    simp only [World.size_alloc, hb3] at nl n1' ni
    have hI4' : IMap W4 b2 .u32 (parL [⟨st, st, 0, []⟩]) := by rw [← hb2]; simpa [parL] using hI4
    have kAD := kA.trans (kB.trans (kC.trans kD))
    have kw4 : Keeps (fun _ => False) w W4 := HK3.out.trans' k34 (fun i e => .inr (by omega))
    have HF5 := Lib.hid (HF4.out.keeps0 kAD)
    have HS5 := Lib.hid (show FirS w (b3 + 1 + 1) b2 b3 (novT (accW g0) (covW n) ops st 0) (keysT (novT (accW g0) (covW n) ops st 0)) (.slice (some ⟨b3 + 1, 0, none⟩) 1 1) _ from
      ⟨kw4.trans kAD, kD.heap n1' (fun h => h), (kB.trans (kC.trans kD)).heap n3 (fun h => h), nl.keeps (kC.trans kD) (fun _ _ h => h), hI4'.keeps kAD (fun h => h), by omega, by omega, by omega⟩)
    have HI5 := Lib.hid ni
    have HACC := Lib.hid hacc
    have HNL := Lib.hid (show ∀ p ∈ [(bw, 84, (Value.pointer (some ⟨b, 0, none⟩))), (bn, 3, .int .i64 (n : Int)), (b4, 22, .slice none 0 0), (b5, 3, .int .i64 0), (b6, 4, .bool false), (b7, 90, .int .u32 (st : Int))], p.1 ≠ b3 + 1 + 1 ∧ (Value.slice (some ⟨b3 + 1, 0, none⟩) 1 1).ownBlock ≠ some p.1 from
      fun p hp => by
        have := lt_of_heap (HF4.out p hp).2
        refine ⟨by omega, fun e => ?_⟩
        simp [Value.ownBlock] at e; omega)
    have hlb3 : w.heap.size ≤ b3 + 1 + 1 + 1 := by omega
    clear kA kB kC kD n3 nl n1' ni hI4' kAD kw4 hI4 hm0 hk4 k34 c7 c7' l7 l7' X2 X3 X4 X5 X6 X7 HFB HF4 hrun hacc
    generalize ((((W4.alloc (.cells #[.map (some b2)] 138)).alloc (.cells #[.int .u32 (st : Int)] 90)).alloc (.cells #[.slice (some ⟨b3 + 1, 0, none⟩) 1 1] 85)).alloc (.cells #[.int .i64 0] 3)) = W5 at HF5 HS5 HI5 ⊢
    clear hb2 hb3 hz4
    generalize b3 + 1 + 1 + 1 = bi0 at HI5 hlb3 ⊢
    generalize b3 + 1 + 1 = b1 at HS5 HNL ⊢
    generalize b3 + 1 = ba at HS5 HNL ⊢
    obtain ⟨i0, hi0, hz0, hz1, hz2⟩ := info_parts Try.info_u32
    refine wpIn_loop (fun a' wr => SchRel ops st g0 n w b bw bn b1 b2 b3 b4 b5 b6 b7 a' wr)
      (fun a' W => 2001 - boxNat W (a'.tmps.getD 10 undef)) ?start ?round
    case start =>
      have hle0 : 0 ≤ (novT (accW g0) (covW n) ops st 0).length := Nat.zero_le _
      have hno0 : NovNo (accW g0) (covW n) ops st 0 := fun j e hj => absurd hj (Nat.not_lt_zero _)
      exact ⟨[], _, _, _, _, _, _, _, _, _, _, _, _, _, _, _, _, _, _, _, _, _, _, _, _, _, _, _, _, _, _, _, _, _, _, _, _, _, _, _, _, _, _, _, _, _, _, _, _, _, _, _, _, _, _, _, _, _, _, _, _, _, _, _, _, _, _, _, _, _, _, _, _, _, _, _, _, 0, bi0, _, ⟨HS5.out, HF5.out, HI5.out, hlb3, hno0, Marks.nil _ _, hle0, HNL.out⟩, rfl⟩
    case round =>
      intro a wr hrel
      refine SchRel.elim hrel ?_
      clear hrel
      intro ds u11 u12 u13 u14 u15 u16 u17 u18 u19 u20 u21 u22 u23 u24 u25 u26 u27 u28 u29 u30 u31 u32 u33 u34 u35 u36 u37 u38 u39 u40 u41 u42 u43 u44 u45 u46 u47 u48 u49 u50 u51 u52 u53 u54 u55 u56 u57 u58 u59 u60 u61 u62 u63 u64 u65 u66 u67 u68 u69 u70 u71 u72 u73 u74 u75 u76 u77 u78 u79 u80 u81 u82 u83 u84 u85 u86 i bi vl hL HAT
      have HL := Lib.hid hL
      clear hL
      have x1c := HL.out.s.x1.cell
      have x1l := HL.out.s.x1.lt
      have xic := HL.out.bx.cell
      have xil := HL.out.bx.lt
      obtain ⟨gl, off, cap, hv, hqc, hcm, hgb, hgl⟩ := HL.out.s.line.form
      rw [List.length_map] at hv
      subst hv
      have hTl : (keysT (novT (accW g0) (covW n) ops st i)).length = (novT (accW g0) (covW n) ops st i).length := by unfold keysT; rw [List.length_map]
      have hfew : (novT (accW g0) (covW n) ops st i).length ≤ 2000 := Nat.le_trans ((novT_ok _ _ _ _ i).few HL0.out) (reached_some HL0.out).2.1
      obtain ⟨m, hm⟩ : ∃ m, (keysT (novT (accW g0) (covW n) ops st i)).length = m := ⟨_, rfl⟩
      rw [hm] at x1c hTl
      by_cases hlt : i < m
      · obtain ⟨e, hTi⟩ : ∃ e, (novT (accW g0) (covW n) ops st i)[i]? = some e := ⟨_, List.getElem?_eq_getElem (by omega)⟩
        have hok := novT_ok (accW g0) (covW n) ops st i
        have hx32 : e.to < 4294967296 := reach_small hops hst (hok.reach e (List.mem_of_getElem? hTi))
        have hki : ((keysT (novT (accW g0) (covW n) ops st i)).map encW)[i]? = some (.int .u32 (e.to : Int)) := by
          unfold keysT; rw [List.getElem?_map, List.getElem?_map, hTi]; rfl
        have hci := HL.out.s.line.at rfl hki
        have X2 : Boxed wr bw 84 (.pointer (some ⟨b, 0, none⟩)) := (HL.out.fx _ (List.mem_cons_self ..)).2
        have c2 := X2.cell
        have l2 := X2.lt
        have HM := Lib.hid hm; have HTI := Lib.hid hTi; have HOK := Lib.hid hok; have HTL := Lib.hid hTl; have HFEW := Lib.hid hfew
        have q1 : (i : Int) < (m : Int) := by omega
        have q2 : (0 : Int) ≤ (i : Int) := by omega
        have hmix : Try.prog.follows .mixedOrders = true := by kernel_rfl
        have HLT := Lib.hid hlt
        clear hm hTi hok hki hqc hcm hgb hTl hfew
        gi_wp2
        refine wpIn_region_still_tail 5 Wide.wide hmix rfl (by kernel_rfl) ?_
        simp only [List.take_succ_cons, List.take_zero, List.drop_succ_cons, List.drop_zero]
        repeat still_step
        refine wpStill_nil ?_
        have HL4 := Lib.hid (HL.out.keeps0 ((Keeps.refl (fun _ => False) wr).drew))
        clear x1c x1l xic xil hci X2 c2 l2 q1 q2
        obtain ⟨W4, hW4⟩ : ∃ W4, wr.drew = W4 := ⟨_, rfl⟩
        rw [hW4] at HL4 ⊢
        have HBN := Lib.hid (show boxNat wr (.pointer (some ⟨bi, 0, none⟩)) = i by unfold boxNat; simp only; rw [HL.out.bx.cell]; simp)
        clear HL hW4
        gi_wp2
        refine ⟨trivial, ?_⟩
        refine (callsIn_wide.2 (steps_any W4 b e.to)).mono ?_; rintro en w5 ⟨rfl, rfl⟩
        gi_wp2
        obtain ⟨W6, hW6⟩ : ∃ W6, ((W4.alloc (.cells #[.pointer (some ⟨b, 0, none⟩)] 84)).alloc (.cells #[.int .u32 (e.to : Int)] 90)) = W6 := ⟨_, rfl⟩
        have hz6 : W6.heap.size = W4.heap.size + 1 + 1 := by rw [← hW6]; simp
        have k6 : Keeps (fun _ => False) W4 W6 := by rw [← hW6]; exact ((Keeps.refl _ _).alloc _).alloc _
        have hBw : W6.cell? ⟨W4.heap.size, 0, none⟩ = some (.pointer (some ⟨b, 0, none⟩)) := by
          rw [← hW6]; exact ((Boxed.new W4 _ _).alloc _).cell
        have hBs : W6.heap[W4.heap.size + 1]? = some (.cells #[.int .u32 (e.to : Int)] 90 (0, 0)) := by
          rw [← hW6]
          have := heap_alloc_new (W4.alloc (.cells #[.pointer (some ⟨b, 0, none⟩)] 84)) (.cells #[.int .u32 (e.to : Int)] 90)
          rwa [World.size_alloc] at this
        have hBsc : W6.cell? ⟨W4.heap.size + 1, 0, none⟩ = some (.int .u32 (e.to : Int)) := by rw [cell_of_blk hBs]; rfl
        rw [hW6]
        have hlow4 : w.heap.size ≤ W4.heap.size := HL4.out.s.keep.size
        have HL6 := Lib.hid (HL4.out.keeps0 k6)
        have hns : (Value.slice (some ⟨gl, off, none⟩) m cap).ownBlock ≠ some (W4.heap.size + 1) := fun h => by have := (HL4.out.s.line.lt _ h).2; omega
        have HIN := Lib.hid (show SchIn w b1 b2 b3 [(bw, 84, .pointer (some ⟨b, 0, none⟩)), (bn, 3, .int .i64 (n : Int)), (b4, 22, .slice none 0 0), (b5, 3, .int .i64 0), (b6, 4, .bool false), (b7, 90, .int .u32 (st : Int))] bi i (novT (accW g0) (covW n) ops st i) ds (W4.heap.size + 1) e.to _ W6 from ⟨HL6.out.s, HL6.out.fx, HL6.out.bx, HL6.out.lb, HL6.out.marks, hBs, by rw [← HM.out] at hns; exact hns, HL6.out.nl⟩)
        have HMK6 := Lib.hid HL6.out.marks
        have HNO := Lib.hid HL6.out.no
        have HWW := Lib.hid (show ∃ w0 : World, WordsAt w0 base b st g0 v ops ∧ w0.heap.size ≤ w.heap.size ∧ Below w.heap.size w0 W6 from ⟨w, HW0.out, Nat.le_refl _, HL6.out.s.keep.below⟩)
        have HWL := Lib.hid (show (wsteps ops e.to).length ≤ 40 from Nat.le_trans (wsteps_le ops e.to) hmany)
        have hb6 : w.heap.size ≤ W6.heap.size := by omega
        have hb26 : b2 < W6.heap.size := HL6.out.s.map.lt
        have hlow : w.heap.size ≤ bi := HL6.out.lb
        clear hns hBs HL4 HL6
        obtain ⟨T, hT⟩ : ∃ T, novT (accW g0) (covW n) ops st i = T := ⟨_, rfl⟩
        have HNT := Lib.hid hT
        have HTI2 : Hid (T[i]? = some e) := by unfold Hid; rw [← hT]; exact HTI.out
        have HOK2 : Hid (PTree ops st T) := by unfold Hid; rw [← hT]; exact HOK.out
        have HM2 : Hid ((keysT T).length = m) := by unfold Hid; rw [← hT]; exact HM.out
        rw [hT] at HIN
        clear hT HTI HOK HTL HFEW HM
        refine wpIn_rangeFunc_ownH (α := StpOf ops e.to) rfl (by omega) (gf := 98) (lb := #[.pointer (some ⟨W4.heap.size, 0, none⟩), .pointer (some ⟨W4.heap.size + 1, 0, none⟩)]) rfl trivial (enters_of Try.func98 (by kernel_rfl) rfl)
          (steps_stops Fence.wide 8 trivial rfl (by omega) W4.heap.size (W4.heap.size + 1) w.heap.size base b st g0 e.to v ops hops (by omega) hx32 W6 (by omega) hBw hBsc (by omega) (by omega) HWW.out)
          KpS.trans (kpS_b (by omega) (by omega)) (Below.refl _ _) (fun _ => rfl)
          (fun pre W => SchI (accW g0) (covW n) w b1 b2 b3 [(bw, 84, .pointer (some ⟨b, 0, none⟩)), (bn, 3, .int .i64 (n : Int)), (b4, 22, .slice none 0 0), (b5, 3, .int .i64 0), (b6, 4, .bool false), (b7, 90, .int .u32 (st : Int))] bi i T e ds (W4.heap.size + 1) (pre.map fun y => y.1) W)
          (fun c pre W => SchIx (accW g0) (covW n) w b4 b5 b6 i T e ds c (pre.map fun y => y.1) W) ?_ ?_ ?_
          (fun (y : StpOf ops e.to) (a' : Act) (W : World) => ∃ Bx : Nat, W.heap[Bx]? = some (Obj.cells #[.int .i64 (y.1.op : Int), .int .i64 y.1.cost, .int .u32 (y.1.to : Int)] 113 (0, 0)) ∧ ∃ u : Nat → Value, a' = { tmps := #[.pointer (some ⟨b, 0, none⟩), .int .i64 (n : Int), .pointer (some ⟨bw, 0, none⟩), .pointer (some ⟨bn, 0, none⟩), .pointer (some ⟨b4, 0, none⟩), .pointer (some ⟨b5, 0, none⟩), .pointer (some ⟨b6, 0, none⟩), .pointer (some ⟨b7, 0, none⟩), .pointer (some ⟨b3, 0, none⟩), .pointer (some ⟨b1, 0, none⟩), .pointer (some ⟨bi, 0, none⟩), .pointer (some ⟨Bx, 0, none⟩), u 12, u 13, u 14, u 15, u 16, u 17, u 18, u 19, u 20, u 21, u 22, u 23, u 24, u 25, u 26, u 27, u 28, u 29, u 30, u 31, u 32, u 33, u 34, u 35, u 36, u 37, u 38, u 39, u 40, u 41, u 42, u 43, u 44, u 45, u 46, u 47, u 48, u 49, u 50, u 51, u 52, u 53, u 54, u 55, u 56, u 57, u 58, u 59, u 60, u 61, u 62, u 63, u 64, u 65, u 66, u 67, u 68, u 69, u 70, u 71, u 72, u 73, u 74, u 75, u 76, u 77, u 78, u 79, u 80, u 81, u 82, u 83, u 84, u 85, u 86], defers := [] }) ?_ ?_ ?_ ?_ ?_
        · intro l W W' row hs hg hr
          obtain ⟨vl', h1, h2⟩ := hs
          exact ⟨vl', h1.steady HMK6.out hg hr hb6 hb26, h2⟩
        · intro c l W W' row hs hg hr
          exact SchIx.steady hs HMK6.out hg hr hb6
        · exact ⟨_, HIN.out, rfl⟩
        · intro y a' _ W W' row hs hg hr
          obtain ⟨Bx, h1, h2⟩ := hs
          exact ⟨Bx, steady_heap hg (fun r e => (hr r e).2) h1, h2⟩
        · intro l pre y W K hi hK
          simp only [Stp.val]
          gi_wp2
          obtain ⟨vl', h1, h2⟩ := hi
          exact hK _ _ ((KeepsOthers.alloc _ _).from _) ((KpS.refl _ _ W).alloc h1.s.keep.size (lt_of_heap h1.bs) _) ⟨vl', h1.keeps0 ((Keeps.refl _ _).alloc _), h2⟩ ⟨W.heap.size, heap_alloc_new W _, ex_fn rfl⟩
        · rintro l pre y a' W hl - ⟨vl', h1, hno⟩ ⟨Bx, hBx, u, rfl⟩ hlt2
          have hsn := novL_snoc (x := y.1) hno
          have hPT : PTree ops st (novL (accW g0) (covW n) e T (pre.map fun y => y.1)).1 := novL_ok HOK2.out (List.mem_of_getElem? HTI2.out) (fun x hx => by obtain ⟨z, _, rfl⟩ := List.mem_map.1 hx; exact z.2)
          have hpx := novL_prefix (acc := accW g0) (cov := covW n) (e := e) (pre.map fun y => y.1) T
          have HE : Hid ((pre ++ [y]).map (fun y => y.1) = (pre.map fun y => y.1) ++ [y.1]) := by unfold Hid; rw [List.map_append]; rfl
          obtain ⟨T', hT'⟩ : ∃ T', (novL (accW g0) (covW n) e T (pre.map fun y => y.1)).1 = T' := ⟨_, rfl⟩
          rw [hT'] at h1 hsn hPT hpx
          have HSN := Lib.hid hsn
          have hy32 : y.1.to < 4294967296 := reach_small hops hst (.step (HOK2.out.reach e (List.mem_of_getElem? HTI2.out)) (by rw [← wsteps_nexts]; exact List.mem_map.2 ⟨y.1, y.2, rfl⟩))
          have hk32 : ∀ x ∈ keysT T', x < 4294967296 := fun x hx => by obtain ⟨f, hf, rfl⟩ := List.mem_map.1 hx; exact reach_small hops hst (hPT.reach f hf)
          have hfew : T'.length ≤ 2000 := Nat.le_trans (hPT.few HL0.out) (reached_some HL0.out).2.1
          have hTi' : T'[i]? = some e := by obtain ⟨r, rfl⟩ := hpx; rw [List.getElem?_append_left (List.getElem?_eq_some_iff.1 HTI2.out).1]; exact HTI2.out
          have hil : i < T'.length := (List.getElem?_eq_some_iff.1 hTi').1
          have HPT := Lib.hid hPT; have HK32 := Lib.hid hk32; have HTI' := Lib.hid hTi'; have HFEW := Lib.hid hfew; have HIL := Lib.hid hil
          clear hsn hno hPT hpx hT' hk32 hTi' hfew hil
          have x3c := h1.s.x3.cell
          have x3l := h1.s.x3.lt
          have y0 : W.cell? ⟨Bx, 0, none⟩ = some (.int .i64 (y.1.op : Int)) := by rw [cell_of_blk hBx]; rfl
          have y2 : W.cell? ⟨Bx, 2, none⟩ = some (.int .u32 (y.1.to : Int)) := by rw [cell_of_blk hBx]; rfl
          have hBxl := lt_of_heap hBx
          have X2 : Boxed W bw 84 (.pointer (some ⟨b, 0, none⟩)) := (h1.fx _ (List.mem_cons_self ..)).2
          have c2 := X2.cell
          have l2 := X2.lt
          by_cases hm : y.1.to ∈ keysT T'
          · obtain ⟨f, hf, hfy⟩ := List.mem_map.1 hm
            have hlk := (h1.s.map.run_lookup_hit (P := Try.prog) Try.underlying138 Try.underlying90 (parL_nodup HPT.out.nodup) (parL_mem hf)).1
            rw [hfy] at hlk
            have H1 := Lib.hid h1; have HM := Lib.hid hm
            clear h1 hf hfy hm hBx X2
            gi_wp2
            refine ⟨(KeepsOthers.alloc _ _).from _, (KpS.refl _ _ W).alloc H1.out.s.keep.size (lt_of_heap H1.out.bs) _, ⟨vl', ?_, ?_⟩⟩
            · rw [HE.out, HSN.out, if_pos HM.out]; exact H1.out.keeps0 ((Keeps.refl _ _).alloc _)
            · rw [HE.out, HSN.out, if_pos HM.out]
          · have hlk := (h1.s.map.run_lookup_miss (P := Try.prog) Try.underlying138 Try.underlying90 (z := .agg #[.int .u32 0, .int .i64 0]) (by simp [Try.zeroValue137]) (parL_miss hm)).1
            have H1 := Lib.hid h1; have HM := Lib.hid hm; have HBX := Lib.hid hBx
            clear h1 hm hBx X2
            gi_wp2
            have KA := (Keeps.refl (fun _ => False) W).alloc (.cells #[.int .u32 0, .int .i64 0] 137)
            refine ⟨trivial, ?_⟩
            refine (CallsIn.inRound l (callsIn_wide.2 (goal_any _ base b st g0 y.1.to v ops (HW0.out.keeps0 (H1.out.s.keep.trans KA))))).mono ?_; rintro en w7 ⟨rfl, q7, rfl⟩
            have KQ := Lib.hid (KA.drewN q7)
            have H7 := Lib.hid (H1.out.keeps0 KQ.out); have HBX7 := Lib.hid (KQ.out.heap HBX.out (fun h => h))
            clear KA x3c x3l y0 y2 hBxl c2 l2 hlk HBX
            generalize ((W.alloc (.cells #[.int .u32 0, .int .i64 0] 137)).drewN q7) = W7 at KQ H7 HBX7 ⊢
            have x3c := H7.out.s.x3.cell
            have x1c := H7.out.s.x1.cell
            have x1l := H7.out.s.x1.lt
            have y0 : W7.cell? ⟨Bx, 0, none⟩ = some (.int .i64 (y.1.op : Int)) := by rw [cell_of_blk HBX7.out]; rfl
            have y2 : W7.cell? ⟨Bx, 2, none⟩ = some (.int .u32 (y.1.to : Int)) := by rw [cell_of_blk HBX7.out]; rfl
            have X3 : Boxed W7 bn 3 (.int .i64 (n : Int)) := (H7.out.fx (bn, 3, .int .i64 (n : Int)) (by simp)).2
            have c3 := X3.cell
            have ci := H7.out.bx.cell
            have lBx := lt_of_heap HBX7.out
            clear X3
            rcases hacc : (bits .and .u32 (y.1.to : Int) (g0 : Int) == (g0 : Int)) with _ | _
            · have HAC := Lib.hid (show accW g0 y.1.to = false from hacc)
              have HS := Lib.hid (show Wds W7 vl' (keysT T') by have h := H7.out.s.line.sl; rw [List.length_map] at h; exact h)
              gi_wp2
              refine ⟨trivial, ?_⟩
              refine (CallsIn.inRound l (callsIn_wide.2 (covered_any y.1.to hy32 (keysT T') HK32.out n _ _ 0 (by omega) (by omega) HS.out))).mono ?_; rintro en W8 ⟨rfl, hk8, -⟩
              have KQ8 := Lib.hid (KQ.out.trans hk8)
              have H8 := Lib.hid (H7.out.keeps0 hk8); have HBX8 := Lib.hid (hk8.heap HBX7.out (fun h => h))
              clear hk8 x3c x1c x1l y0 y2 c3 ci lBx KQ H7 HBX7 HS hacc
              rcases hcov : covN y.1.to (keysT T') n 0 with _ | _
              · have HCV := Lib.hid (show covW n y.1.to (keysT T') = false from hcov)
                clear hcov
                have hmx := HM.out
                obtain ⟨gq, oq, cq, hvq, -, -, -, hgq⟩ := H8.out.s.line.form
                rw [List.length_map, keysT_length] at hvq
                subst hvq
                have hki : ((keysT T').map encW)[i]? = some (.int .u32 (e.to : Int)) := by
                  unfold keysT; rw [List.getElem?_map, List.getElem?_map, HTI'.out]; rfl
                have hce := H8.out.s.line.at rfl hki
                have x3c := H8.out.s.x3.cell
                have x1c := H8.out.s.x1.cell
                have ci := H8.out.bx.cell
                have y0 : W8.cell? ⟨Bx, 0, none⟩ = some (.int .i64 (y.1.op : Int)) := by rw [cell_of_blk HBX8.out]; rfl
                have y2 : W8.cell? ⟨Bx, 2, none⟩ = some (.int .u32 (y.1.to : Int)) := by rw [cell_of_blk HBX8.out]; rfl
                have lBx := lt_of_heap HBX8.out
                have q1 : (i : Int) < (T'.length : Int) := by have := HIL.out; omega
                have q2 : (0 : Int) ≤ (i : Int) := by omega
                have KD := (Keeps.refl (fun _ => False) W8).drew
                obtain ⟨W1', hrunU, hI1, hK1⟩ := (H8.out.s.map.keeps KD (fun h => h)).run_update_new (P := Try.prog) Try.underlying138 Try.underlying90 (parL_miss hmx) (.agg #[.int .u32 (e.to : Int), .int .i64 (y.1.op : Int)])
                have H8D := Lib.hid (H8.out.keeps0 KD); have KQD := Lib.hid (KQ8.out.trans KD)
                have hsee := H8D.out.see (e := e.of y.1) hI1 hK1
                have hbx2 : Bx ≠ b2 := by rintro rfl; obtain ⟨es, c, hb, _⟩ := H8.out.s.map; rw [HBX8.out] at hb; cases hb
                have HBX9 := Lib.hid (hK1.heap (KD.heap HBX8.out (fun h => h)) hbx2)
                have HSEE := Lib.hid hsee; have HI1 := Lib.hid hI1; have HK1 := Lib.hid hK1
                clear hmx hki KD hI1 hK1 hsee hbx2 H8 KQ8 HBX8
                gi_wp2
                refine wpIn_region_still_tail 10 (Wide.wide.inRound l) hmix rfl (by kernel_rfl) ?_
                simp only [List.take_succ_cons, List.take_zero, List.drop_succ_cons, List.drop_zero]
                repeat still_step
                refine wpStill_nil ?_
                clear x3c x1c ci y0 y2 hce lBx q1 q2
                have y2 : W1'.cell? ⟨Bx, 2, none⟩ = some (.int .u32 (y.1.to : Int)) := by rw [cell_of_blk HBX9.out]; rfl
                have x1c := HSEE.out.1.x1.cell
                have lBx := lt_of_heap HBX9.out
                have l1 := HSEE.out.1.x1.lt
                have HROW := Lib.hid (HSEE.out.1.line.keeps ((Keeps.refl (fun _ => False) W1').alloc (.cells #[.int .u32 (y.1.to : Int)] 90)) (fun _ _ h => h))
                have hlowW : w.heap.size ≤ W1'.heap.size := HSEE.out.1.keep.size
                have hfw : T'.length ≤ 2000 := HFEW.out
                have hkl := keysT_length T'
                have HKL := Lib.hid hkl
                clear hkl
                gi_wp2_with (gi_at_builtin; refine wpListIn_append_tail _ rfl (.tmp 79) (.tmp 82) 85 rfl w.heap.size 90 i0 _ 4 Try.underlying85 hi0 hz0 hz1 hz2 rfl _ ((keysT T').map encW) rfl HROW.out ⟨W1'.heap.size, 0, none⟩ 1 (.int .u32 (y.1.to : Int)) rfl ?_ rfl T'.length (by rw [List.length_map]; exact HKL.out) (by unfold maxLen; omega) (by omega) (by simp; omega) (W1'.heap.size + 1) (by simp) ?_)
                · exact (Boxed.new W1' _ _).cell
                intro g4 off4 cap4 W2' hown2 hgrow2 hat2 hlt2
                have hbx1 : W2'.heap[b1]? = some (.cells #[_] 85 (0, 0)) := ((Keeps.refl (fun b => (Value.slice (some ⟨gq, oq, none⟩) T'.length cq).ownBlock = some b) _).grown hgrow2 (fun k hk => .inl hk)).heap (((Keeps.refl (fun _ => False) W1').alloc _).heap HSEE.out.1.x1 (fun h => h)) HSEE.out.1.row1
                have v1c : W2'.cell? ⟨b1, 0, none⟩ = some (.slice (some ⟨gq, oq, none⟩) T'.length cq) := (cell_of_blk hbx1).trans rfl
                have v1f : W2'.frozen? ⟨b1, 0, none⟩ = false := frozen_of_blk hbx1
                have v1l := lt_of_heap hbx1
                have HADD := Lib.hid (H8D.out.add (e := e.of y.1) HI1.out HK1.out hown2 hgrow2 hat2)
                clear hown2 hgrow2 hat2 hlt2 hbx1
                gi_wp2
                have hcl := H1.out.close ((KQD.out.mono (fun _ _ h => h.elim)).trans HADD.out.2) (fun b h => h) hb26
                refine ⟨hcl.1, hcl.2, ⟨.slice (some ⟨g4, off4, none⟩) (T'.length + 1) cap4, ?_, ?_⟩⟩
                · rw [HE.out, HSN.out, if_neg HM.out, if_neg (by rw [HAC.out]; decide), if_neg (by rw [HCV.out]; decide)]; exact HADD.out.1
                · rw [HE.out, HSN.out, if_neg HM.out, if_neg (by rw [HAC.out]; decide), if_neg (by rw [HCV.out]; decide)]
              · have HCV := Lib.hid (show covW n y.1.to (keysT T') = true from hcov)
                clear hcov
                gi_wp2
                have hcl := H1.out.close KQ8.out (fun b h => h.elim) hb26
                refine ⟨hcl.1, hcl.2, ⟨vl', ?_, ?_⟩⟩
                · rw [HE.out, HSN.out, if_neg HM.out, if_neg (by rw [HAC.out]; decide), if_pos HCV.out]; exact H8.out
                · rw [HE.out, HSN.out, if_neg HM.out, if_neg (by rw [HAC.out]; decide), if_pos HCV.out]
            · have HAC := Lib.hid (show accW g0 y.1.to = true from hacc)
              clear hacc
              gi_wp2
              refine ⟨trivial, ?_⟩
              clear x3c x1c x1l y0 y2 c3 ci lBx
              have KQ8 := KQ; have H8 := H7; have HBX8 := HBX7
              clear KQ H7 HBX7
              obtain ⟨W8, hW8⟩ : ∃ W8, W7 = W8 := ⟨_, rfl⟩
              subst hW8
              have hmx := HM.out
              obtain ⟨gq, oq, cq, hvq, -, -, -, hgq⟩ := H8.out.s.line.form
              rw [List.length_map, keysT_length] at hvq
              subst hvq
              have hki : ((keysT T').map encW)[i]? = some (.int .u32 (e.to : Int)) := by
                unfold keysT; rw [List.getElem?_map, List.getElem?_map, HTI'.out]; rfl
              have hce := H8.out.s.line.at rfl hki
              have x3c := H8.out.s.x3.cell
              have x1c := H8.out.s.x1.cell
              have ci := H8.out.bx.cell
              have y0 : W7.cell? ⟨Bx, 0, none⟩ = some (.int .i64 (y.1.op : Int)) := by rw [cell_of_blk HBX8.out]; rfl
              have y2 : W7.cell? ⟨Bx, 2, none⟩ = some (.int .u32 (y.1.to : Int)) := by rw [cell_of_blk HBX8.out]; rfl
              have lBx := lt_of_heap HBX8.out
              have q1 : (i : Int) < (T'.length : Int) := by have := HIL.out; omega
              have q2 : (0 : Int) ≤ (i : Int) := by omega
              have KD := (Keeps.refl (fun _ => False) W7).drew
              obtain ⟨W1', hrunU, hI1, hK1⟩ := (H8.out.s.map.keeps KD (fun h => h)).run_update_new (P := Try.prog) Try.underlying138 Try.underlying90 (parL_miss hmx) (.agg #[.int .u32 (e.to : Int), .int .i64 (y.1.op : Int)])
              have H8D := Lib.hid (H8.out.keeps0 KD); have KQD := Lib.hid (KQ8.out.trans KD)
              have hsee := H8D.out.see (e := e.of y.1) hI1 hK1
              have hbx2 : Bx ≠ b2 := by rintro rfl; obtain ⟨es, c, hb, _⟩ := H8.out.s.map; rw [HBX8.out] at hb; cases hb
              have HBX9 := Lib.hid (hK1.heap (KD.heap HBX8.out (fun h => h)) hbx2)
              have HSEE := Lib.hid hsee; have HI1 := Lib.hid hI1; have HK1 := Lib.hid hK1
              clear hmx hki KD hI1 hK1 hsee hbx2 H8 KQ8 HBX8
              gi_wp2
              refine wpIn_region_still_tail 10 (Wide.wide.inRound l) hmix rfl (by kernel_rfl) ?_
              simp only [List.take_succ_cons, List.take_zero, List.drop_succ_cons, List.drop_zero]
              repeat still_step
              refine wpStill_nil ?_
              clear x3c x1c ci y0 y2 hce lBx q1 q2
              have y2 : W1'.cell? ⟨Bx, 2, none⟩ = some (.int .u32 (y.1.to : Int)) := by rw [cell_of_blk HBX9.out]; rfl
              have x1c := HSEE.out.1.x1.cell
              have lBx := lt_of_heap HBX9.out
              have l1 := HSEE.out.1.x1.lt
              gi_wp2
              refine wpIn_region_held (fun W => W.cell? ⟨b3, 0, none⟩ = some (.map (some b2)) ∧ W.cell? ⟨b7, 0, none⟩ = some (.int .u32 (st : Int)) ∧ W.cell? ⟨Bx, 2, none⟩ = some (.int .u32 (y.1.to : Int)) ∧ W.cell? ⟨bi, 0, none⟩ = some (.int .i64 (i : Int))) (fun j => decide (8 ≤ j)) hmix ?_
              have HS0 : Hid (W1'.drew.cell? ⟨b3, 0, none⟩ = some (.map (some b2)) ∧ W1'.drew.cell? ⟨b7, 0, none⟩ = some (.int .u32 (st : Int)) ∧ W1'.drew.cell? ⟨Bx, 2, none⟩ = some (.int .u32 (y.1.to : Int)) ∧ W1'.drew.cell? ⟨bi, 0, none⟩ = some (.int .i64 (i : Int))) :=
                ⟨HSEE.out.1.x3.cell, (show Boxed W1' b7 90 _ from (HSEE.out.2.1 (b7, 90, .int .u32 (st : Int)) (by simp)).2).cell, y2, HSEE.out.2.2.1.cell⟩
              refine wpAnyHIn_take (Wide.wide.inRound l) 0 (.map (some b2)) rfl (by kernel_rfl) (by kernel_rfl) (by kernel_rfl) (by kernel_rfl) (by kernel_rfl) (fun _ _ _ h => h) HS0.out ?_ rfl ?_
              · rintro W ⟨s1, s2, s3, s4⟩; go_simp
              refine wpAnyHIn_take (Wide.wide.inRound l) 1 (.int .u32 (st : Int)) rfl (by kernel_rfl) (by kernel_rfl) (by kernel_rfl) (by kernel_rfl) (by kernel_rfl) (fun _ _ _ h => h) HS0.out ?_ rfl ?_
              · rintro W ⟨s1, s2, s3, s4⟩; go_simp
              have hib : i < 2000 := by have h1 := HIL.out; have h2 := HFEW.out; omega
              refine wpAnyHIn_take (Wide.wide.inRound l) 2 (.pointer (some ⟨Bx, 2, none⟩)) rfl (by kernel_rfl) (by kernel_rfl) (by kernel_rfl) (by kernel_rfl) (by kernel_rfl) (fun _ _ _ h => h) HS0.out ?_ rfl ?_
              · rintro W ⟨s1, s2, s3, s4⟩; go_simp
              refine wpAnyHIn_take (Wide.wide.inRound l) 3 (.int .u32 (y.1.to : Int)) rfl (by kernel_rfl) (by kernel_rfl) (by kernel_rfl) (by kernel_rfl) (by kernel_rfl) (fun _ _ _ h => h) HS0.out ?_ rfl ?_
              · rintro W ⟨s1, s2, s3, s4⟩; go_simp
              refine wpAnyHIn_take (Wide.wide.inRound l) 5 (.int .i64 (i : Int)) rfl (by kernel_rfl) (by kernel_rfl) (by kernel_rfl) (by kernel_rfl) (by kernel_rfl) (fun _ _ _ h => h) HS0.out ?_ rfl ?_
              · rintro W ⟨s1, s2, s3, s4⟩; go_simp
              refine wpAnyHIn_take (Wide.wide.inRound l) 6 (.int .i64 ((i : Int) + 1)) rfl (by kernel_rfl) (by kernel_rfl) (by kernel_rfl) (by kernel_rfl) (by kernel_rfl) (fun _ _ _ h => h) HS0.out ?_ rfl ?_
              · rintro W ⟨s1, s2, s3, s4⟩; go_simp; exact IntWalk.i64_in _ (by omega)
              refine wpAnyHIn_one 4 rfl (by kernel_rfl) rfl (fun K hK => ?_)
              go_simp
              refine ⟨trivial, ?_⟩
              have KD1 := (Keeps.refl (fun _ => False) W1').drew
              have hidx : (T' ++ [e.of y.1])[T'.length]? = some (e.of y.1) := by simp
              have hPT2 : PTree ops st (T' ++ [e.of y.1]) := HPT.out.add (List.mem_of_getElem? HTI'.out) y.2 HM.out
              have hfw : T'.length ≤ 2000 := HFEW.out
              refine (CallsIn.inRound l (callsIn_wide.2 (path_p _ b2 ops st (T' ++ [e.of y.1]) T'.length (e.of y.1) hPT2 (HSEE.out.1.map.keeps KD1 (fun h => h)) hidx (by simp; omega)))).mono ?_; rintro en W9 ⟨v9, rfl, hown9, hk9⟩
              obtain ⟨a9, c9, hv9⟩ := ownsRow_form1 hown9
              subst hv9
              refine hK _ _ (fun _ => ?_) ?_
              · obtain ⟨s1, s2, s3, s4⟩ := HS0.out
                exact ⟨hk9.cell s1 (fun h => h), hk9.cell s2 (fun h => h), hk9.cell s3 (fun h => h), hk9.cell s4 (fun h => h)⟩
              have HS9 : Hid (W9.cell? ⟨b3, 0, none⟩ = some (.map (some b2)) ∧ W9.cell? ⟨b7, 0, none⟩ = some (.int .u32 (st : Int)) ∧ W9.cell? ⟨Bx, 2, none⟩ = some (.int .u32 (y.1.to : Int)) ∧ W9.cell? ⟨bi, 0, none⟩ = some (.int .i64 (i : Int))) := by
                obtain ⟨s1, s2, s3, s4⟩ := HS0.out
                exact ⟨hk9.cell s1 (fun h => h), hk9.cell s2 (fun h => h), hk9.cell s3 (fun h => h), hk9.cell s4 (fun h => h)⟩
              have K19 := Lib.hid (KD1.trans hk9)
              have HFX := Lib.hid (HSEE.out.2.1.keeps0 K19.out)
              have X4 : Boxed W9 b4 22 (.slice none 0 0) := (HFX.out (b4, 22, .slice none 0 0) (by simp)).2
              have X5 : Boxed W9 b5 3 (.int .i64 0) := (HFX.out (b5, 3, .int .i64 0) (by simp)).2
              have X6 : Boxed W9 b6 4 (.bool false) := (HFX.out (b6, 4, .bool false) (by simp)).2
              have Y4 : Boxed W b4 22 (.slice none 0 0) := (H1.out.fx (b4, 22, .slice none 0 0) (by simp)).2
              have Y5 : Boxed W b5 3 (.int .i64 0) := (H1.out.fx (b5, 3, .int .i64 0) (by simp)).2
              have Y6 : Boxed W b6 4 (.bool false) := (H1.out.fx (b6, 4, .bool false) (by simp)).2
              have e4 : w.heap.size ≤ b4 := (H1.out.fx (b4, 22, .slice none 0 0) (by simp)).1
              have c4 := X4.cell
              have c5 := X5.cell
              have c6 := X6.cell
              have f4 := X4.frozen
              have f5 := X5.frozen
              have f6 := X6.frozen
              have l4 := X4.lt
              have l5 := X5.lt
              have l6 := X6.lt
              have hls : b6 < W1'.heap.size := (show Boxed W1' b6 4 _ from (HSEE.out.2.1 (b6, 4, .bool false) (by simp)).2).lt
              obtain ⟨y4, y5, y6, hk3⟩ := three_set X4 X5 X6 ⟨n1.2.2.1, n1.2.2.2.1⟩ (.slice a9 (e.of y.1).path.length c9) (.int .i64 ((i : Int) + 1)) (.bool true)
              have hrow := hk3.ownsRow hown9 (fun k hk' hs => by
                have h1 := (World.ownsRow.lt hown9 k hk').1
                have h2 : W1'.heap.size ≤ k := h1
                omega)
              have KW9 : Keeps (fun k => k = b2) W W9 := ((KQD.out.mono (fun _ _ h => h.elim)).trans HK1.out).trans (K19.out.mono (fun _ _ h => h.elim))
              have KWF := (KW9.mono (S' := fun k => k = b2 ∨ k = b4 ∨ k = b5 ∨ k = b6) (fun _ _ h => .inl h)).trans (hk3.mono (fun _ _ h => .inr h))
              have hmk := ((HSEE.out.2.2.2.1.keeps (KeepsD.of0 K19.out)).keeps (KeepsD.of hk3 (fun k hk => by
                rcases hk with rfl | rfl | rfl
                · exact cells_not_deferred X4
                · exact cells_not_deferred X5
                · exact cells_not_deferred X6)))
              have HFIN := Lib.hid (show KeepsFrom W6.heap.size W _ ∧ SchIx (accW g0) (covW n) w b4 b5 b6 i T e ds .ret ((pre ++ [y]).map fun y => y.1) _ from
                ⟨keepsFrom_of KWF (fun k hs => by
                  rcases hs with rfl | rfl | rfl | rfl
                  · exact .inl hb26
                  · exact .inr ⟨_, _, _, Y4⟩
                  · exact .inr ⟨_, _, _, Y5⟩
                  · exact .inr ⟨_, _, _, Y6⟩), rfl, e.of y.1, (.slice a9 (e.of y.1).path.length c9),
                 ⟨by rw [HE.out, HSN.out, if_neg HM.out, if_pos HAC.out], H1.out.s.keep.trans' KWF (fun k hs => .inr (by
                    rcases hs with rfl | rfl | rfl | rfl
                    · exact H1.out.s.l2
                    all_goals omega)), hmk, y4, y5, y6, ownsRow_mono hrow (Nat.le_trans HSEE.out.1.keep.size (Nat.le_refl _))⟩⟩)
              have s4 : ¬ (b3 = b4) := by
                rintro rfl
                have h := (show W9.heap[b3]? = _ from K19.out.heap HSEE.out.1.x3 (fun h => h)).symm.trans X4
                simp at h
              have s47 : ¬ (b7 = b4) := by omega
              have s4x : ¬ (Bx = b4) := by
                rintro rfl
                have h := (show W9.heap[Bx]? = _ from K19.out.heap HBX9.out (fun h => h)).symm.trans X4
                simp at h
              have s4i : ¬ (bi = b4) := by
                rintro rfl
                have h := (show W9.heap[bi]? = _ from K19.out.heap HSEE.out.2.2.1 (fun h => h)).symm.trans X4
                simp at h
              have HS10 : Hid ((W9.setCell ⟨b4, 0, none⟩ (.slice a9 (e.of y.1).path.length c9)).cell? ⟨b3, 0, none⟩ = some (.map (some b2)) ∧ (W9.setCell ⟨b4, 0, none⟩ (.slice a9 (e.of y.1).path.length c9)).cell? ⟨b7, 0, none⟩ = some (.int .u32 (st : Int)) ∧ (W9.setCell ⟨b4, 0, none⟩ (.slice a9 (e.of y.1).path.length c9)).cell? ⟨Bx, 2, none⟩ = some (.int .u32 (y.1.to : Int)) ∧ (W9.setCell ⟨b4, 0, none⟩ (.slice a9 (e.of y.1).path.length c9)).cell? ⟨bi, 0, none⟩ = some (.int .i64 (i : Int))) := by
                obtain ⟨t1, t2, t3, t4⟩ := HS9.out
                have kk := (Keeps.refl (fun k => k = b4) W9).setCell (p := ⟨b4, 0, none⟩) (.inl rfl) (.slice a9 (e.of y.1).path.length c9)
                exact ⟨kk.cell t1 s4, kk.cell t2 s47, kk.cell t3 s4x, kk.cell t4 s4i⟩
              clear hK K KD1 hidx hPT2 hk9 hown9 X4 X5 X6 Y4 Y5 Y6 y4 y5 y6 hk3 hrow KW9 KWF hmk s4 s47 s4x s4i y2 x1c lBx l1 hls
              refine wpAnyHIn_one 7 rfl (by kernel_rfl) rfl (fun K hK => ?_)
              go_simp
              refine hK _ _ (fun _ => HS10.out) ?_
              clear hK K
              refine wpAnyHIn_one 8 rfl (by kernel_rfl) rfl (fun K hK => ?_)
              go_simp
              refine hK _ _ (fun h => by simp at h) ?_
              clear hK K
              refine wpAnyHIn_one 9 rfl (by kernel_rfl) rfl (fun K hK => ?_)
              go_simp
              refine hK _ _ (fun h => by simp at h) ?_
              clear hK K
              refine wpAnyHIn_done (by kernel_rfl) ?_
              gi_wp2
              exact HFIN.out
        · rintro D ys W hD hys ⟨vl', h1, hno⟩ hd
          have hys' : (ys.map fun y => y.1) = wsteps ops e.to := hys
          rw [hys'] at h1 hno
          have xic := h1.bx.cell
          have xil := h1.bx.lt
          have hi2 : i < 2000 := by
            have h1 := HOK2.out.few HL0.out; have h2 := (reached_some HL0.out).2.1; have h3 := HM2.out; have h4 := keysT_length T; omega
          have hnx : novT (accW g0) (covW n) ops st (i + 1) = (novL (accW g0) (covW n) e T (wsteps ops e.to)).1 := by
            rw [← HNT.out]; exact novT_step (by rw [HNT.out]; exact HTI2.out)
          have hno2 : NovNo (accW g0) (covW n) ops st (i + 1) := by
            intro j f hj hf
            by_cases hji : j < i
            · exact HNO.out j f hji hf
            · have hj : j = i := by omega
              subst hj
              rw [HNT.out] at hf ⊢
              rw [HTI2.out] at hf; cases hf
              exact hno
          have hle2 : i + 1 ≤ (novT (accW g0) (covW n) ops st (i + 1)).length := by
            rw [hnx]
            have h1 := (novL_prefix (acc := accW g0) (cov := covW n) (e := e) (wsteps ops e.to) T).length_le
            have h3 := HM2.out; have h4 := keysT_length T; have h5 := HLT.out; omega
          have KA := (Keeps.refl (fun _ => False) W).alloc (.cells #[.int .i64 ((i : Int) + 1)] 3)
          have hbx := Boxed.new W 3 (.int .i64 ((i : Int) + 1))
          have hlw := h1.s.keep.size
          have HL9 := Lib.hid (show SchLoop ops st (accW g0) (covW n) w b1 b2 b3 [(bw, 84, .pointer (some ⟨b, 0, none⟩)), (bn, 3, .int .i64 (n : Int)), (b4, 22, .slice none 0 0), (b5, 3, .int .i64 0), (b6, 4, .bool false), (b7, 90, .int .u32 (st : Int))] (i + 1) W.heap.size vl' (mark D :: ds) (W.alloc (.cells #[.int .i64 ((i : Int) + 1)] 3)) from
            ⟨by rw [hnx]; exact h1.s.keeps0 KA, h1.fx.keeps0 KA, hbx, hlw, hno2, (HMK6.out.cons h1.marks hD (by omega) hd).keeps (KeepsD.of0 KA), hle2, h1.nl⟩)
          have HBX := Lib.hid (show boxNat (W.alloc (.cells #[.int .i64 ((i : Int) + 1)] 3)) (.pointer (some ⟨W.heap.size, 0, none⟩)) = i + 1 by unfold boxNat; simp only; rw [hbx.cell]; simp)
          clear hbx KA hle2 hno2 hnx h1 hno hys' hys hd hlw
          gi_wp2
          refine ⟨⟨mark D :: ds, _, _, _, _, _, _, _, _, _, _, _, _, _, _, _, _, _, _, _, _, _, _, _, _, _, _, _, _, _, _, _, _, _, _, _, _, _, _, _, _, _, _, _, _, _, _, _, _, _, _, _, _, _, _, _, _, _, _, _, _, _, _, _, _, _, _, _, _, _, _, _, _, _, _, _, _, i + 1, W.heap.size, vl', HL9.out, rfl⟩, ?_⟩
          rw [HAT.out, HBN.out]
          show 2001 - boxNat _ (.pointer (some ⟨W.heap.size, 0, none⟩)) < 2001 - i
          rw [HBX.out]; omega
        · rintro D c pre W hD hsp ⟨rfl, f, v', hX⟩ hd
          have HX := Lib.hid hX
          have HSP := Lib.hid (show (pre.map fun y => y.1) <+: wsteps ops e.to from hsp)
          have HMD := Lib.hid (HMK6.out.cons hX.marks hD (by omega) hd)
          clear hX hsp hd
          gi_wp2
          refine leaves_marks HMD.out (fun W' hk => ?_)
          have z4 : Boxed W' b4 _ _ := hk.heap HX.out.x4 (fun hs => cells_not_deferred HX.out.x4 hs.2)
          have z5 : Boxed W' b5 _ _ := hk.heap HX.out.x5 (fun hs => cells_not_deferred HX.out.x5 hs.2)
          have z6 : Boxed W' b6 _ _ := hk.heap HX.out.x6 (fun hs => cells_not_deferred HX.out.x6 hs.2)
          refine ⟨.tuple #[v', .int .i64 ((i : Int) + 1), .bool true], results_cells3 rfl rfl rfl rfl (load_box Try.underlying22 rfl z4) (load_box Try.underlying3 rfl z5) (load_box Try.underlying4 rfl z6), HX.out.keep.trans' hk (fun i hi => .inr hi.1), .inr ⟨f.path, i + 1, ?_, v', rfl, ?_, fun k hk' => (World.ownsRow.lt HX.out.row k hk').1⟩⟩
          · refine NovRes.found i e f HACC.out HNO.out (by rw [HNT.out]; exact HTI2.out) ?_
            rw [HNT.out]; exact novL_some HX.out.found HSP.out
          · have hr := hk.ownsRow HX.out.row (fun k hk' hs => row_not_deferred HX.out.row k hk' hs.2)
            refine Ints.of_own (base := w.heap.size) (e := 3) ?_
            have hlen : (intsP f.path).length = f.path.length := by unfold intsP; rw [List.length_map]
            rw [hlen]; exact hr
      · have HM := Lib.hid hm
        have X4 : Boxed wr b4 22 (.slice none 0 0) := (HL.out.fx (b4, 22, .slice none 0 0) (by simp)).2
        have X5 : Boxed wr b5 3 (.int .i64 0) := (HL.out.fx (b5, 3, .int .i64 0) (by simp)).2
        have X6 : Boxed wr b6 4 (.bool false) := (HL.out.fx (b6, 4, .bool false) (by simp)).2
        have c4 := X4.cell
        have c5 := X5.cell
        have c6 := X6.cell
        have f4 := X4.frozen
        have f5 := X5.frozen
        have f6 := X6.frozen
        have l4 := X4.lt
        have l5 := X5.lt
        have l6 := X6.lt
        have hmix : Try.prog.follows .mixedOrders = true := by kernel_rfl
        have h14 : b1 ≠ b4 := by
          rintro rfl
          have h := (show wr.heap[b1]? = _ from HL.out.s.x1).symm.trans X4
          simp at h
        have h41 : b4 ≠ b1 := h14.symm
        have x1s : ((wr.setCell ⟨b4, 0, none⟩ (.slice none 0 0)).drew).cell? ⟨b1, 0, none⟩ = some (.slice (some ⟨gl, off, none⟩) m cap) := by
          have h : Boxed (wr.setCell ⟨b4, 0, none⟩ (.slice none 0 0)) b1 _ _ := (show Boxed wr b1 _ _ from HL.out.s.x1).other h14 _
          rw [cell_drew_own, ← hm]; exact h.cell
        clear hm hqc hcm hgb hgl
        gi_wp2
        gi_region
        all_goals
          gi_wp2
          obtain ⟨y4, y5, y6, hk3⟩ := three_set X4 X5 X6 ⟨n1.2.2.1, n1.2.2.2.1⟩ (.slice none 0 0) (.int .i64 ((novT (accW g0) (covW n) ops st i).length : Int)) (.bool false)
          have kd := hk3.drew
          have HT4 := Lib.hid (((Keeps.refl (fun _ => False) _).drew).heap y4 (fun h => h)); have HT5 := Lib.hid (((Keeps.refl (fun _ => False) _).drew).heap y5 (fun h => h)); have HT6 := Lib.hid (((Keeps.refl (fun _ => False) _).drew).heap y6 (fun h => h))
          have HKT := Lib.hid (HL.out.s.keep.trans' kd (fun k hk => .inr (by
            have h4 := (HL.out.fx (b4, 22, .slice none 0 0) (by simp)).1
            have h5 := (HL.out.fx (b5, 3, .int .i64 0) (by simp)).1
            have h6 := (HL.out.fx (b6, 4, .bool false) (by simp)).1
            simp only at h4 h5 h6
            rcases hk with rfl | rfl | rfl
            · exact h4
            · exact h5
            · exact h6)))
          have HMK := Lib.hid (HL.out.marks.keeps (KeepsD.of kd (fun k hk => by
            rcases hk with rfl | rfl | rfl
            · exact cells_not_deferred X4
            · exact cells_not_deferred X5
            · exact cells_not_deferred X6)))
          have HNR := Lib.hid (show NovRes (accW g0) (covW n) ops st none (novT (accW g0) (covW n) ops st i).length by
            have hle := HL.out.le
            have e : (novT (accW g0) (covW n) ops st i).length = i := by omega
            have h := NovRes.none (acc := accW g0) (cov := covW n) i HACC.out e HL.out.no
            rwa [e])
          clear y4 y5 y6 hk3 kd
          refine leaves_marks HMK.out (fun W' hk => ?_)
          have z4 : Boxed W' b4 _ _ := hk.heap HT4.out (fun hs => cells_not_deferred HT4.out hs.2)
          have z5 : Boxed W' b5 _ _ := hk.heap HT5.out (fun hs => cells_not_deferred HT5.out hs.2)
          have z6 : Boxed W' b6 _ _ := hk.heap HT6.out (fun hs => cells_not_deferred HT6.out hs.2)
          exact ⟨.tuple #[.slice none 0 0, .int .i64 ((novT (accW g0) (covW n) ops st i).length : Int), .bool false], results_cells3 rfl rfl rfl rfl (load_box Try.underlying22 rfl z4) (load_box Try.underlying3 rfl z5) (load_box Try.underlying4 rfl z6), HKT.out.trans' hk (fun i hi => .inr hi.1), .inl ⟨_, HNR.out, rfl⟩⟩
  · have c4 := X4.cell
    have c5 := X5.cell
    have c6 := X6.cell
    have f4 := X4.frozen
    have f5 := X5.frozen
    have f6 := X6.frozen
    have l4 := X4.lt
    have l5 := X5.lt
    have l6 := X6.lt
    gi_wp2
    obtain ⟨y4, y5, y6, hk3⟩ := three_set X4 X5 X6 ⟨n1.2.2.1, n1.2.2.2.1⟩ (.slice none 0 0) (.int .i64 0) (.bool true)
    have HT4 := Lib.hid y4; have HT5 := Lib.hid y5; have HT6 := Lib.hid y6
    have HKT := Lib.hid (HK3.out.trans' hk3 (fun i hi => .inr (by
      have h4 := (HFB.out (b4, 22, .slice none 0 0) (by simp)).1
      simp only at h4
      omega)))
    clear y4 y5 y6 hk3
    refine leaves_marks (B := w.heap.size) (Marks.nil _ _) (fun W' hk => ?_)
    have z4 : Boxed W' b4 _ _ := hk.heap HT4.out (fun hs => cells_not_deferred HT4.out hs.2)
    have z5 : Boxed W' b5 _ _ := hk.heap HT5.out (fun hs => cells_not_deferred HT5.out hs.2)
    have z6 : Boxed W' b6 _ _ := hk.heap HT6.out (fun hs => cells_not_deferred HT6.out hs.2)
    refine ⟨.tuple #[.slice none 0 0, .int .i64 0, .bool true], results_cells3 rfl rfl rfl rfl (load_box Try.underlying22 rfl z4) (load_box Try.underlying3 rfl z5) (load_box Try.underlying4 rfl z6), HKT.out.trans' hk (fun i hi => .inr hi.1), .inr ⟨[], 0, .start hacc, _, rfl, Ints.nil _, fun k hk => by simp [Value.ownBlock] at hk⟩⟩

theorem search_any (w : World) (b st g0 base : Nat) (v : Value) (ops : List Wop) (hw : WordsAt w base b st g0 v ops) (hops : WopsOk ops) (hmany : ops.length ≤ 40) (hst : st < 4294967296) (l : List Nat) (hl : reached ops st = some l) (n : Nat) (hn : n ≤ 1000) :
    Calls Try.prog 72 #[.pointer (some ⟨b, 0, none⟩), .int .i64 (n : Int)] w (SearchPost ops st (accW g0) (covW n) w) := callsIn_wide.1 (search_in w b st g0 base v ops hw hops hmany hst l hl n hn)

end Go.Proofs.Ytcfcmmajlkkabaa
