/- novelty.search. CostOf: the cost of a plan. novelty.Plan. A search by novelty of a width that no state exceeds finds a plan if there is one, in plain words. novelty.Width. No condition beyond what each theorem says. -/
import Derived.Test.YtdonadeodioplaaK11
import Derived.Test.YtdonadeodioplaaK5
import Derived.BigQuiet
import Derived.Test.YtdonadeodioplaaK8
import Derived.Test.YtdonadeodioplaaK10

namespace Go.Proofs.Ytdonadeodioplaa
open Go.RowKit Go.Shelf
attribute [local go_sem] Oper.semAt_some

set_option maxRecDepth 100000 in
set_option maxHeartbeats 4000000 in
theorem search_in (w : World) (b st g0 base : Nat) (v : Value) (ops : List Wop) (hw : WordsAt w base b st g0 v ops) (hops : WopsOk ops) (hmany : ops.length ≤ 40) (hst : st < 4294967296) (l : List Nat) (hl : reached ops st = some l) (n : Nat) (hn : n ≤ 1000) :
    CallsIn Fence.wide 9 Try.prog 65 #[.pointer (some ⟨b, 0, none⟩), .int .i64 (n : Int)] w (SearchPost ops st (accW g0) (covW n) w) := by
  have HL0 := Lib.hid hl; have HW0 := Lib.hid hw
  have hmm := @run_makeMap Try.prog
  have F0 : Fixed w [] w := fun p hp => by simp at hp
  have F1 := F0.add (Nat.le_refl _) 71 (.pointer (some ⟨b, 0, none⟩))
  have F2 := F1.add (by simp) 3 (.int .i64 (n : Int))
  have F3 := F2.add (by simp; omega) 22 (.slice none 0 0)
  have F4 := F3.add (by simp; omega) 3 (.int .i64 0)
  have F5 := F4.add (by simp; omega) 4 (.bool false)
  have K5 := ((((Keeps.refl (fun _ => False) w).alloc (.cells #[.pointer (some ⟨b, 0, none⟩)] 71)).alloc (.cells #[.int .i64 (n : Int)] 3)).alloc (.cells #[.slice none 0 0] 22)).alloc (.cells #[.int .i64 0] 3) |>.alloc (.cells #[.bool false] 4)
  have HW := Lib.hid (hw.keeps0 K5)
  simp only [World.size_alloc, List.nil_append, List.cons_append] at F5
  have HF := Lib.hid F5; have HK := Lib.hid K5
  clear hw hl F0 F1 F2 F3 F4 F5 K5
  refine callsIn_of_wp_marks Try.func65 rfl trivial ?_ rfl
  simp only [Try.ntmps65, List.size_toArray, List.length_cons, List.length_nil, Nat.reduceAdd, Nat.reduceSub, Array.replicate_succ, Array.replicate_zero, List.push_toArray, List.append_toArray, List.nil_append, List.cons_append]
  gi_wp2
  refine ⟨trivial, ?_⟩
  refine (callsIn_wide.2 (start_any _ _ _ _ _ _ _ HW.out)).mono ?_; rintro e w1 ⟨rfl, rfl⟩
  obtain ⟨W1, hW1⟩ : ∃ W1, (((((w.alloc (.cells #[.pointer (some ⟨b, 0, none⟩)] 71)).alloc (.cells #[.int .i64 (n : Int)] 3)).alloc (.cells #[.slice none 0 0] 22)).alloc (.cells #[.int .i64 0] 3)).alloc (.cells #[.bool false] 4)) = W1 := ⟨_, rfl⟩
  have hz1 : W1.heap.size = w.heap.size + 1 + 1 + 1 + 1 + 1 := by rw [← hW1]; simp
  rw [hW1] at HF HK HW ⊢
  have F6 := HF.out.add HK.out.size 75 (.int .u32 (st : Int))
  have KA := (Keeps.refl (fun _ => False) W1).alloc (.cells #[.int .u32 (st : Int)] 75)
  have HW2 := Lib.hid (HW.out.keeps0 KA)
  have HK2 := Lib.hid (HK.out.trans KA)
  simp only [List.cons_append, List.nil_append, hz1] at F6
  have HF2 := Lib.hid F6
  clear hW1 F6 KA HF HK HW
  have x2 := (show Boxed _ _ _ _ from (HF2.out _ (List.mem_cons_self ..)).2).cell
  have x7 := (show Boxed _ _ _ _ from (HF2.out (w.heap.size + 1 + 1 + 1 + 1 + 1, 75, .int .u32 (st : Int)) (by simp)).2).cell
  simp only at x2 x7
  gi_wp2
  refine ⟨trivial, ?_⟩
  refine (callsIn_wide.2 (goal_any _ base b st g0 st v ops HW2.out)).mono ?_; rintro e w3 ⟨rfl, q, rfl⟩
  have KQ := (Keeps.refl (fun _ => False) (W1.alloc (.cells #[.int .u32 (st : Int)] 75))).drewN q
  have HF3 := Lib.hid (HF2.out.keeps0 KQ); have HW3 := Lib.hid (HW2.out.keeps0 KQ); have HK3 := Lib.hid (HK2.out.trans KQ)
  clear x2 x7 HF2 HW2 HK2 KQ
  generalize (W1.alloc (.cells #[.int .u32 (st : Int)] 75)).drewN q = W3 at HF3 HW3 HK3 ⊢
  clear hz1
  obtain ⟨bn, hbn⟩ : ∃ bn, w.heap.size + 1 = bn := ⟨_, rfl⟩
  rw [hbn] at HF3 ⊢
  obtain ⟨b4, hb4⟩ : ∃ b4, bn + 1 = b4 := ⟨_, rfl⟩
  rw [hb4] at HF3 ⊢
  obtain ⟨b5, hb5⟩ : ∃ b5, b4 + 1 = b5 := ⟨_, rfl⟩
  rw [hb5] at HF3 ⊢
  obtain ⟨b6, hb6⟩ : ∃ b6, b5 + 1 = b6 := ⟨_, rfl⟩
  rw [hb6] at HF3 ⊢
  obtain ⟨b7, hb7⟩ : ∃ b7, b6 + 1 = b7 := ⟨_, rfl⟩
  rw [hb7] at HF3 ⊢
  obtain ⟨bw, hbw⟩ : ∃ bw, w.heap.size = bw := ⟨_, rfl⟩
  have HFB : Hid (Fixed w [(bw, 71, .pointer (some ⟨b, 0, none⟩)), (bn, 3, .int .i64 (n : Int)), (b4, 22, .slice none 0 0), (b5, 3, .int .i64 0), (b6, 4, .bool false), (b7, 75, .int .u32 (st : Int))] W3) := by rw [← hbw]; exact HF3
  have n1 : bw < bn ∧ bn < b4 ∧ b4 < b5 ∧ b5 < b6 ∧ b6 < b7 := by omega
  have HBW := Lib.hid hbw
  rw [hbw]
  clear hbw hbn hb4 hb5 hb6 hb7 HF3
  have X2 : Boxed W3 bw 71 (.pointer (some ⟨b, 0, none⟩)) := (HFB.out _ (List.mem_cons_self ..)).2
  have X3 : Boxed W3 bn 3 (.int .i64 (n : Int)) := (HFB.out (bn, 3, .int .i64 (n : Int)) (by simp)).2
  have X4 : Boxed W3 b4 22 (.slice none 0 0) := (HFB.out (b4, 22, .slice none 0 0) (by simp)).2
  have X5 : Boxed W3 b5 3 (.int .i64 0) := (HFB.out (b5, 3, .int .i64 0) (by simp)).2
  have X6 : Boxed W3 b6 4 (.bool false) := (HFB.out (b6, 4, .bool false) (by simp)).2
  have X7 : Boxed W3 b7 75 (.int .u32 (st : Int)) := (HFB.out (b7, 75, .int .u32 (st : Int)) (by simp)).2
  rcases hacc : (bits .and .u32 (st : Int) (g0 : Int) == (g0 : Int)) with _ | _
  · have hm0 : IMap (W3.alloc (.map #[] 0)) W3.heap.size .u32 [] := IMap.made W3 .u32
    have c7 := X7.cell
    have l7 := X7.lt
    have hlow3 : w.heap.size ≤ W3.heap.size := HK3.out.size
    obtain ⟨W4, hrun, hI4, hk4⟩ := hm0.run_update_new (P := Try.prog) Try.underlying163 Try.underlying75 (x := (st : Int)) (by simp) (.agg #[.int .u32 (st : Int), .int .i64 0])
    have k34 : Keeps (fun k => k = W3.heap.size) W3 W4 := ((Keeps.refl (fun k => k = W3.heap.size) W3).alloc (.map #[] 0)).trans hk4
    have HF4 := Lib.hid (HFB.out.by k34 (fun p hp e => by have := lt_of_heap (HFB.out p hp).2; omega))
    have c7' : W4.cell? ⟨b7, 0, none⟩ = some (.int .u32 (st : Int)) := k34.cell c7 (by simp only; omega)
    have l7' : b7 < W4.heap.size := Nat.lt_of_lt_of_le l7 k34.size
    gi_wp2
    have hz4 : W3.heap.size + 1 ≤ W4.heap.size := by have := hk4.size; simpa using this
    obtain ⟨b2, hb2⟩ : ∃ b2, W3.heap.size = b2 := ⟨_, rfl⟩
    obtain ⟨b3, hb3⟩ : ∃ b3, W4.heap.size = b3 := ⟨_, rfl⟩
    have kA := (Keeps.refl (fun _ => False) W4).alloc (.cells #[.map (some b2)] 163)
    have kB := (Keeps.refl (fun _ => False) (W4.alloc (.cells #[.map (some b2)] 163))).alloc (.cells #[.int .u32 (st : Int)] 75)
    have kC := (Keeps.refl (fun _ => False) ((W4.alloc (.cells #[.map (some b2)] 163)).alloc (.cells #[.int .u32 (st : Int)] 75))).alloc (.cells #[.slice (some ⟨b3 + 1, 0, none⟩) 1 1] 72)
    have kD := (Keeps.refl (fun _ => False) (((W4.alloc (.cells #[.map (some b2)] 163)).alloc (.cells #[.int .u32 (st : Int)] 75)).alloc (.cells #[.slice (some ⟨b3 + 1, 0, none⟩) 1 1] 72))).alloc (.cells #[.int .i64 0] 3)
    have n3 := Boxed.new W4 163 (.map (some b2))
    have nl := Tail.new (W4.alloc (.cells #[.map (some b2)] 163)) w.heap.size 75 (.int .u32 (st : Int)) (by simp; omega)
    have n1' := Boxed.new ((W4.alloc (.cells #[.map (some b2)] 163)).alloc (.cells #[.int .u32 (st : Int)] 75)) 72 (.slice (some ⟨b3 + 1, 0, none⟩) 1 1)
    have ni := Boxed.new (((W4.alloc (.cells #[.map (some b2)] 163)).alloc (.cells #[.int .u32 (st : Int)] 75)).alloc (.cells #[.slice (some ⟨b3 + 1, 0, none⟩) 1 1] 72)) 3 (.int .i64 0)
    rw [hb2, hb3]
    rw [hb3] at n3
    simp only [World.size_alloc, hb3] at nl n1' ni
    have hI4' : IMap W4 b2 .u32 (parL [⟨st, st, 0, []⟩]) := by rw [← hb2]; simpa [parL] using hI4
    have kAD := kA.trans (kB.trans (kC.trans kD))
    have kw4 : Keeps (fun _ => False) w W4 := HK3.out.trans' k34 (fun i e => .inr (by omega))
    have HF5 := Lib.hid (HF4.out.keeps0 kAD)
    have HS5 := Lib.hid (show FirS w (b3 + 1 + 1) b2 b3 (novT (accW g0) (covW n) ops st 0) (keysT (novT (accW g0) (covW n) ops st 0)) (.slice (some ⟨b3 + 1, 0, none⟩) 1 1) _ from
      ⟨kw4.trans kAD, kD.heap n1' (fun h => h), (kB.trans (kC.trans kD)).heap n3 (fun h => h), nl.keeps (kC.trans kD) (fun _ _ h => h), hI4'.keeps kAD (fun h => h), by omega, by omega, by omega⟩)
    have HI5 := Lib.hid ni
    have HACC := Lib.hid hacc
    have HNL := Lib.hid (show ∀ p ∈ [(bw, 71, (Value.pointer (some ⟨b, 0, none⟩))), (bn, 3, .int .i64 (n : Int)), (b4, 22, .slice none 0 0), (b5, 3, .int .i64 0), (b6, 4, .bool false), (b7, 75, .int .u32 (st : Int))], p.1 ≠ b3 + 1 + 1 ∧ (Value.slice (some ⟨b3 + 1, 0, none⟩) 1 1).ownBlock ≠ some p.1 from
      fun p hp => by
        have := lt_of_heap (HF4.out p hp).2
        refine ⟨by omega, fun e => ?_⟩
        simp [Value.ownBlock] at e; omega)
    have hlb3 : w.heap.size ≤ b3 + 1 + 1 + 1 := by omega
    clear kA kB kC kD n3 nl n1' ni hI4' kAD kw4 hI4 hm0 hk4 k34 c7 c7' l7 l7' X2 X3 X4 X5 X6 X7 HFB HF4 hrun hacc
    generalize ((((W4.alloc (.cells #[.map (some b2)] 163)).alloc (.cells #[.int .u32 (st : Int)] 75)).alloc (.cells #[.slice (some ⟨b3 + 1, 0, none⟩) 1 1] 72)).alloc (.cells #[.int .i64 0] 3)) = W5 at HF5 HS5 HI5 ⊢
    clear hb2 hb3 hz4
    generalize b3 + 1 + 1 + 1 = bi0 at HI5 hlb3 ⊢
    generalize b3 + 1 + 1 = b1 at HS5 HNL ⊢
    generalize b3 + 1 = ba at HS5 HNL ⊢
    obtain ⟨i0, hi0, hz0, hz1, hz2⟩ := info_parts Try.info_u32
    refine wpIn_loop (fun a' wr => SchRel ops st g0 n w b bw bn b1 b2 b3 b4 b5 b6 b7 a' wr)
      (fun a' W => 2001 - boxNat W (a'.tmps.getD 10 undef)) ?start ?round
    case start =>
      have hle0 : 0 ≤ (novT (accW g0) (covW n) ops st 0).length := Nat.zero_le _
      have hno0 : NovNo (accW g0) (covW n) ops st 0 := fun j e hj => absurd hj (Nat.not_lt_zero _)
      exact ⟨[], _, _, _, _, _, _, _, _, _, _, _, _, _, _, _, _, _, _, _, _, _, _, _, _, _, _, _, _, _, _, _, _, _, _, _, _, _, _, _, _, _, _, _, _, _, _, _, _, _, _, _, _, _, _, _, _, _, _, _, _, _, _, _, _, _, _, _, _, _, _, _, _, _, _, _, _, 0, bi0, _, ⟨HS5.out, HF5.out, HI5.out, hlb3, hno0, Marks.nil _ _, hle0, HNL.out⟩, rfl⟩
    case round =>
      intro a wr hrel
      refine SchRel.elim hrel ?_
      clear hrel
      intro ds u11 u12 u13 u14 u15 u16 u17 u18 u19 u20 u21 u22 u23 u24 u25 u26 u27 u28 u29 u30 u31 u32 u33 u34 u35 u36 u37 u38 u39 u40 u41 u42 u43 u44 u45 u46 u47 u48 u49 u50 u51 u52 u53 u54 u55 u56 u57 u58 u59 u60 u61 u62 u63 u64 u65 u66 u67 u68 u69 u70 u71 u72 u73 u74 u75 u76 u77 u78 u79 u80 u81 u82 u83 u84 u85 u86 i bi vl hL HAT
      have HL := Lib.hid hL
      clear hL
      have x1c := HL.out.s.x1.cell
      have x1l := HL.out.s.x1.lt
      have xic := HL.out.bx.cell
      have xil := HL.out.bx.lt
      obtain ⟨gl, off, cap, hv, hqc, hcm, hgb, hgl⟩ := HL.out.s.line.form
      rw [List.length_map] at hv
      subst hv
      have hTl : (keysT (novT (accW g0) (covW n) ops st i)).length = (novT (accW g0) (covW n) ops st i).length := by unfold keysT; rw [List.length_map]
      have hfew : (novT (accW g0) (covW n) ops st i).length ≤ 2000 := Nat.le_trans ((novT_ok _ _ _ _ i).few HL0.out) (reached_some HL0.out).2.1
      obtain ⟨m, hm⟩ : ∃ m, (keysT (novT (accW g0) (covW n) ops st i)).length = m := ⟨_, rfl⟩
      rw [hm] at x1c hTl
      by_cases hlt : i < m
      · obtain ⟨e, hTi⟩ : ∃ e, (novT (accW g0) (covW n) ops st i)[i]? = some e := ⟨_, List.getElem?_eq_getElem (by omega)⟩
        have hok := novT_ok (accW g0) (covW n) ops st i
        have hx32 : e.to < 4294967296 := reach_small hops hst (hok.reach e (List.mem_of_getElem? hTi))
        have hki : ((keysT (novT (accW g0) (covW n) ops st i)).map encW)[i]? = some (.int .u32 (e.to : Int)) := by
          unfold keysT; rw [List.getElem?_map, List.getElem?_map, hTi]; rfl
        have hci := HL.out.s.line.at rfl hki
        have X2 : Boxed wr bw 71 (.pointer (some ⟨b, 0, none⟩)) := (HL.out.fx _ (List.mem_cons_self ..)).2
        have c2 := X2.cell
        have l2 := X2.lt
        have HM := Lib.hid hm; have HTI := Lib.hid hTi; have HOK := Lib.hid hok; have HTL := Lib.hid hTl; have HFEW := Lib.hid hfew
        have q1 : (i : Int) < (m : Int) := by omega
        have q2 : (0 : Int) ≤ (i : Int) := by omega
        have hmix : Try.prog.follows .mixedOrders = true := by kernel_rfl
        have HLT := Lib.hid hlt
        clear hm hTi hok hki hqc hcm hgb hTl hfew
        gi_wp2
        refine wpIn_region_still_tail 5 Wide.wide hmix rfl (by kernel_rfl) ?_
        simp only [List.take_succ_cons, List.take_zero, List.drop_succ_cons, List.drop_zero]
        repeat still_step
        refine wpStill_nil ?_
        have HL4 := Lib.hid (HL.out.keeps0 ((Keeps.refl (fun _ => False) wr).drew))
        clear x1c x1l xic xil hci X2 c2 l2 q1 q2
        obtain ⟨W4, hW4⟩ : ∃ W4, wr.drew = W4 := ⟨_, rfl⟩
        rw [hW4] at HL4 ⊢
        have HBN := Lib.hid (show boxNat wr (.pointer (some ⟨bi, 0, none⟩)) = i by unfold boxNat; simp only; rw [HL.out.bx.cell]; simp)
        clear HL hW4
        gi_wp2
        refine ⟨trivial, ?_⟩
        refine (callsIn_wide.2 (steps_any W4 b e.to)).mono ?_; rintro en w5 ⟨rfl, rfl⟩
        gi_wp2
        obtain ⟨W6, hW6⟩ : ∃ W6, ((W4.alloc (.cells #[.pointer (some ⟨b, 0, none⟩)] 71)).alloc (.cells #[.int .u32 (e.to : Int)] 75)) = W6 := ⟨_, rfl⟩
        have hz6 : W6.heap.size = W4.heap.size + 1 + 1 := by rw [← hW6]; simp
        have k6 : Keeps (fun _ => False) W4 W6 := by rw [← hW6]; exact ((Keeps.refl _ _).alloc _).alloc _
        have hBw : W6.cell? ⟨W4.heap.size, 0, none⟩ = some (.pointer (some ⟨b, 0, none⟩)) := by
          rw [← hW6]; exact ((Boxed.new W4 _ _).alloc _).cell
        have hBs : W6.heap[W4.heap.size + 1]? = some (.cells #[.int .u32 (e.to : Int)] 75 (0, 0)) := by
          rw [← hW6]
          have := heap_alloc_new (W4.alloc (.cells #[.pointer (some ⟨b, 0, none⟩)] 71)) (.cells #[.int .u32 (e.to : Int)] 75)
          rwa [World.size_alloc] at this
        have hBsc : W6.cell? ⟨W4.heap.size + 1, 0, none⟩ = some (.int .u32 (e.to : Int)) := by rw [cell_of_blk hBs]; rfl
        rw [hW6]
        have hlow4 : w.heap.size ≤ W4.heap.size := HL4.out.s.keep.size
        have HL6 := Lib.hid (HL4.out.keeps0 k6)
        have hns : (Value.slice (some ⟨gl, off, none⟩) m cap).ownBlock ≠ some (W4.heap.size + 1) := fun h => by have := (HL4.out.s.line.lt _ h).2; omega
        have HIN := Lib.hid (show SchIn w b1 b2 b3 [(bw, 71, .pointer (some ⟨b, 0, none⟩)), (bn, 3, .int .i64 (n : Int)), (b4, 22, .slice none 0 0), (b5, 3, .int .i64 0), (b6, 4, .bool false), (b7, 75, .int .u32 (st : Int))] bi i (novT (accW g0) (covW n) ops st i) ds (W4.heap.size + 1) e.to _ W6 from ⟨HL6.out.s, HL6.out.fx, HL6.out.bx, HL6.out.lb, HL6.out.marks, hBs, by rw [← HM.out] at hns; exact hns, HL6.out.nl⟩)
        have HMK6 := Lib.hid HL6.out.marks
        have HNO := Lib.hid HL6.out.no
        have HWW := Lib.hid (show ∃ w0 : World, WordsAt w0 base b st g0 v ops ∧ w0.heap.size ≤ w.heap.size ∧ Below w.heap.size w0 W6 from ⟨w, HW0.out, Nat.le_refl _, HL6.out.s.keep.below⟩)
        have HWL := Lib.hid (show (wsteps ops e.to).length ≤ 40 from Nat.le_trans (wsteps_le ops e.to) hmany)
        have hb6 : w.heap.size ≤ W6.heap.size := by omega
        have hb26 : b2 < W6.heap.size := HL6.out.s.map.lt
        have hlow : w.heap.size ≤ bi := HL6.out.lb
        clear hns hBs HL4 HL6
        obtain ⟨T, hT⟩ : ∃ T, novT (accW g0) (covW n) ops st i = T := ⟨_, rfl⟩
        have HNT := Lib.hid hT
        have HTI2 : Hid (T[i]? = some e) := by unfold Hid; rw [← hT]; exact HTI.out
        have HOK2 : Hid (PTree ops st T) := by unfold Hid; rw [← hT]; exact HOK.out
        have HM2 : Hid ((keysT T).length = m) := by unfold Hid; rw [← hT]; exact HM.out
        rw [hT] at HIN
        clear hT HTI HOK HTL HFEW HM
        refine wpIn_rangeFunc_ownH (α := StpOf ops e.to) rfl (by omega) (gf := 91) (lb := #[.pointer (some ⟨W4.heap.size, 0, none⟩), .pointer (some ⟨W4.heap.size + 1, 0, none⟩)]) rfl trivial (enters_of Try.func91 (by kernel_rfl) rfl)
          (steps_stops Fence.wide 8 trivial rfl (by omega) W4.heap.size (W4.heap.size + 1) w.heap.size base b st g0 e.to v ops hops (by omega) hx32 W6 (by omega) hBw hBsc (by omega) (by omega) HWW.out)
          KpS.trans (kpS_b (by omega) (by omega)) (Below.refl _ _) (fun _ => rfl)
          (fun pre W => SchI (accW g0) (covW n) w b1 b2 b3 [(bw, 71, .pointer (some ⟨b, 0, none⟩)), (bn, 3, .int .i64 (n : Int)), (b4, 22, .slice none 0 0), (b5, 3, .int .i64 0), (b6, 4, .bool false), (b7, 75, .int .u32 (st : Int))] bi i T e ds (W4.heap.size + 1) (pre.map fun y => y.1) W)
          (fun c pre W => SchIx (accW g0) (covW n) w b4 b5 b6 i T e ds c (pre.map fun y => y.1) W) ?_ ?_ ?_
          (fun (y : StpOf ops e.to) (a' : Act) (W : World) => ∃ Bx : Nat, W.heap[Bx]? = some (Obj.cells #[.int .i64 (y.1.op : Int), .int .i64 y.1.cost, .int .u32 (y.1.to : Int)] 86 (0, 0)) ∧ ∃ u : Nat → Value, a' = { tmps := #[.pointer (some ⟨b, 0, none⟩), .int .i64 (n : Int), .pointer (some ⟨bw, 0, none⟩), .pointer (some ⟨bn, 0, none⟩), .pointer (some ⟨b4, 0, none⟩), .pointer (some ⟨b5, 0, none⟩), .pointer (some ⟨b6, 0, none⟩), .pointer (some ⟨b7, 0, none⟩), .pointer (some ⟨b3, 0, none⟩), .pointer (some ⟨b1, 0, none⟩), .pointer (some ⟨bi, 0, none⟩), .pointer (some ⟨Bx, 0, none⟩), u 12, u 13, u 14, u 15, u 16, u 17, u 18, u 19, u 20, u 21, u 22, u 23, u 24, u 25, u 26, u 27, u 28, u 29, u 30, u 31, u 32, u 33, u 34, u 35, u 36, u 37, u 38, u 39, u 40, u 41, u 42, u 43, u 44, u 45, u 46, u 47, u 48, u 49, u 50, u 51, u 52, u 53, u 54, u 55, u 56, u 57, u 58, u 59, u 60, u 61, u 62, u 63, u 64, u 65, u 66, u 67, u 68, u 69, u 70, u 71, u 72, u 73, u 74, u 75, u 76, u 77, u 78, u 79, u 80, u 81, u 82, u 83, u 84, u 85, u 86], defers := [] }) ?_ ?_ ?_ ?_ ?_
        · intro l W W' row hs hg hr
          obtain ⟨vl', h1, h2⟩ := hs
          exact ⟨vl', h1.steady HMK6.out hg hr hb6 hb26, h2⟩
        · intro c l W W' row hs hg hr
          exact SchIx.steady hs HMK6.out hg hr hb6
        · exact ⟨_, HIN.out, rfl⟩
        · intro y a' _ W W' row hs hg hr
          obtain ⟨Bx, h1, h2⟩ := hs
          exact ⟨Bx, steady_heap hg (fun r e => (hr r e).2) h1, h2⟩
        · intro l pre y W K hi hK
          simp only [Stp.val]
          gi_wp2
          obtain ⟨vl', h1, h2⟩ := hi
          exact hK _ _ ((KeepsOthers.alloc _ _).from _) ((KpS.refl _ _ W).alloc h1.s.keep.size (lt_of_heap h1.bs) _) ⟨vl', h1.keeps0 ((Keeps.refl _ _).alloc _), h2⟩ ⟨W.heap.size, heap_alloc_new W _, ex_fn rfl⟩
        · rintro l pre y a' W hl - ⟨vl', h1, hno⟩ ⟨Bx, hBx, u, rfl⟩ hlt2
          have hsn := novL_snoc (x := y.1) hno
          have hPT : PTree ops st (novL (accW g0) (covW n) e T (pre.map fun y => y.1)).1 := novL_ok HOK2.out (List.mem_of_getElem? HTI2.out) (fun x hx => by obtain ⟨z, _, rfl⟩ := List.mem_map.1 hx; exact z.2)
          have hpx := novL_prefix (acc := accW g0) (cov := covW n) (e := e) (pre.map fun y => y.1) T
          have HE : Hid ((pre ++ [y]).map (fun y => y.1) = (pre.map fun y => y.1) ++ [y.1]) := by unfold Hid; rw [List.map_append]; rfl
          obtain ⟨T', hT'⟩ : ∃ T', (novL (accW g0) (covW n) e T (pre.map fun y => y.1)).1 = T' := ⟨_, rfl⟩
          rw [hT'] at h1 hsn hPT hpx
          have HSN := Lib.hid hsn
          have hy32 : y.1.to < 4294967296 := reach_small hops hst (.step (HOK2.out.reach e (List.mem_of_getElem? HTI2.out)) (by rw [← wsteps_nexts]; exact List.mem_map.2 ⟨y.1, y.2, rfl⟩))
          have hk32 : ∀ x ∈ keysT T', x < 4294967296 := fun x hx => by obtain ⟨f, hf, rfl⟩ := List.mem_map.1 hx; exact reach_small hops hst (hPT.reach f hf)
          have hfew : T'.length ≤ 2000 := Nat.le_trans (hPT.few HL0.out) (reached_some HL0.out).2.1
          have hTi' : T'[i]? = some e := by obtain ⟨r, rfl⟩ := hpx; rw [List.getElem?_append_left (List.getElem?_eq_some_iff.1 HTI2.out).1]; exact HTI2.out
          have hil : i < T'.length := (List.getElem?_eq_some_iff.1 hTi').1
          have HPT := Lib.hid hPT; have HK32 := Lib.hid hk32; have HTI' := Lib.hid hTi'; have HFEW := Lib.hid hfew; have HIL := Lib.hid hil
          clear hsn hno hPT hpx hT' hk32 hTi' hfew hil
          have x3c := h1.s.x3.cell
          have x3l := h1.s.x3.lt
          have y0 : W.cell? ⟨Bx, 0, none⟩ = some (.int .i64 (y.1.op : Int)) := by rw [cell_of_blk hBx]; rfl
          have y2 : W.cell? ⟨Bx, 2, none⟩ = some (.int .u32 (y.1.to : Int)) := by rw [cell_of_blk hBx]; rfl
          have hBxl := lt_of_heap hBx
          have X2 : Boxed W bw 71 (.pointer (some ⟨b, 0, none⟩)) := (h1.fx _ (List.mem_cons_self ..)).2
          have c2 := X2.cell
          have l2 := X2.lt
          by_cases hm : y.1.to ∈ keysT T'
          · obtain ⟨f, hf, hfy⟩ := List.mem_map.1 hm
            have hlk := (h1.s.map.run_lookup_hit (P := Try.prog) Try.underlying163 Try.underlying75 (parL_nodup HPT.out.nodup) (parL_mem hf)).1
            rw [hfy] at hlk
            have H1 := Lib.hid h1; have HM := Lib.hid hm
            clear h1 hf hfy hm hBx X2
            gi_wp2
            refine ⟨(KeepsOthers.alloc _ _).from _, (KpS.refl _ _ W).alloc H1.out.s.keep.size (lt_of_heap H1.out.bs) _, ⟨vl', ?_, ?_⟩⟩
            · rw [HE.out, HSN.out, if_pos HM.out]; exact H1.out.keeps0 ((Keeps.refl _ _).alloc _)
            · rw [HE.out, HSN.out, if_pos HM.out]
          · have hlk := (h1.s.map.run_lookup_miss (P := Try.prog) Try.underlying163 Try.underlying75 (z := .agg #[.int .u32 0, .int .i64 0]) (by simp [Try.zeroValue162]) (parL_miss hm)).1
            have H1 := Lib.hid h1; have HM := Lib.hid hm; have HBX := Lib.hid hBx
            clear h1 hm hBx X2
            gi_wp2
            have KA := (Keeps.refl (fun _ => False) W).alloc (.cells #[.int .u32 0, .int .i64 0] 162)
            refine ⟨trivial, ?_⟩
            refine (CallsIn.inRound l (callsIn_wide.2 (goal_any _ base b st g0 y.1.to v ops (HW0.out.keeps0 (H1.out.s.keep.trans KA))))).mono ?_; rintro en w7 ⟨rfl, q7, rfl⟩
            have KQ := Lib.hid (KA.drewN q7)
            have H7 := Lib.hid (H1.out.keeps0 KQ.out); have HBX7 := Lib.hid (KQ.out.heap HBX.out (fun h => h))
            clear KA x3c x3l y0 y2 hBxl c2 l2 hlk HBX
            generalize ((W.alloc (.cells #[.int .u32 0, .int .i64 0] 162)).drewN q7) = W7 at KQ H7 HBX7 ⊢
            have x3c := H7.out.s.x3.cell
            have x1c := H7.out.s.x1.cell
            have x1l := H7.out.s.x1.lt
            have y0 : W7.cell? ⟨Bx, 0, none⟩ = some (.int .i64 (y.1.op : Int)) := by rw [cell_of_blk HBX7.out]; rfl
            have y2 : W7.cell? ⟨Bx, 2, none⟩ = some (.int .u32 (y.1.to : Int)) := by rw [cell_of_blk HBX7.out]; rfl
            have X3 : Boxed W7 bn 3 (.int .i64 (n : Int)) := (H7.out.fx (bn, 3, .int .i64 (n : Int)) (by simp)).2
            have c3 := X3.cell
            have ci := H7.out.bx.cell
            have lBx := lt_of_heap HBX7.out
            clear X3
            rcases hacc : (bits .and .u32 (y.1.to : Int) (g0 : Int) == (g0 : Int)) with _ | _
            · have HAC := Lib.hid (show accW g0 y.1.to = false from hacc)
              have HS := Lib.hid (show Wds W7 vl' (keysT T') by have h := H7.out.s.line.sl; rw [List.length_map] at h; exact h)
              gi_wp2
              refine ⟨trivial, ?_⟩
              refine (CallsIn.inRound l (callsIn_wide.2 (covered_any y.1.to hy32 (keysT T') HK32.out n _ _ 0 (by omega) (by omega) HS.out))).mono ?_; rintro en W8 ⟨rfl, hk8, -⟩
              have KQ8 := Lib.hid (KQ.out.trans hk8)
              have H8 := Lib.hid (H7.out.keeps0 hk8); have HBX8 := Lib.hid (hk8.heap HBX7.out (fun h => h))
              clear hk8 x3c x1c x1l y0 y2 c3 ci lBx KQ H7 HBX7 HS hacc
              rcases hcov : covN y.1.to (keysT T') n 0 with _ | _
              · have HCV := Lib.hid (show covW n y.1.to (keysT T') = false from hcov)
                clear hcov
                have hmx := HM.out
                obtain ⟨gq, oq, cq, hvq, -, -, -, hgq⟩ := H8.out.s.line.form
                rw [List.length_map, keysT_length] at hvq
                subst hvq
                have hki : ((keysT T').map encW)[i]? = some (.int .u32 (e.to : Int)) := by
                  unfold keysT; rw [List.getElem?_map, List.getElem?_map, HTI'.out]; rfl
                have hce := H8.out.s.line.at rfl hki
                have x3c := H8.out.s.x3.cell
                have x1c := H8.out.s.x1.cell
                have ci := H8.out.bx.cell
                have y0 : W8.cell? ⟨Bx, 0, none⟩ = some (.int .i64 (y.1.op : Int)) := by rw [cell_of_blk HBX8.out]; rfl
                have y2 : W8.cell? ⟨Bx, 2, none⟩ = some (.int .u32 (y.1.to : Int)) := by rw [cell_of_blk HBX8.out]; rfl
                have lBx := lt_of_heap HBX8.out
                have q1 : (i : Int) < (T'.length : Int) := by have := HIL.out; omega
                have q2 : (0 : Int) ≤ (i : Int) := by omega
                have KD := (Keeps.refl (fun _ => False) W8).drew
                obtain ⟨W1', hrunU, hI1, hK1⟩ := (H8.out.s.map.keeps KD (fun h => h)).run_update_new (P := Try.prog) Try.underlying163 Try.underlying75 (parL_miss hmx) (.agg #[.int .u32 (e.to : Int), .int .i64 (y.1.op : Int)])
                have H8D := Lib.hid (H8.out.keeps0 KD); have KQD := Lib.hid (KQ8.out.trans KD)
                have hsee := H8D.out.see (e := e.of y.1) hI1 hK1
                have hbx2 : Bx ≠ b2 := by rintro rfl; obtain ⟨es, c, hb, _⟩ := H8.out.s.map; rw [HBX8.out] at hb; cases hb
                have HBX9 := Lib.hid (hK1.heap (KD.heap HBX8.out (fun h => h)) hbx2)
                have HSEE := Lib.hid hsee; have HI1 := Lib.hid hI1; have HK1 := Lib.hid hK1
                clear hmx hki KD hI1 hK1 hsee hbx2 H8 KQ8 HBX8
                gi_wp2
                refine wpIn_region_still_tail 10 (Wide.wide.inRound l) hmix rfl (by kernel_rfl) ?_
                simp only [List.take_succ_cons, List.take_zero, List.drop_succ_cons, List.drop_zero]
                repeat still_step
                refine wpStill_nil ?_
                clear x3c x1c ci y0 y2 hce lBx q1 q2
                have y2 : W1'.cell? ⟨Bx, 2, none⟩ = some (.int .u32 (y.1.to : Int)) := by rw [cell_of_blk HBX9.out]; rfl
                have x1c := HSEE.out.1.x1.cell
                have lBx := lt_of_heap HBX9.out
                have l1 := HSEE.out.1.x1.lt
                have HROW := Lib.hid (HSEE.out.1.line.keeps ((Keeps.refl (fun _ => False) W1').alloc (.cells #[.int .u32 (y.1.to : Int)] 75)) (fun _ _ h => h))
                have hlowW : w.heap.size ≤ W1'.heap.size := HSEE.out.1.keep.size
                have hfw : T'.length ≤ 2000 := HFEW.out
                have hkl := keysT_length T'
                have HKL := Lib.hid hkl
                clear hkl
                gi_wp2_with (gi_at_builtin; refine wpListIn_append_tail _ rfl (.tmp 79) (.tmp 82) 72 rfl w.heap.size 75 i0 _ 4 Try.underlying72 hi0 hz0 hz1 hz2 rfl _ ((keysT T').map encW) rfl HROW.out ⟨W1'.heap.size, 0, none⟩ 1 (.int .u32 (y.1.to : Int)) rfl ?_ rfl T'.length (by rw [List.length_map]; exact HKL.out) (by unfold maxLen; omega) (by omega) (by simp; omega) (W1'.heap.size + 1) (by simp) ?_)
                · exact (Boxed.new W1' _ _).cell
                intro g4 off4 cap4 W2' hown2 hgrow2 hat2 hlt2
                have hbx1 : W2'.heap[b1]? = some (.cells #[_] 72 (0, 0)) := ((Keeps.refl (fun b => (Value.slice (some ⟨gq, oq, none⟩) T'.length cq).ownBlock = some b) _).grown hgrow2 (fun k hk => .inl hk)).heap (((Keeps.refl (fun _ => False) W1').alloc _).heap HSEE.out.1.x1 (fun h => h)) HSEE.out.1.row1
                have v1c : W2'.cell? ⟨b1, 0, none⟩ = some (.slice (some ⟨gq, oq, none⟩) T'.length cq) := (cell_of_blk hbx1).trans rfl
                have v1f : W2'.frozen? ⟨b1, 0, none⟩ = false := frozen_of_blk hbx1
                have v1l := lt_of_heap hbx1
                have HADD := Lib.hid (H8D.out.add (e := e.of y.1) HI1.out HK1.out hown2 hgrow2 hat2)
                clear hown2 hgrow2 hat2 hlt2 hbx1
                gi_wp2
                have hcl := H1.out.close ((KQD.out.mono (fun _ _ h => h.elim)).trans HADD.out.2) (fun b h => h) hb26
                refine ⟨hcl.1, hcl.2, ⟨.slice (some ⟨g4, off4, none⟩) (T'.length + 1) cap4, ?_, ?_⟩⟩
                · rw [HE.out, HSN.out, if_neg HM.out, if_neg (by rw [HAC.out]; decide), if_neg (by rw [HCV.out]; decide)]; exact HADD.out.1
                · rw [HE.out, HSN.out, if_neg HM.out, if_neg (by rw [HAC.out]; decide), if_neg (by rw [HCV.out]; decide)]
              · have HCV := Lib.hid (show covW n y.1.to (keysT T') = true from hcov)
                clear hcov
                gi_wp2
                have hcl := H1.out.close KQ8.out (fun b h => h.elim) hb26
                refine ⟨hcl.1, hcl.2, ⟨vl', ?_, ?_⟩⟩
                · rw [HE.out, HSN.out, if_neg HM.out, if_neg (by rw [HAC.out]; decide), if_pos HCV.out]; exact H8.out
                · rw [HE.out, HSN.out, if_neg HM.out, if_neg (by rw [HAC.out]; decide), if_pos HCV.out]
            · have HAC := Lib.hid (show accW g0 y.1.to = true from hacc)
              clear hacc
              gi_wp2
              refine ⟨trivial, ?_⟩
              clear x3c x1c x1l y0 y2 c3 ci lBx
              have KQ8 := KQ; have H8 := H7; have HBX8 := HBX7
              clear KQ H7 HBX7
              obtain ⟨W8, hW8⟩ : ∃ W8, W7 = W8 := ⟨_, rfl⟩
              subst hW8
              have hmx := HM.out
              obtain ⟨gq, oq, cq, hvq, -, -, -, hgq⟩ := H8.out.s.line.form
              rw [List.length_map, keysT_length] at hvq
              subst hvq
              have hki : ((keysT T').map encW)[i]? = some (.int .u32 (e.to : Int)) := by
                unfold keysT; rw [List.getElem?_map, List.getElem?_map, HTI'.out]; rfl
              have hce := H8.out.s.line.at rfl hki
              have x3c := H8.out.s.x3.cell
              have x1c := H8.out.s.x1.cell
              have ci := H8.out.bx.cell
              have y0 : W7.cell? ⟨Bx, 0, none⟩ = some (.int .i64 (y.1.op : Int)) := by rw [cell_of_blk HBX8.out]; rfl
              have y2 : W7.cell? ⟨Bx, 2, none⟩ = some (.int .u32 (y.1.to : Int)) := by rw [cell_of_blk HBX8.out]; rfl
              have lBx := lt_of_heap HBX8.out
              have q1 : (i : Int) < (T'.length : Int) := by have := HIL.out; omega
              have q2 : (0 : Int) ≤ (i : Int) := by omega
              have KD := (Keeps.refl (fun _ => False) W7).drew
              obtain ⟨W1', hrunU, hI1, hK1⟩ := (H8.out.s.map.keeps KD (fun h => h)).run_update_new (P := Try.prog) Try.underlying163 Try.underlying75 (parL_miss hmx) (.agg #[.int .u32 (e.to : Int), .int .i64 (y.1.op : Int)])
              have H8D := Lib.hid (H8.out.keeps0 KD); have KQD := Lib.hid (KQ8.out.trans KD)
              have hsee := H8D.out.see (e := e.of y.1) hI1 hK1
              have hbx2 : Bx ≠ b2 := by rintro rfl; obtain ⟨es, c, hb, _⟩ := H8.out.s.map; rw [HBX8.out] at hb; cases hb
              have HBX9 := Lib.hid (hK1.heap (KD.heap HBX8.out (fun h => h)) hbx2)
              have HSEE := Lib.hid hsee; have HI1 := Lib.hid hI1; have HK1 := Lib.hid hK1
              clear hmx hki KD hI1 hK1 hsee hbx2 H8 KQ8 HBX8
              gi_wp2
              refine wpIn_region_still_tail 10 (Wide.wide.inRound l) hmix rfl (by kernel_rfl) ?_
              simp only [List.take_succ_cons, List.take_zero, List.drop_succ_cons, List.drop_zero]
              repeat still_step
              refine wpStill_nil ?_
              clear x3c x1c ci y0 y2 hce lBx q1 q2
              have y2 : W1'.cell? ⟨Bx, 2, none⟩ = some (.int .u32 (y.1.to : Int)) := by rw [cell_of_blk HBX9.out]; rfl
              have x1c := HSEE.out.1.x1.cell
              have lBx := lt_of_heap HBX9.out
              have l1 := HSEE.out.1.x1.lt
              gi_wp2
              refine wpIn_region_held (fun W => W.cell? ⟨b3, 0, none⟩ = some (.map (some b2)) ∧ W.cell? ⟨b7, 0, none⟩ = some (.int .u32 (st : Int)) ∧ W.cell? ⟨Bx, 2, none⟩ = some (.int .u32 (y.1.to : Int)) ∧ W.cell? ⟨bi, 0, none⟩ = some (.int .i64 (i : Int))) (fun j => decide (8 ≤ j)) hmix ?_
              have HS0 : Hid (W1'.drew.cell? ⟨b3, 0, none⟩ = some (.map (some b2)) ∧ W1'.drew.cell? ⟨b7, 0, none⟩ = some (.int .u32 (st : Int)) ∧ W1'.drew.cell? ⟨Bx, 2, none⟩ = some (.int .u32 (y.1.to : Int)) ∧ W1'.drew.cell? ⟨bi, 0, none⟩ = some (.int .i64 (i : Int))) :=
                ⟨HSEE.out.1.x3.cell, (show Boxed W1' b7 75 _ from (HSEE.out.2.1 (b7, 75, .int .u32 (st : Int)) (by simp)).2).cell, y2, HSEE.out.2.2.1.cell⟩
              refine wpAnyHIn_take (Wide.wide.inRound l) 0 (.map (some b2)) rfl (by kernel_rfl) (by kernel_rfl) (by kernel_rfl) (by kernel_rfl) (by kernel_rfl) (fun _ _ _ h => h) HS0.out ?_ rfl ?_
              · rintro W ⟨s1, s2, s3, s4⟩; go_simp
              refine wpAnyHIn_take (Wide.wide.inRound l) 1 (.int .u32 (st : Int)) rfl (by kernel_rfl) (by kernel_rfl) (by kernel_rfl) (by kernel_rfl) (by kernel_rfl) (fun _ _ _ h => h) HS0.out ?_ rfl ?_
              · rintro W ⟨s1, s2, s3, s4⟩; go_simp
              have hib : i < 2000 := by have h1 := HIL.out; have h2 := HFEW.out; omega
              refine wpAnyHIn_take (Wide.wide.inRound l) 2 (.pointer (some ⟨Bx, 2, none⟩)) rfl (by kernel_rfl) (by kernel_rfl) (by kernel_rfl) (by kernel_rfl) (by kernel_rfl) (fun _ _ _ h => h) HS0.out ?_ rfl ?_
              · rintro W ⟨s1, s2, s3, s4⟩; go_simp
              refine wpAnyHIn_take (Wide.wide.inRound l) 3 (.int .u32 (y.1.to : Int)) rfl (by kernel_rfl) (by kernel_rfl) (by kernel_rfl) (by kernel_rfl) (by kernel_rfl) (fun _ _ _ h => h) HS0.out ?_ rfl ?_
              · rintro W ⟨s1, s2, s3, s4⟩; go_simp
              refine wpAnyHIn_take (Wide.wide.inRound l) 5 (.int .i64 (i : Int)) rfl (by kernel_rfl) (by kernel_rfl) (by kernel_rfl) (by kernel_rfl) (by kernel_rfl) (fun _ _ _ h => h) HS0.out ?_ rfl ?_
              · rintro W ⟨s1, s2, s3, s4⟩; go_simp
              refine wpAnyHIn_take (Wide.wide.inRound l) 6 (.int .i64 ((i : Int) + 1)) rfl (by kernel_rfl) (by kernel_rfl) (by kernel_rfl) (by kernel_rfl) (by kernel_rfl) (fun _ _ _ h => h) HS0.out ?_ rfl ?_
              · rintro W ⟨s1, s2, s3, s4⟩; go_simp; exact IntWalk.i64_in _ (by omega)
              refine wpAnyHIn_one 4 rfl (by kernel_rfl) rfl (fun K hK => ?_)
              go_simp
              refine ⟨trivial, ?_⟩
              have KD1 := (Keeps.refl (fun _ => False) W1').drew
              have hidx : (T' ++ [e.of y.1])[T'.length]? = some (e.of y.1) := by simp
              have hPT2 : PTree ops st (T' ++ [e.of y.1]) := HPT.out.add (List.mem_of_getElem? HTI'.out) y.2 HM.out
              have hfw : T'.length ≤ 2000 := HFEW.out
              refine (CallsIn.inRound l (callsIn_wide.2 (path_p _ b2 ops st (T' ++ [e.of y.1]) T'.length (e.of y.1) hPT2 (HSEE.out.1.map.keeps KD1 (fun h => h)) hidx (by simp; omega)))).mono ?_; rintro en W9 ⟨v9, rfl, hown9, hk9⟩
              obtain ⟨a9, c9, hv9⟩ := ownsRow_form1 hown9
              subst hv9
              refine hK _ _ (fun _ => ?_) ?_
              · obtain ⟨s1, s2, s3, s4⟩ := HS0.out
                exact ⟨hk9.cell s1 (fun h => h), hk9.cell s2 (fun h => h), hk9.cell s3 (fun h => h), hk9.cell s4 (fun h => h)⟩
              have HS9 : Hid (W9.cell? ⟨b3, 0, none⟩ = some (.map (some b2)) ∧ W9.cell? ⟨b7, 0, none⟩ = some (.int .u32 (st : Int)) ∧ W9.cell? ⟨Bx, 2, none⟩ = some (.int .u32 (y.1.to : Int)) ∧ W9.cell? ⟨bi, 0, none⟩ = some (.int .i64 (i : Int))) := by
                obtain ⟨s1, s2, s3, s4⟩ := HS0.out
                exact ⟨hk9.cell s1 (fun h => h), hk9.cell s2 (fun h => h), hk9.cell s3 (fun h => h), hk9.cell s4 (fun h => h)⟩
              have K19 := Lib.hid (KD1.trans hk9)
              have HFX := Lib.hid (HSEE.out.2.1.keeps0 K19.out)
              have X4 : Boxed W9 b4 22 (.slice none 0 0) := (HFX.out (b4, 22, .slice none 0 0) (by simp)).2
              have X5 : Boxed W9 b5 3 (.int .i64 0) := (HFX.out (b5, 3, .int .i64 0) (by simp)).2
              have X6 : Boxed W9 b6 4 (.bool false) := (HFX.out (b6, 4, .bool false) (by simp)).2
              have Y4 : Boxed W b4 22 (.slice none 0 0) := (H1.out.fx (b4, 22, .slice none 0 0) (by simp)).2
              have Y5 : Boxed W b5 3 (.int .i64 0) := (H1.out.fx (b5, 3, .int .i64 0) (by simp)).2
              have Y6 : Boxed W b6 4 (.bool false) := (H1.out.fx (b6, 4, .bool false) (by simp)).2
              have e4 : w.heap.size ≤ b4 := (H1.out.fx (b4, 22, .slice none 0 0) (by simp)).1
              have c4 := X4.cell
              have c5 := X5.cell
              have c6 := X6.cell
              have f4 := X4.frozen
              have f5 := X5.frozen
              have f6 := X6.frozen
              have l4 := X4.lt
              have l5 := X5.lt
              have l6 := X6.lt
              have hls : b6 < W1'.heap.size := (show Boxed W1' b6 4 _ from (HSEE.out.2.1 (b6, 4, .bool false) (by simp)).2).lt
              obtain ⟨y4, y5, y6, hk3⟩ := three_set X4 X5 X6 ⟨n1.2.2.1, n1.2.2.2.1⟩ (.slice a9 (e.of y.1).path.length c9) (.int .i64 ((i : Int) + 1)) (.bool true)
              have hrow := hk3.ownsRow hown9 (fun k hk' hs => by
                have h1 := (World.ownsRow.lt hown9 k hk').1
                have h2 : W1'.heap.size ≤ k := h1
                omega)
              have KW9 : Keeps (fun k => k = b2) W W9 := ((KQD.out.mono (fun _ _ h => h.elim)).trans HK1.out).trans (K19.out.mono (fun _ _ h => h.elim))
              have KWF := (KW9.mono (S' := fun k => k = b2 ∨ k = b4 ∨ k = b5 ∨ k = b6) (fun _ _ h => .inl h)).trans (hk3.mono (fun _ _ h => .inr h))
              have hmk := ((HSEE.out.2.2.2.1.keeps (KeepsD.of0 K19.out)).keeps (KeepsD.of hk3 (fun k hk => by
                rcases hk with rfl | rfl | rfl
                · exact cells_not_deferred X4
                · exact cells_not_deferred X5
                · exact cells_not_deferred X6)))
              have HFIN := Lib.hid (show KeepsFrom W6.heap.size W _ ∧ SchIx (accW g0) (covW n) w b4 b5 b6 i T e ds .ret ((pre ++ [y]).map fun y => y.1) _ from
                ⟨keepsFrom_of KWF (fun k hs => by
                  rcases hs with rfl | rfl | rfl | rfl
                  · exact .inl hb26
                  · exact .inr ⟨_, _, _, Y4⟩
                  · exact .inr ⟨_, _, _, Y5⟩
                  · exact .inr ⟨_, _, _, Y6⟩), rfl, e.of y.1, (.slice a9 (e.of y.1).path.length c9),
                 ⟨by rw [HE.out, HSN.out, if_neg HM.out, if_pos HAC.out], H1.out.s.keep.trans' KWF (fun k hs => .inr (by
                    rcases hs with rfl | rfl | rfl | rfl
                    · exact H1.out.s.l2
                    all_goals omega)), hmk, y4, y5, y6, ownsRow_mono hrow (Nat.le_trans HSEE.out.1.keep.size (Nat.le_refl _))⟩⟩)
              have s4 : ¬ (b3 = b4) := by
                rintro rfl
                have h := (show W9.heap[b3]? = _ from K19.out.heap HSEE.out.1.x3 (fun h => h)).symm.trans X4
                simp at h
              have s47 : ¬ (b7 = b4) := by omega
              have s4x : ¬ (Bx = b4) := by
                rintro rfl
                have h := (show W9.heap[Bx]? = _ from K19.out.heap HBX9.out (fun h => h)).symm.trans X4
                simp at h
              have s4i : ¬ (bi = b4) := by
                rintro rfl
                have h := (show W9.heap[bi]? = _ from K19.out.heap HSEE.out.2.2.1 (fun h => h)).symm.trans X4
                simp at h
              have HS10 : Hid ((W9.setCell ⟨b4, 0, none⟩ (.slice a9 (e.of y.1).path.length c9)).cell? ⟨b3, 0, none⟩ = some (.map (some b2)) ∧ (W9.setCell ⟨b4, 0, none⟩ (.slice a9 (e.of y.1).path.length c9)).cell? ⟨b7, 0, none⟩ = some (.int .u32 (st : Int)) ∧ (W9.setCell ⟨b4, 0, none⟩ (.slice a9 (e.of y.1).path.length c9)).cell? ⟨Bx, 2, none⟩ = some (.int .u32 (y.1.to : Int)) ∧ (W9.setCell ⟨b4, 0, none⟩ (.slice a9 (e.of y.1).path.length c9)).cell? ⟨bi, 0, none⟩ = some (.int .i64 (i : Int))) := by
                obtain ⟨t1, t2, t3, t4⟩ := HS9.out
                have kk := (Keeps.refl (fun k => k = b4) W9).setCell (p := ⟨b4, 0, none⟩) (.inl rfl) (.slice a9 (e.of y.1).path.length c9)
                exact ⟨kk.cell t1 s4, kk.cell t2 s47, kk.cell t3 s4x, kk.cell t4 s4i⟩
              clear hK K KD1 hidx hPT2 hk9 hown9 X4 X5 X6 Y4 Y5 Y6 y4 y5 y6 hk3 hrow KW9 KWF hmk s4 s47 s4x s4i y2 x1c lBx l1 hls
              refine wpAnyHIn_one 7 rfl (by kernel_rfl) rfl (fun K hK => ?_)
              go_simp
              refine hK _ _ (fun _ => HS10.out) ?_
              clear hK K
              refine wpAnyHIn_one 8 rfl (by kernel_rfl) rfl (fun K hK => ?_)
              go_simp
              refine hK _ _ (fun h => by simp at h) ?_
              clear hK K
              refine wpAnyHIn_one 9 rfl (by kernel_rfl) rfl (fun K hK => ?_)
              go_simp
              refine hK _ _ (fun h => by simp at h) ?_
              clear hK K
              refine wpAnyHIn_done (by kernel_rfl) ?_
              gi_wp2
              exact HFIN.out
        · rintro D ys W hD hys ⟨vl', h1, hno⟩ hd
          have hys' : (ys.map fun y => y.1) = wsteps ops e.to := hys
          rw [hys'] at h1 hno
          have xic := h1.bx.cell
          have xil := h1.bx.lt
          have hi2 : i < 2000 := by
            have h1 := HOK2.out.few HL0.out; have h2 := (reached_some HL0.out).2.1; have h3 := HM2.out; have h4 := keysT_length T; omega
          have hnx : novT (accW g0) (covW n) ops st (i + 1) = (novL (accW g0) (covW n) e T (wsteps ops e.to)).1 := by
            rw [← HNT.out]; exact novT_step (by rw [HNT.out]; exact HTI2.out)
          have hno2 : NovNo (accW g0) (covW n) ops st (i + 1) := by
            intro j f hj hf
            by_cases hji : j < i
            · exact HNO.out j f hji hf
            · have hj : j = i := by omega
              subst hj
              rw [HNT.out] at hf ⊢
              rw [HTI2.out] at hf; cases hf
              exact hno
          have hle2 : i + 1 ≤ (novT (accW g0) (covW n) ops st (i + 1)).length := by
            rw [hnx]
            have h1 := (novL_prefix (acc := accW g0) (cov := covW n) (e := e) (wsteps ops e.to) T).length_le
            have h3 := HM2.out; have h4 := keysT_length T; have h5 := HLT.out; omega
          have KA := (Keeps.refl (fun _ => False) W).alloc (.cells #[.int .i64 ((i : Int) + 1)] 3)
          have hbx := Boxed.new W 3 (.int .i64 ((i : Int) + 1))
          have hlw := h1.s.keep.size
          have HL9 := Lib.hid (show SchLoop ops st (accW g0) (covW n) w b1 b2 b3 [(bw, 71, .pointer (some ⟨b, 0, none⟩)), (bn, 3, .int .i64 (n : Int)), (b4, 22, .slice none 0 0), (b5, 3, .int .i64 0), (b6, 4, .bool false), (b7, 75, .int .u32 (st : Int))] (i + 1) W.heap.size vl' (mark D :: ds) (W.alloc (.cells #[.int .i64 ((i : Int) + 1)] 3)) from
            ⟨by rw [hnx]; exact h1.s.keeps0 KA, h1.fx.keeps0 KA, hbx, hlw, hno2, (HMK6.out.cons h1.marks hD (by omega) hd).keeps (KeepsD.of0 KA), hle2, h1.nl⟩)
          have HBX := Lib.hid (show boxNat (W.alloc (.cells #[.int .i64 ((i : Int) + 1)] 3)) (.pointer (some ⟨W.heap.size, 0, none⟩)) = i + 1 by unfold boxNat; simp only; rw [hbx.cell]; simp)
          clear hbx KA hle2 hno2 hnx h1 hno hys' hys hd hlw
          gi_wp2
          refine ⟨⟨mark D :: ds, _, _, _, _, _, _, _, _, _, _, _, _, _, _, _, _, _, _, _, _, _, _, _, _, _, _, _, _, _, _, _, _, _, _, _, _, _, _, _, _, _, _, _, _, _, _, _, _, _, _, _, _, _, _, _, _, _, _, _, _, _, _, _, _, _, _, _, _, _, _, _, _, _, _, _, _, i + 1, W.heap.size, vl', HL9.out, rfl⟩, ?_⟩
          rw [HAT.out, HBN.out]
          show 2001 - boxNat _ (.pointer (some ⟨W.heap.size, 0, none⟩)) < 2001 - i
          rw [HBX.out]; omega
        · rintro D c pre W hD hsp ⟨rfl, f, v', hX⟩ hd
          have HX := Lib.hid hX
          have HSP := Lib.hid (show (pre.map fun y => y.1) <+: wsteps ops e.to from hsp)
          have HMD := Lib.hid (HMK6.out.cons hX.marks hD (by omega) hd)
          clear hX hsp hd
          gi_wp2
          refine leaves_marks HMD.out (fun W' hk => ?_)
          have z4 : Boxed W' b4 _ _ := hk.heap HX.out.x4 (fun hs => cells_not_deferred HX.out.x4 hs.2)
          have z5 : Boxed W' b5 _ _ := hk.heap HX.out.x5 (fun hs => cells_not_deferred HX.out.x5 hs.2)
          have z6 : Boxed W' b6 _ _ := hk.heap HX.out.x6 (fun hs => cells_not_deferred HX.out.x6 hs.2)
          refine ⟨.tuple #[v', .int .i64 ((i : Int) + 1), .bool true], results_cells3 rfl rfl rfl rfl (load_box Try.underlying22 rfl z4) (load_box Try.underlying3 rfl z5) (load_box Try.underlying4 rfl z6), HX.out.keep.trans' hk (fun i hi => .inr hi.1), .inr ⟨f.path, i + 1, ?_, v', rfl, ?_, fun k hk' => (World.ownsRow.lt HX.out.row k hk').1⟩⟩
          · refine NovRes.found i e f HACC.out HNO.out (by rw [HNT.out]; exact HTI2.out) ?_
            rw [HNT.out]; exact novL_some HX.out.found HSP.out
          · have hr := hk.ownsRow HX.out.row (fun k hk' hs => row_not_deferred HX.out.row k hk' hs.2)
            refine Ints.of_own (base := w.heap.size) (e := 3) ?_
            have hlen : (intsP f.path).length = f.path.length := by unfold intsP; rw [List.length_map]
            rw [hlen]; exact hr
      · have HM := Lib.hid hm
        have X4 : Boxed wr b4 22 (.slice none 0 0) := (HL.out.fx (b4, 22, .slice none 0 0) (by simp)).2
        have X5 : Boxed wr b5 3 (.int .i64 0) := (HL.out.fx (b5, 3, .int .i64 0) (by simp)).2
        have X6 : Boxed wr b6 4 (.bool false) := (HL.out.fx (b6, 4, .bool false) (by simp)).2
        have c4 := X4.cell
        have c5 := X5.cell
        have c6 := X6.cell
        have f4 := X4.frozen
        have f5 := X5.frozen
        have f6 := X6.frozen
        have l4 := X4.lt
        have l5 := X5.lt
        have l6 := X6.lt
        have hmix : Try.prog.follows .mixedOrders = true := by kernel_rfl
        have h14 : b1 ≠ b4 := by
          rintro rfl
          have h := (show wr.heap[b1]? = _ from HL.out.s.x1).symm.trans X4
          simp at h
        have h41 : b4 ≠ b1 := h14.symm
        have x1s : ((wr.setCell ⟨b4, 0, none⟩ (.slice none 0 0)).drew).cell? ⟨b1, 0, none⟩ = some (.slice (some ⟨gl, off, none⟩) m cap) := by
          have h : Boxed (wr.setCell ⟨b4, 0, none⟩ (.slice none 0 0)) b1 _ _ := (show Boxed wr b1 _ _ from HL.out.s.x1).other h14 _
          rw [cell_drew_own, ← hm]; exact h.cell
        clear hm hqc hcm hgb hgl
        gi_wp2
        gi_region
        all_goals
          gi_wp2
          obtain ⟨y4, y5, y6, hk3⟩ := three_set X4 X5 X6 ⟨n1.2.2.1, n1.2.2.2.1⟩ (.slice none 0 0) (.int .i64 ((novT (accW g0) (covW n) ops st i).length : Int)) (.bool false)
          have kd := hk3.drew
          have HT4 := Lib.hid (((Keeps.refl (fun _ => False) _).drew).heap y4 (fun h => h)); have HT5 := Lib.hid (((Keeps.refl (fun _ => False) _).drew).heap y5 (fun h => h)); have HT6 := Lib.hid (((Keeps.refl (fun _ => False) _).drew).heap y6 (fun h => h))
          have HKT := Lib.hid (HL.out.s.keep.trans' kd (fun k hk => .inr (by
            have h4 := (HL.out.fx (b4, 22, .slice none 0 0) (by simp)).1
            have h5 := (HL.out.fx (b5, 3, .int .i64 0) (by simp)).1
            have h6 := (HL.out.fx (b6, 4, .bool false) (by simp)).1
            simp only at h4 h5 h6
            rcases hk with rfl | rfl | rfl
            · exact h4
            · exact h5
            · exact h6)))
          have HMK := Lib.hid (HL.out.marks.keeps (KeepsD.of kd (fun k hk => by
            rcases hk with rfl | rfl | rfl
            · exact cells_not_deferred X4
            · exact cells_not_deferred X5
            · exact cells_not_deferred X6)))
          have HNR := Lib.hid (show NovRes (accW g0) (covW n) ops st none (novT (accW g0) (covW n) ops st i).length by
            have hle := HL.out.le
            have e : (novT (accW g0) (covW n) ops st i).length = i := by omega
            have h := NovRes.none (acc := accW g0) (cov := covW n) i HACC.out e HL.out.no
            rwa [e])
          clear y4 y5 y6 hk3 kd
          refine leaves_marks HMK.out (fun W' hk => ?_)
          have z4 : Boxed W' b4 _ _ := hk.heap HT4.out (fun hs => cells_not_deferred HT4.out hs.2)
          have z5 : Boxed W' b5 _ _ := hk.heap HT5.out (fun hs => cells_not_deferred HT5.out hs.2)
          have z6 : Boxed W' b6 _ _ := hk.heap HT6.out (fun hs => cells_not_deferred HT6.out hs.2)
          exact ⟨.tuple #[.slice none 0 0, .int .i64 ((novT (accW g0) (covW n) ops st i).length : Int), .bool false], results_cells3 rfl rfl rfl rfl (load_box Try.underlying22 rfl z4) (load_box Try.underlying3 rfl z5) (load_box Try.underlying4 rfl z6), HKT.out.trans' hk (fun i hi => .inr hi.1), .inl ⟨_, HNR.out, rfl⟩⟩
  · have c4 := X4.cell
    have c5 := X5.cell
    have c6 := X6.cell
    have f4 := X4.frozen
    have f5 := X5.frozen
    have f6 := X6.frozen
    have l4 := X4.lt
    have l5 := X5.lt
    have l6 := X6.lt
    gi_wp2
    obtain ⟨y4, y5, y6, hk3⟩ := three_set X4 X5 X6 ⟨n1.2.2.1, n1.2.2.2.1⟩ (.slice none 0 0) (.int .i64 0) (.bool true)
    have HT4 := Lib.hid y4; have HT5 := Lib.hid y5; have HT6 := Lib.hid y6
    have HKT := Lib.hid (HK3.out.trans' hk3 (fun i hi => .inr (by
      have h4 := (HFB.out (b4, 22, .slice none 0 0) (by simp)).1
      simp only at h4
      omega)))
    clear y4 y5 y6 hk3
    refine leaves_marks (B := w.heap.size) (Marks.nil _ _) (fun W' hk => ?_)
    have z4 : Boxed W' b4 _ _ := hk.heap HT4.out (fun hs => cells_not_deferred HT4.out hs.2)
    have z5 : Boxed W' b5 _ _ := hk.heap HT5.out (fun hs => cells_not_deferred HT5.out hs.2)
    have z6 : Boxed W' b6 _ _ := hk.heap HT6.out (fun hs => cells_not_deferred HT6.out hs.2)
    refine ⟨.tuple #[.slice none 0 0, .int .i64 0, .bool true], results_cells3 rfl rfl rfl rfl (load_box Try.underlying22 rfl z4) (load_box Try.underlying3 rfl z5) (load_box Try.underlying4 rfl z6), HKT.out.trans' hk (fun i hi => .inr hi.1), .inr ⟨[], 0, .start hacc, _, rfl, Ints.nil _, fun k hk => by simp [Value.ownBlock] at hk⟩⟩

theorem search_any (w : World) (b st g0 base : Nat) (v : Value) (ops : List Wop) (hw : WordsAt w base b st g0 v ops) (hops : WopsOk ops) (hmany : ops.length ≤ 40) (hst : st < 4294967296) (l : List Nat) (hl : reached ops st = some l) (n : Nat) (hn : n ≤ 1000) :
    Calls Try.prog 65 #[.pointer (some ⟨b, 0, none⟩), .int .i64 (n : Int)] w (SearchPost ops st (accW g0) (covW n) w) := callsIn_wide.1 (search_in w b st g0 base v ops hw hops hmany hst l hl n hn)

end Go.Proofs.Ytdonadeodioplaa

namespace Go.Proofs.Ytdonadeodioplaa
open Go.RowKit

def costAt (t : Tsk) (x : Int) : Int := ((t.ops[x.toNat]?).map Opr.cost).getD 0
def costL (t : Tsk) : List Int → Int
  | [] => 0
  | x :: r => costAt t x + costL t r
def PlanIn (t : Tsk) (p : List Int) : Prop := ∀ x ∈ p, 0 ≤ x ∧ x < (t.ops.length : Int)

theorem costL_append (t : Tsk) : ∀ (a b : List Int), costL t (a ++ b) = costL t a + costL t b
  | [], b => by simp [costL]
  | x :: a, b => by
    show costAt t x + costL t (a ++ b) = (costAt t x + costL t a) + costL t b
    rw [costL_append t a b]; omega
theorem costAt_bound {t : Tsk} (ok : t.Ok) (x : Int) : 0 ≤ costAt t x ∧ costAt t x ≤ 100 := by
  unfold costAt
  cases h : t.ops[x.toNat]? with
  | none => simp
  | some o =>
    have := ok.ops o (List.mem_of_getElem? h)
    simp; exact ⟨this.cost0, this.cost1⟩
theorem costL_bound {t : Tsk} (ok : t.Ok) : ∀ p : List Int, 0 ≤ costL t p ∧ costL t p ≤ 100 * (p.length : Int)
  | [] => by simp [costL]
  | x :: r => by
    have h1 := costAt_bound ok x
    have h2 := costL_bound ok r
    unfold costL
    rw [List.length_cons]
    omega

set_option maxRecDepth 100000 in
set_option maxHeartbeats 2000000 in
theorem costOf_any (w : World) (vi vg vo vp : Value) (t : Tsk) (p : List Int) (h : TaskAt w vi vg vo t) (ok : t.Ok) (hp : Ints w vp p) (hin : PlanIn t p) (hlen : p.length ≤ 1000000) :
    Calls Try.prog 100 #[.agg #[.int .i64 t.n, vi, vg, vo], vp] w fun e w' => e = .returned (.int .i64 (costL t p)) ∧ Keeps (fun _ => False) w w' := by
  obtain ⟨ai, ci, h1, _⟩ := h.init.form
  obtain ⟨ag, cg, h2, _⟩ := h.goal.form
  obtain ⟨ao, co, h3, hmo⟩ := h.ops.form
  obtain ⟨ap, cp, h4, _⟩ := hp.form
  subst h1 h2 h3 h4
  have K1 := (Keeps.refl (fun _ => False) w).alloc (.cells #[.int .i64 t.n, .slice ai t.init.length ci, .slice ag t.goal.length cg, .slice ao t.ops.length co] 25)
  have HB := Lib.hid (Four.new w (.int .i64 t.n) (.slice ai t.init.length ci) (.slice ag t.goal.length cg) (.slice ao t.ops.length co) 25)
  have HOC := Lib.hid (h.ops.cell rfl)
  have CP := Lib.hid (hp.cell rfl)
  have HK := Lib.hid K1; have OK := Lib.hid ok; have HIN := Lib.hid hin
  clear h K1 ok hin hp
  go_enter Try.func100, Try.ntmps100
  go_upto_region 1 with fail
  generalize (w.alloc (.cells #[.int .i64 t.n, .slice ai t.init.length ci, .slice ag t.goal.length cg, .slice ao t.ops.length co] 25)) = w1 at HB HK ⊢
  go_wp2_with fail
  go_loopw [5, 6] (fun v5 v6 wr => ∃ i : Nat, i ≤ p.length ∧ v6 = .int .i64 (i : Int) ∧ v5 = .int .i64 (costL t (p.take i)) ∧ Keeps (fun _ => False) w1 wr) (fun _ v6 _ => p.length - (intOf v6).toNat)
  case atStart => exact ⟨0, Nat.zero_le _, rfl, rfl, Keeps.refl _ _⟩
  case round =>
    obtain ⟨i, hi, rfl, rfl, hkr⟩ := hrel
    have HKR := Lib.hid hkr
    have HB2 := Lib.hid (HB.out.keeps0 hkr)
    obtain ⟨d0, d1, d2, d3⟩ := HB2.out
    have hbx := HB2.out.lt
    have hsz := hkr.size
    clear hkr
    by_cases hlt : i < p.length
    · obtain ⟨bp, op, rfl, hx'⟩ := CP.out (by omega)
      obtain ⟨x, hx⟩ : ∃ x, p[i]? = some x := ⟨_, List.getElem?_eq_getElem hlt⟩
      have hu := HKR.out.cell (HK.out.cell (hx' i x hx) (fun h => h)) (fun h => h)
      have hxi := HIN.out x (List.mem_of_getElem? hx)
      obtain ⟨xn, rfl⟩ : ∃ xn : Nat, x = (xn : Int) := ⟨x.toNat, by omega⟩
      obtain ⟨bo, oo, rfl, ho'⟩ := HOC.out (by omega)
      obtain ⟨o, ho⟩ : ∃ o, t.ops[xn]? = some o := ⟨_, List.getElem?_eq_getElem (by omega)⟩
      obtain ⟨va, vb, vc, _, _, _, c3, _⟩ := ho' xn o ho
      have c3' := HKR.out.cell (HK.out.cell c3 (fun h => h)) (fun h => h)
      have HTK : Hid (costL t (p.take (i + 1)) = costL t (p.take i) + o.cost) := by
        unfold Hid
        rw [take_getS hx, costL_append]
        simp [costL, costAt, ho]
      have hbd := costL_bound OK.out (p.take i)
      have hbl : ((p.take i).length : Int) ≤ 1000000 := by rw [List.length_take]; omega
      have hoc := OK.out.ops o (List.mem_of_getElem? ho)
      have ho0 := hoc.cost0
      have ho1 := hoc.cost1
      have q1 : IntKind.i64.wrap (costL t (p.take i) + o.cost) = costL t (p.take i) + o.cost := IntWalk.i64_in _ (by omega)
      have q2 : ((xn : Int)).toNat = xn := by omega
      have q3 : (0 : Int) ≤ (xn : Int) := by omega
      have q4 : (xn : Int) < (t.ops.length : Int) := hxi.2
      clear hx' hx ho' ho c3 hxi hoc hbl hbd
      go_wp2_with fail
      go_quiet (fail)
      have KD := Lib.hid (HKR.out.drewN nq)
      clear d0 d1 d2 d3 hu c3'
      generalize wr.drewN nq = w5 at KD ⊢
      go_wp2_with fail
      go_roundw
      case rel => exact ⟨i + 1, by omega, by go_num, by rw [HTK.out], KD.out⟩
      case measure => simp only [intOf]; omega
    · have hie : i = p.length := by omega
      subst hie
      go_wp2_with fail
      go_ret
      exact ⟨congrArg (fun u => Ending.returned (Value.int .i64 u)) (show costL t (p.take p.length) = costL t p by rw [List.take_length]), HK.out.trans HKR.out⟩

end Go.Proofs.Ytdonadeodioplaa

/- space.Result. -/
namespace Go.Proofs.Ytdonadeodioplaa
open Go.RowKit

/-- A SearchResult. -/
def resV (found : Bool) (vp : Value) (c n : Int) : Value := .agg #[.bool found, vp, .int .i64 c, .int .i64 n]

theorem quad_set {w : World} {B : Nat} {x0 x1 x2 x3 : Value} {T : TypeId} (h : w.heap[B]? = some (.cells #[x0, x1, x2, x3] T (0, 0))) (a b c d : Value) :
    ((((w.setCell ⟨B, 0, none⟩ a).setCell ⟨B, 1, none⟩ b).setCell ⟨B, 2, none⟩ c).setCell ⟨B, 3, none⟩ d).heap[B]? = some (.cells #[a, b, c, d] T (0, 0)) := by
  rw [blk_set_same (blk_set_same (blk_set_same (blk_set_same h a) b) c) d]; rfl
theorem keeps_quad {w : World} (B : Nat) (a b c d : Value) : Keeps (fun k => k = B) w ((((w.setCell ⟨B, 0, none⟩ a).setCell ⟨B, 1, none⟩ b).setCell ⟨B, 2, none⟩ c).setCell ⟨B, 3, none⟩ d) :=
  ((((Keeps.refl (fun k => k = B) w).setCell (p := ⟨B, 0, none⟩) (.inl rfl) _).setCell (p := ⟨B, 1, none⟩) (.inl rfl) _).setCell (p := ⟨B, 2, none⟩) (.inl rfl) _).setCell (p := ⟨B, 3, none⟩) (.inl rfl) _

def ResultPost (t : Tsk) (vp : Value) (p : List Int) (found : Bool) (n : Int) (w : World) (e : Ending) (w' : World) : Prop := Keeps (fun _ => False) w w' ∧
  ((60 < p.length ∧ e = .returned (.tuple #[resV false (.slice none 0 0) 0 0, fltV 10 (-9)])) ∨
   (p.length ≤ 60 ∧ e = .returned (.tuple #[resV found vp (costL t p) n, fltV 0 0])))

set_option maxRecDepth 100000 in
set_option maxHeartbeats 2000000 in
theorem result_any (w : World) (vi vg vo vp : Value) (t : Tsk) (p : List Int) (found : Bool) (n : Int) (h : TaskAt w vi vg vo t) (ok : t.Ok) (hp : Ints w vp p) (hin : PlanIn t p) :
    Calls Try.prog 54 #[.agg #[.int .i64 t.n, vi, vg, vo], vp, .bool found, .int .i64 n] w (ResultPost t vp p found n w) := by
  obtain ⟨ai, ci, h1, _⟩ := h.init.form
  obtain ⟨ag, cg, h2, _⟩ := h.goal.form
  obtain ⟨ao, co, h3, hmo⟩ := h.ops.form
  obtain ⟨ap, cp, h4, _⟩ := hp.form
  have K1 := (Keeps.refl (fun _ => False) w).alloc (.cells #[.int .i64 t.n, vi, vg, vo] 25)
  have KA := (Keeps.refl (fun _ => False) (w.alloc (.cells #[.int .i64 t.n, vi, vg, vo] 25))).alloc (.cells #[.bool false, .slice none 0 0, .int .i64 0, .int .i64 0] 48)
  have KB := (Keeps.refl (fun _ => False) ((w.alloc (.cells #[.int .i64 t.n, vi, vg, vo] 25)).alloc (.cells #[.bool false, .slice none 0 0, .int .i64 0, .int .i64 0] 48))).alloc (.cells #[.int .i64 0, .int .i64 0] 30)
  have HB := Lib.hid ((Four.new w (.int .i64 t.n) vi vg vo 25).keeps0 (KA.trans KB))
  have HR := Lib.hid (KB.heap (heap_alloc_new (w.alloc (.cells #[.int .i64 t.n, vi, vg, vo] 25)) (.cells #[.bool false, .slice none 0 0, .int .i64 0, .int .i64 0] 48)) (fun h => h))
  have HF : Flt w _ _ 30 := ⟨heap_alloc_new ((w.alloc (.cells #[.int .i64 t.n, vi, vg, vo] 25)).alloc (.cells #[.bool false, .slice none 0 0, .int .i64 0, .int .i64 0] 48)) (.cells #[.int .i64 0, .int .i64 0] 30), by simp; omega, K1.trans (KA.trans KB)⟩
  replace HF := Lib.hid HF
  have HT := Lib.hid (h.keeps0 (K1.trans (KA.trans KB))); have HP := Lib.hid (show Ints _ vp p from hp.keeps0 (K1.trans (KA.trans KB)))
  have OK := Lib.hid ok; have HIN := Lib.hid hin
  rw [World.size_alloc] at HR HF
  rw [World.size_alloc] at HF
  subst h1 h2 h3 h4
  clear h hp hin ok K1 KA KB
  go_enter Try.func54, Try.ntmps54
  go_upto_region 1 with fail
  generalize ((w.alloc (.cells #[.int .i64 t.n, .slice ai t.init.length ci, .slice ag t.goal.length cg, .slice ao t.ops.length co] 25)).alloc (.cells #[.bool false, .slice none 0 0, .int .i64 0, .int .i64 0] 48)).alloc (.cells #[.int .i64 0, .int .i64 0] 30) = w1 at HB HR HF HT HP ⊢
  have r0 : w1.cell? ⟨w.heap.size + 1, 0, none⟩ = some (.bool false) := by rw [cell_of_blk HR.out]; rfl
  have r1 : w1.cell? ⟨w.heap.size + 1, 1, none⟩ = some (.slice none 0 0) := by rw [cell_of_blk HR.out]; rfl
  have r2 : w1.cell? ⟨w.heap.size + 1, 2, none⟩ = some (.int .i64 0) := by rw [cell_of_blk HR.out]; rfl
  have r3 : w1.cell? ⟨w.heap.size + 1, 3, none⟩ = some (.int .i64 0) := by rw [cell_of_blk HR.out]; rfl
  have y0 := frozen_of_blk (o := 0) HR.out
  have y1 := frozen_of_blk (o := 1) HR.out
  have y2 := frozen_of_blk (o := 2) HR.out
  have y3 := frozen_of_blk (o := 3) HR.out
  have hlR := lt_of_heap HR.out
  obtain ⟨e0, e1, z0, z1, hF⟩ := HF.out.cells
  by_cases hlen : 60 < p.length
  · have q1 : decide ((60 : Int) < (p.length : Int)) = true := by simp; omega
    have HLEN := Lib.hid hlen
    have kq := keeps_quad (w := w1) (w.heap.size + 1) (.bool false) (.slice none 0 0) (.int .i64 0) (.int .i64 0)
    have HQ := Lib.hid (quad_set HR.out (.bool false) (.slice none 0 0) (.int .i64 0) (.int .i64 0))
    have HF2 := Lib.hid (HF.out.keepsS kq (by omega) (fun i hi => by omega))
    clear hlen kq
    go_wp2_with fail
    refine bodyPost_ret (results_cell_cell _ _ (w.heap.size + 1 + 1) 30 #[.int .i64 10, .int .i64 (-9)] (0, 0) _ rfl rfl (HF2.out.set (.int .i64 10) (.int .i64 (-9))).1 Try.underlying30 rfl (by kernel_rfl) rfl ((keeps_pair (w.heap.size + 1 + 1) _ _).heap HQ.out (by omega)) Try.underlying48 rfl (by kernel_rfl)) rfl ?_
    exact ⟨(HF2.out.set _ _).2, .inl ⟨HLEN.out, rfl⟩⟩
  · have q1 : decide ((60 : Int) < (p.length : Int)) = false := by simp; omega
    have hlen2 : p.length ≤ 60 := by omega
    have HLEN := Lib.hid hlen2
    have hs1 := HF.out.keep.size
    have HOC := Lib.hid (HT.out.ops.cell rfl)
    have CP := Lib.hid (HP.out.cell rfl)
    have K3 := Lib.hid ((Keeps.refl (fun _ => False) w1).alloc (.cells #[.bool found, .slice ap p.length cp, .int .i64 0, .int .i64 n] 48))
    have HX3 := Lib.hid (heap_alloc_new w1 (.cells #[.bool found, .slice ap p.length cp, .int .i64 0, .int .i64 n] 48))
    have hbw := HB.out.lt
    clear hlen HT HP r0 r1 r2 r3 y0 y1 y2 y3 e0 e1 z0 z1
    go_upto_region 5 with fail
    generalize w1.alloc (.cells #[.bool found, .slice ap p.length cp, .int .i64 0, .int .i64 n] 48) = w3 at K3 HX3 ⊢
    obtain ⟨bx, hbx⟩ : ∃ bx, w1.heap.size = bx := ⟨_, rfl⟩
    have HBX := Lib.hid hbx
    rw [hbx] at hF hlR hs1 hbw
    rw [show w1.heap.size = bx from hbx] at HX3
    rw [hbx]
    clear hbx
    go_loopw [24] (fun v24 wr => ∃ i : Nat, i ≤ p.length ∧ v24 = .int .i64 (i : Int) ∧ wr.heap[bx]? = some (.cells #[.bool found, .slice ap p.length cp, .int .i64 (costL t (p.take i)), .int .i64 n] 48 (0, 0)) ∧ Keeps (fun _ => False) w1 wr) (fun v24 _ => p.length - (intOf v24).toNat)
    case atStart => exact ⟨0, Nat.zero_le _, rfl, HX3.out, K3.out⟩
    case round =>
      obtain ⟨i, hi, rfl, hx, hkr⟩ := hrel
      have HX := Lib.hid hx
      have HKR := Lib.hid hkr
      have HB2 := Lib.hid (HB.out.keeps0 hkr)
      have HF2 := Lib.hid (HF.out.keeps0 hkr)
      have HR2 := Lib.hid (hkr.heap HR.out (fun h => h))
      have s0 : wr.cell? ⟨bx, 0, none⟩ = some (.bool found) := by rw [cell_of_blk hx]; rfl
      have s1 : wr.cell? ⟨bx, 1, none⟩ = some (.slice ap p.length cp) := by rw [cell_of_blk hx]; rfl
      have s2 : wr.cell? ⟨bx, 2, none⟩ = some (.int .i64 (costL t (p.take i))) := by rw [cell_of_blk hx]; rfl
      have s3 : wr.cell? ⟨bx, 3, none⟩ = some (.int .i64 n) := by rw [cell_of_blk hx]; rfl
      have v2 := frozen_of_blk (o := 2) hx
      have hlx := lt_of_heap hx
      clear hkr hx
      by_cases hlt : i < p.length
      · obtain ⟨d0, d1, d2, d3⟩ := HB2.out
        have hbl2 := HB2.out.lt
        obtain ⟨bp, op, rfl, hx'⟩ := CP.out (by omega)
        obtain ⟨x, hx⟩ : ∃ x, p[i]? = some x := ⟨_, List.getElem?_eq_getElem hlt⟩
        have hu := HKR.out.cell (hx' i x hx) (fun h => h)
        have hxi := HIN.out x (List.mem_of_getElem? hx)
        obtain ⟨xn, rfl⟩ : ∃ xn : Nat, x = (xn : Int) := ⟨x.toNat, by omega⟩
        obtain ⟨bo, oo, rfl, ho'⟩ := HOC.out (by omega)
        obtain ⟨o, ho⟩ : ∃ o, t.ops[xn]? = some o := ⟨_, List.getElem?_eq_getElem (by omega)⟩
        obtain ⟨va, vb, vc, _, _, _, c3, _⟩ := ho' xn o ho
        have c3' := HKR.out.cell c3 (fun h => h)
        have HTK : Hid (costL t (p.take (i + 1)) = costL t (p.take i) + o.cost) := by
          unfold Hid
          rw [take_getS hx, costL_append]
          simp [costL, costAt, ho]
        have hbd := costL_bound OK.out (p.take i)
        have hbl : ((p.take i).length : Int) ≤ 1000000 := by rw [List.length_take]; omega
        have hoc := OK.out.ops o (List.mem_of_getElem? ho)
        have ho0 := hoc.cost0
        have ho1 := hoc.cost1
        have q1 : IntKind.i64.wrap (costL t (p.take i) + o.cost) = costL t (p.take i) + o.cost := IntWalk.i64_in _ (by omega)
        have q2 : ((xn : Int)).toNat = xn := by omega
        have q3 : (0 : Int) ≤ (xn : Int) := by omega
        have q4 : (xn : Int) < (t.ops.length : Int) := hxi.2
        clear hx' hx ho' ho c3 hxi hoc hbl hbd
        go_upto_region 7 with fail
        go_still_tail 10, (by kernel_rfl)
        change wpList _ _ _ _ _ wr.drew
        have KD := (Keeps.refl (fun _ => False) wr).drew
        have HXD := Lib.hid (KD.heap HX.out (fun h => h))
        have HKD := Lib.hid (HKR.out.trans KD)
        clear KD d0 d1 d2 d3 hbl2 hu c3' s0 s1 s2 s3 v2 hlx
        generalize wr.drew = w5 at HXD HKD ⊢
        have s2 : w5.cell? ⟨bx, 2, none⟩ = some (.int .i64 (costL t (p.take i))) := by rw [cell_of_blk HXD.out]; rfl
        have v2 := frozen_of_blk (o := 2) HXD.out
        have hlx := lt_of_heap HXD.out
        have HN := Lib.hid (blk_set_same HXD.out (o := 2) (.int .i64 (costL t (p.take i) + o.cost)))
        have HKN := Lib.hid (HKD.out.trans' ((Keeps.refl (fun k => k = bx) w5).setCell (p := ⟨bx, 2, none⟩) (.inl rfl) (.int .i64 (costL t (p.take i) + o.cost))) (fun k hk => .inr (by have := HBX.out; omega)))
        go_wp2_with fail
        go_roundw
        case rel => exact ⟨i + 1, by omega, by go_num, by rw [HTK.out]; exact HN.out, HKN.out⟩
        case measure => simp only [intOf]; omega
      · have hie : i = p.length := by omega
        subst hie
        have r0 : wr.cell? ⟨w.heap.size + 1, 0, none⟩ = some (.bool false) := by rw [cell_of_blk HR2.out]; rfl
        have r1 : wr.cell? ⟨w.heap.size + 1, 1, none⟩ = some (.slice none 0 0) := by rw [cell_of_blk HR2.out]; rfl
        have r2 : wr.cell? ⟨w.heap.size + 1, 2, none⟩ = some (.int .i64 0) := by rw [cell_of_blk HR2.out]; rfl
        have r3 : wr.cell? ⟨w.heap.size + 1, 3, none⟩ = some (.int .i64 0) := by rw [cell_of_blk HR2.out]; rfl
        have y0 := frozen_of_blk (o := 0) HR2.out
        have y1 := frozen_of_blk (o := 1) HR2.out
        have y2 := frozen_of_blk (o := 2) HR2.out
        have y3 := frozen_of_blk (o := 3) HR2.out
        have hlR2 := lt_of_heap HR2.out
        obtain ⟨e0, e1, z0, z1, hF2⟩ := HF2.out.cells
        have HCE : Hid (costL t (p.take p.length) = costL t p) := by unfold Hid; rw [List.take_length]
        have kq := keeps_quad (w := wr) (w.heap.size + 1) (.bool found) (.slice ap p.length cp) (.int .i64 (costL t p)) (.int .i64 n)
        have HQ := Lib.hid (quad_set HR2.out (.bool found) (.slice ap p.length cp) (.int .i64 (costL t p)) (.int .i64 n))
        have HF4 := Lib.hid (HF2.out.keepsS kq (by omega) (fun i hi => by omega))
        rw [HCE.out] at s2
        clear kq HX
        go_wp2_with fail
        refine bodyPost_ret (results_cell_cell _ _ (w.heap.size + 1 + 1) 30 #[.int .i64 0, .int .i64 0] (0, 0) _ rfl rfl (HF4.out.set (.int .i64 0) (.int .i64 0)).1 Try.underlying30 rfl (by kernel_rfl) rfl ((keeps_pair (w.heap.size + 1 + 1) _ _).heap HQ.out (by omega)) Try.underlying48 rfl (by kernel_rfl)) rfl ?_
        exact ⟨(HF4.out.set _ _).2, .inr ⟨HLEN.out, rfl⟩⟩

end Go.Proofs.Ytdonadeodioplaa

namespace Go.Proofs.Ytdonadeodioplaa
open Go.RowKit

/-! ### the plans of a search -/
theorem runOps_lt {ops : List Wop} : ∀ {p : List Nat} {x y : Nat}, runOps ops x p = some y → ∀ o ∈ p, o < ops.length
  | [], _, _, _, _, h => by cases h
  | o :: r, x, y, h, k, hk => by
    rw [runOps] at h
    cases ho : ops[o]? with
    | none => rw [ho] at h; cases h
    | some op =>
      rw [ho] at h; simp only at h
      split at h
      · rcases List.mem_cons.1 hk with rfl | hk
        · exact (List.getElem?_eq_some_iff.1 ho).1
        · exact runOps_lt h k hk
      · cases h

theorem novL_mem {acc : Nat → Bool} {cov : Nat → List Nat → Bool} {e f : Ent} : ∀ {xs : List Stp} {T : List Ent}, (novL acc cov e T xs).2 = some f → f ∈ (novL acc cov e T xs).1 ∧ acc f.to = true
  | [], T, h => by cases h
  | x :: r, T, h => by
    rw [novL] at h ⊢
    by_cases h1 : x.to ∈ keysT T
    · rw [if_pos h1] at h ⊢; exact novL_mem h
    · rw [if_neg h1] at h ⊢
      by_cases h2 : acc x.to = true
      · rw [if_pos h2] at h ⊢; cases h; exact ⟨by simp, h2⟩
      · rw [if_neg h2] at h ⊢
        by_cases h3 : cov x.to (keysT T) = true
        · rw [if_pos h3] at h ⊢; exact novL_mem h
        · rw [if_neg h3] at h ⊢; exact novL_mem h

theorem NovRes.run {acc : Nat → Bool} {cov : Nat → List Nat → Bool} {ops : List Wop} {s n : Nat} {p : List Nat} (h : NovRes acc cov ops s (some p) n) : ∃ y, runOps ops s p = some y ∧ acc y = true := by
  cases h with
  | start h => exact ⟨s, rfl, h⟩
  | found i e f _ _ he hf =>
    obtain ⟨h1, h2⟩ := novL_mem hf
    exact ⟨f.to, (novL_ok (novT_ok acc cov ops s i) (List.mem_of_getElem? he) (fun _ h => h)).run f h1, h2⟩

theorem planIn_run {t : Tsk} {p : List Nat} {x y : Nat} (h : runOps (wordsOf t.ops) x p = some y) : PlanIn t (intsP p) := by
  intro z hz
  unfold intsP at hz
  obtain ⟨o, ho, rfl⟩ := List.mem_map.1 hz
  have := runOps_lt h o ho
  unfold wordsOf at this
  rw [List.length_map] at this
  omega

/-! ### two blocks of results -/
structure RFl (w w1 : World) (R F : Nat) : Prop where
  res : w1.heap[R]? = some (.cells #[.bool false, .slice none 0 0, .int .i64 0, .int .i64 0] 48 (0, 0))
  flt : Flt w w1 F 30
  base : w.heap.size ≤ R
  ne : R ≠ F
theorem RFl.keeps0 {w w1 w2 : World} {R F : Nat} (h : RFl w w1 R F) (hk : Keeps (fun _ => False) w1 w2) : RFl w w2 R F := ⟨hk.heap h.res (fun h => h), h.flt.keeps0 hk, h.base, h.ne⟩
theorem RFl.cells {w w1 : World} {R F : Nat} (h : RFl w w1 R F) : w1.cell? ⟨R, 0, none⟩ = some (.bool false) ∧ w1.cell? ⟨R, 1, none⟩ = some (.slice none 0 0) ∧ w1.cell? ⟨R, 2, none⟩ = some (.int .i64 0) ∧ w1.cell? ⟨R, 3, none⟩ = some (.int .i64 0) ∧
    w1.frozen? ⟨R, 0, none⟩ = false ∧ w1.frozen? ⟨R, 1, none⟩ = false ∧ w1.frozen? ⟨R, 2, none⟩ = false ∧ w1.frozen? ⟨R, 3, none⟩ = false ∧ R < w1.heap.size :=
  ⟨by rw [cell_of_blk h.res]; rfl, by rw [cell_of_blk h.res]; rfl, by rw [cell_of_blk h.res]; rfl, by rw [cell_of_blk h.res]; rfl, frozen_of_blk h.res, frozen_of_blk h.res, frozen_of_blk h.res, frozen_of_blk h.res, lt_of_heap h.res⟩
theorem RFl.set {w w1 : World} {R F : Nat} (h : RFl w w1 R F) (a b c d x y : Value) :
    ((((((w1.setCell ⟨R, 0, none⟩ a).setCell ⟨R, 1, none⟩ b).setCell ⟨R, 2, none⟩ c).setCell ⟨R, 3, none⟩ d).setCell ⟨F, 0, none⟩ x).setCell ⟨F, 1, none⟩ y).heap[R]? = some (.cells #[a, b, c, d] 48 (0, 0)) ∧
    ((((((w1.setCell ⟨R, 0, none⟩ a).setCell ⟨R, 1, none⟩ b).setCell ⟨R, 2, none⟩ c).setCell ⟨R, 3, none⟩ d).setCell ⟨F, 0, none⟩ x).setCell ⟨F, 1, none⟩ y).heap[F]? = some (.cells #[x, y] 30 (0, 0)) ∧
    Keeps (fun _ => False) w ((((((w1.setCell ⟨R, 0, none⟩ a).setCell ⟨R, 1, none⟩ b).setCell ⟨R, 2, none⟩ c).setCell ⟨R, 3, none⟩ d).setCell ⟨F, 0, none⟩ x).setCell ⟨F, 1, none⟩ y) ∧
    Keeps (fun k => k = R ∨ k = F) w1 ((((((w1.setCell ⟨R, 0, none⟩ a).setCell ⟨R, 1, none⟩ b).setCell ⟨R, 2, none⟩ c).setCell ⟨R, 3, none⟩ d).setCell ⟨F, 0, none⟩ x).setCell ⟨F, 1, none⟩ y) := by
  have kq := keeps_quad (w := w1) R a b c d
  have hq := quad_set h.res a b c d
  have hf := h.flt.keepsS kq (fun e => h.ne e.symm) (fun i hi => by subst hi; exact h.base)
  have hs := hf.set x y
  exact ⟨(keeps_pair F x y).heap hq h.ne, hs.1, hs.2, (kq.mono (fun _ _ h => .inl h)).trans ((keeps_pair F x y).mono (fun _ _ h => .inr h))⟩

/-- The zero result stays as it is. -/
theorem RFl.ids {w w1 : World} {R F : Nat} (h : RFl w w1 R F) : w1.setCell ⟨R, 0, none⟩ (.bool false) = w1 ∧ w1.setCell ⟨R, 1, none⟩ (.slice none 0 0) = w1 ∧ w1.setCell ⟨R, 2, none⟩ (.int .i64 0) = w1 ∧ w1.setCell ⟨R, 3, none⟩ (.int .i64 0) = w1 :=
  ⟨setCell_id h.cells.1, setCell_id h.cells.2.1, setCell_id h.cells.2.2.1, setCell_id h.cells.2.2.2.1⟩
theorem RFl.fin {w w1 : World} {R F : Nat} (h : RFl w w1 R F) (x y : Value) : ((w1.setCell ⟨F, 0, none⟩ x).setCell ⟨F, 1, none⟩ y).drew.heap[R]? = some (.cells #[.bool false, .slice none 0 0, .int .i64 0, .int .i64 0] 48 (0, 0)) ∧
    ((w1.setCell ⟨F, 0, none⟩ x).setCell ⟨F, 1, none⟩ y).drew.heap[F]? = some (.cells #[x, y] 30 (0, 0)) ∧ Keeps (fun _ => False) w ((w1.setCell ⟨F, 0, none⟩ x).setCell ⟨F, 1, none⟩ y).drew :=
  ⟨(keeps_pair F x y).drew.heap h.res h.ne, (h.flt.set x y).1, (h.flt.set x y).2.drew⟩

theorem quad_cells {w : World} {B : Nat} {a b c d : Value} {T : TypeId} (h : w.heap[B]? = some (.cells #[a, b, c, d] T (0, 0))) : w.cell? ⟨B, 0, none⟩ = some a ∧ w.cell? ⟨B, 1, none⟩ = some b ∧ w.cell? ⟨B, 2, none⟩ = some c ∧ w.cell? ⟨B, 3, none⟩ = some d ∧ B < w.heap.size :=
  ⟨by rw [cell_of_blk h]; rfl, by rw [cell_of_blk h]; rfl, by rw [cell_of_blk h]; rfl, by rw [cell_of_blk h]; rfl, lt_of_heap h⟩

/-! ### what Plan hands back -/
def nplanF (t : Tsk) (k : Int) : Int × Int := if (taskFault t).1 ≠ 0 then taskFault t else if k < 0 ∨ 4 < k then (3, -8) else match explored t with | none => (10, -7) | some _ => (0, 0)

structure NPlanRes (t : Tsk) (k : Int) (o : Option (List Nat)) (m : Nat) (fnd : Bool) (lp : List Int) (c n fc fi : Int) : Prop where
  res : NovRes (accW (wd t.goal)) (covW k.toNat) (wordsOf t.ops) (wd t.init) o m
  fault : wayF (o.getD []).length (0, 0) = (fc, fi)
  bad : fc ≠ 0 → fnd = false ∧ lp = [] ∧ c = 0 ∧ n = 0
  good : fc = 0 → fnd = o.isSome ∧ lp = intsP (o.getD []) ∧ c = costL t lp ∧ n = (m : Int)

def NPlanPost (t : Tsk) (k : Int) (w : World) (e : Ending) (w' : World) : Prop := Keeps (fun _ => False) w w' ∧ ∃ fnd vp lp c n fc fi, e = .returned (.tuple #[resV fnd vp c n, fltV fc fi]) ∧ Ints w' vp lp ∧
  ((nplanF t k = (fc, fi) ∧ fc ≠ 0 ∧ fnd = false ∧ lp = [] ∧ c = 0 ∧ n = 0) ∨
   (nplanF t k = (0, 0) ∧ t.Ok ∧ 0 ≤ k ∧ k ≤ 4 ∧ ∃ l o m, explored t = some l ∧ NPlanRes t k o m fnd lp c n fc fi))

set_option maxRecDepth 100000 in
set_option maxHeartbeats 4000000 in
theorem nplan_any (w : World) (vi vg vo : Value) (t : Tsk) (k : Int) (h : TaskAt w vi vg vo t) :
    Calls Try.prog 35 #[.agg #[.int .i64 t.n, vi, vg, vo], .int .i64 k] w (NPlanPost t k w) := by
  obtain ⟨ai, ci, h1, _⟩ := h.init.form
  obtain ⟨ag, cg, h2, _⟩ := h.goal.form
  obtain ⟨ao, co, h3, hmo⟩ := h.ops.form
  have K1 := (Keeps.refl (fun _ => False) w).alloc (.cells #[.int .i64 t.n, vi, vg, vo] 25)
  have KA := (Keeps.refl (fun _ => False) (w.alloc (.cells #[.int .i64 t.n, vi, vg, vo] 25))).alloc (.cells #[.bool false, .slice none 0 0, .int .i64 0, .int .i64 0] 48)
  have KB := (Keeps.refl (fun _ => False) ((w.alloc (.cells #[.int .i64 t.n, vi, vg, vo] 25)).alloc (.cells #[.bool false, .slice none 0 0, .int .i64 0, .int .i64 0] 48))).alloc (.cells #[.int .i64 0, .int .i64 0] 30)
  have HB := Lib.hid ((Four.new w (.int .i64 t.n) vi vg vo 25).keeps0 (KA.trans KB))
  have hr := KB.heap (heap_alloc_new (w.alloc (.cells #[.int .i64 t.n, vi, vg, vo] 25)) (.cells #[.bool false, .slice none 0 0, .int .i64 0, .int .i64 0] 48)) (fun h => h)
  have hf : Flt w _ _ 30 := ⟨heap_alloc_new ((w.alloc (.cells #[.int .i64 t.n, vi, vg, vo] 25)).alloc (.cells #[.bool false, .slice none 0 0, .int .i64 0, .int .i64 0] 48)) (.cells #[.int .i64 0, .int .i64 0] 30), by simp; omega, K1.trans (KA.trans KB)⟩
  have HT := Lib.hid (h.keeps0 (K1.trans (KA.trans KB)))
  rw [World.size_alloc] at hr hf
  rw [World.size_alloc] at hf
  have HR := Lib.hid (show RFl w _ (w.heap.size + 1) (w.heap.size + 1 + 1) from ⟨hr, hf, by omega, by omega⟩)
  subst h1 h2 h3
  clear h K1 KA KB hr hf
  go_enter Try.func35, Try.ntmps35
  go_upto_region 1 with fail
  generalize ((w.alloc (.cells #[.int .i64 t.n, .slice ai t.init.length ci, .slice ag t.goal.length cg, .slice ao t.ops.length co] 25)).alloc (.cells #[.bool false, .slice none 0 0, .int .i64 0, .int .i64 0] 48)).alloc (.cells #[.int .i64 0, .int .i64 0] 30) = w1 at HB HR HT ⊢
  have hbx := HB.out.lt
  obtain ⟨d0, d1, d2, d3⟩ := HB.out
  go_wp2_with fail
  refine (validate_any _ _ _ _ t HT.out).mono ?_; rintro e w2 ⟨rfl, hk⟩
  have HB2 := Lib.hid (HB.out.keeps0 hk); have HT2 := Lib.hid (HT.out.keeps0 hk); have HR2 := Lib.hid (HR.out.keeps0 hk)
  clear d0 d1 d2 d3 hk hbx HB HT HR
  by_cases hc : (taskFault t).1 = 0
  · have hok := taskFault_zero.1 hc
    have hft := taskFault_ok hok
    have NF : Hid (nplanF t k = if k < 0 ∨ 4 < k then ((3, -8) : Int × Int) else match explored t with | none => (10, -7) | some _ => (0, 0)) := by
      unfold Hid nplanF; rw [if_neg (by simpa using hc)]
    have OK := Lib.hid hok
    rw [hft]
    clear hc hft hok
    have KA := (Keeps.refl (fun _ => False) w2).alloc (.cells #[.int .i64 0, .int .i64 0] 30)
    have HB3 := Lib.hid (HB2.out.keeps0 KA); have HT3 := Lib.hid (HT2.out.keeps0 KA); have HR3 := Lib.hid (HR2.out.keeps0 KA)
    have F0 := heap_alloc_new w2 (.cells #[.int .i64 0, .int .i64 0] 30)
    clear KA
    go_upto_region 2 with fail
    generalize w2.alloc (.cells #[.int .i64 0, .int .i64 0] 30) = w3 at HB3 HT3 HR3 F0 ⊢
    have f0 : w3.cell? ⟨w2.heap.size, 0, none⟩ = some (.int .i64 0) := by rw [cell_of_blk F0]; rfl
    have f1 : w3.cell? ⟨w2.heap.size, 1, none⟩ = some (.int .i64 0) := by rw [cell_of_blk F0]; rfl
    clear F0
    by_cases hk : k < 0 ∨ 4 < k
    · have NF2 : Hid (nplanF t k = (3, -8)) := by unfold Hid; rw [NF.out, if_pos hk]
      have q : (decide (k < 0) = true) ∨ (decide (k < 0) = false ∧ decide (4 < k) = true) := by
        by_cases h0 : k < 0
        · exact .inl (by simpa using h0)
        · exact .inr ⟨by simpa using h0, by simpa using hk.resolve_left h0⟩
      have HFIN := Lib.hid (HR3.out.set (.bool false) (.slice none 0 0) (.int .i64 0) (.int .i64 0) (.int .i64 3) (.int .i64 (-8)))
      obtain ⟨r0, r1, r2, r3, y0, y1, y2, y3, hlR⟩ := HR3.out.cells
      obtain ⟨e0, e1, z0, z1, hF⟩ := HR3.out.flt.cells
      clear hk
      rcases q with q | ⟨q, q2⟩
      all_goals
        go_wp2_with fail
        refine bodyPost_ret (results_cell_cell _ _ (w.heap.size + 1 + 1) 30 #[.int .i64 3, .int .i64 (-8)] (0, 0) _ rfl rfl HFIN.out.2.1 Try.underlying30 rfl (by kernel_rfl) rfl HFIN.out.1 Try.underlying48 rfl (by kernel_rfl)) rfl ?_
        exact ⟨HFIN.out.2.2.1, false, _, [], 0, 0, 3, -8, rfl, Ints.nil _, .inl ⟨NF2.out, by decide, rfl, rfl, rfl, rfl⟩⟩
    · have q1 : decide (k < 0) = false := by simp; omega
      have q2 : decide (4 < k) = false := by simp; omega
      have hk2 : 0 ≤ k ∧ k ≤ 4 := by omega
      have NF2 : Hid (nplanF t k = match explored t with | none => (10, -7) | some _ => (0, 0)) := by unfold Hid; rw [NF.out, if_neg hk]
      obtain ⟨d0, d1, d2, d3⟩ := HB3.out
      have hbx := HB3.out.lt
      clear hk NF
      go_wp2_with fail
      refine (checked_any _ _ _ _ t HT3.out).mono ?_; rintro e w4 ⟨hk, hr⟩
      have HB4 := Lib.hid (HB3.out.keeps0 hk); have HT4 := Lib.hid (HT3.out.keeps0 hk); have HR4 := Lib.hid (HR3.out.keeps0 hk)
      clear d0 d1 d2 d3 hk hbx f0 f1
      rcases hr with ⟨hc, rfl⟩ | ⟨hok, hx, rfl⟩ | ⟨hok, l, hx, b, v, vl, ws, rfl, hw, _, _, _⟩
      · exact absurd (taskFault_zero.2 OK.out) hc
      · have NF3 : Hid (nplanF t k = (10, -7)) := by unfold Hid; rw [NF2.out, hx]
        have HR5 := Lib.hid (HR4.out.keeps0 ((Keeps.refl _ _).alloc (.cells #[.int .i64 10, .int .i64 (-7)] 30)))
        have F0 := heap_alloc_new w4 (.cells #[.int .i64 10, .int .i64 (-7)] 30)
        clear hok hx
        go_upto_region 7 with fail
        generalize w4.alloc (.cells #[.int .i64 10, .int .i64 (-7)] 30) = w5 at HR5 F0 ⊢
        have f0 : w5.cell? ⟨w4.heap.size, 0, none⟩ = some (.int .i64 10) := by rw [cell_of_blk F0]; rfl
        have f1 : w5.cell? ⟨w4.heap.size, 1, none⟩ = some (.int .i64 (-7)) := by rw [cell_of_blk F0]; rfl
        have HFIN := Lib.hid (HR5.out.fin (.int .i64 10) (.int .i64 (-7)))
        obtain ⟨r0, r1, r2, r3, y0, y1, y2, y3, hlR⟩ := HR5.out.cells
        obtain ⟨e0, e1, z0, z1, hF⟩ := HR5.out.flt.cells
        obtain ⟨s0, s1, s2, s3⟩ := HR5.out.ids
        clear F0
        go_wp2_with fail
        go_region
        all_goals
          go_wp2
          refine bodyPost_ret (results_cell_cell _ _ (w.heap.size + 1 + 1) 30 #[.int .i64 10, .int .i64 (-7)] (0, 0) _ rfl rfl HFIN.out.2.1 Try.underlying30 rfl (by kernel_rfl) rfl HFIN.out.1 Try.underlying48 rfl (by kernel_rfl)) rfl ?_
          exact ⟨HFIN.out.2.2, false, _, [], 0, 0, 10, -7, rfl, Ints.nil _, .inl ⟨NF3.out, by decide, rfl, rfl, rfl, rfl⟩⟩
      · have NF3 : Hid (nplanF t k = (0, 0)) := by unfold Hid; rw [NF2.out, hx]
        have HX := Lib.hid hx
        have KA := (Keeps.refl (fun _ => False) w4).alloc (.cells #[.int .i64 0, .int .i64 0] 30)
        have HW := Lib.hid (hw.keeps0 KA)
        have HB5 := Lib.hid (HB4.out.keeps0 KA); have HT5 := Lib.hid (HT4.out.keeps0 KA); have HR5 := Lib.hid (HR4.out.keeps0 KA)
        have F0 := heap_alloc_new w4 (.cells #[.int .i64 0, .int .i64 0] 30)
        clear hok hx hw KA
        go_upto_region 7 with fail
        generalize w4.alloc (.cells #[.int .i64 0, .int .i64 0] 30) = w5 at HW HB5 HT5 HR5 F0 ⊢
        have f0 : w5.cell? ⟨w4.heap.size, 0, none⟩ = some (.int .i64 0) := by rw [cell_of_blk F0]; rfl
        have f1 : w5.cell? ⟨w4.heap.size, 1, none⟩ = some (.int .i64 0) := by rw [cell_of_blk F0]; rfl
        clear F0
        obtain ⟨kn, rfl⟩ : ∃ kn : Nat, k = (kn : Int) := ⟨k.toNat, by omega⟩
        have hs32 : wd t.init < 4294967296 := wd_lt32 (by have := OK.out.n1; omega : t.n ≤ 32) OK.out.init
        go_wp2_with fail
        refine (search_any w5 b (wd t.init) (wd t.goal) _ v (wordsOf t.ops) HW.out (wops_ok OK.out) (by unfold wordsOf; rw [List.length_map]; exact OK.out.few) hs32 l HX.out kn (by omega)).mono ?_
        rintro e w6 ⟨hk6, hr⟩
        have HB6 := Lib.hid (HB5.out.keeps0 hk6); have HT6 := Lib.hid (HT5.out.keeps0 hk6); have HR6 := Lib.hid (HR5.out.keeps0 hk6)
        have hr2 : ∃ (o : Option (List Nat)) (m : Nat) (vp : Value), e = .returned (.tuple #[vp, .int .i64 (m : Int), .bool o.isSome]) ∧ Ints w6 vp (intsP (o.getD [])) ∧ NovRes (accW (wd t.goal)) (covW kn) (wordsOf t.ops) (wd t.init) o m ∧ PlanIn t (intsP (o.getD [])) ∧ (∀ j, vp.ownBlock = some j → w5.heap.size ≤ j) := by
          rcases hr with ⟨m, hn, rfl⟩ | ⟨p, m, hn, v', rfl, hi, hlo⟩
          · exact ⟨none, m, _, rfl, Ints.nil _, hn, fun z hz => by simp [intsP] at hz, fun j hj => by simp [Value.ownBlock] at hj⟩
          · obtain ⟨y, hy, _⟩ := hn.run
            exact ⟨some p, m, v', rfl, hi, hn, planIn_run hy, hlo⟩
        obtain ⟨o, m, vp, rfl, hvp, hnv, hin, hlo⟩ := hr2
        have HLO := Lib.hid (show (w.heap.size + 1 < w5.heap.size ∧ w.heap.size + 1 + 1 < w5.heap.size) ∧ ∀ j, vp.ownBlock = some j → w5.heap.size ≤ j from ⟨⟨lt_of_heap HR5.out.res, lt_of_heap HR5.out.flt.blk⟩, hlo⟩)
        obtain ⟨ap, cp, hpv, _⟩ := hvp.form
        subst hpv
        have HVP := Lib.hid hvp; have HNV := Lib.hid hnv; have HIN := Lib.hid hin
        obtain ⟨d0, d1, d2, d3⟩ := HB6.out
        have hbx := HB6.out.lt
        clear hk6 hr hvp hnv hin hlo f0 f1
        go_wp2_with fail
        refine (result_any w6 _ _ _ _ t _ o.isSome (m : Int) HT6.out OK.out HVP.out HIN.out).mono ?_
        rintro e w7 ⟨hk7, hr7⟩
        have HR7 := Lib.hid (HR6.out.keeps0 hk7)
        have HVP7 := Lib.hid (HVP.out.keeps0 hk7)
        obtain ⟨r0, r1, r2, r3, y0, y1, y2, y3, hlR⟩ := HR7.out.cells
        obtain ⟨e0, e1, z0, z1, hF⟩ := HR7.out.flt.cells
        have HLQ : Hid ((intsP (o.getD [])).length = (o.getD []).length) := by unfold Hid intsP; rw [List.length_map]
        have hlow6 := HR6.out.flt.keep.size
        clear d0 d1 d2 d3 hbx hk7
        rcases hr7 with ⟨h60, rfl⟩ | ⟨h60, rfl⟩
        · have HFIN := Lib.hid (HR7.out.set (.bool false) (.slice none 0 0) (.int .i64 0) (.int .i64 0) (.int .i64 10) (.int .i64 (-9)))
          have HWF : Hid (wayF (o.getD []).length (0, 0) = (10, -9)) := by unfold Hid wayF; rw [if_pos ⟨rfl, by rw [← HLQ.out]; exact h60⟩]
          clear h60
          simp only [resV, fltV]
          go_wp2_with fail
          refine bodyPost_ret (results_cell_cell _ _ (w.heap.size + 1 + 1) 30 #[.int .i64 10, .int .i64 (-9)] (0, 0) _ rfl rfl HFIN.out.2.1 Try.underlying30 rfl (by kernel_rfl) rfl HFIN.out.1 Try.underlying48 rfl (by kernel_rfl)) rfl ?_
          exact ⟨HFIN.out.2.2.1, false, _, [], 0, 0, 10, -9, rfl, Ints.nil _, .inr ⟨NF3.out, OK.out, hk2.1, hk2.2, l, o, m, HX.out, HNV.out, HWF.out, fun _ => ⟨rfl, rfl, rfl, rfl⟩, fun h => by simp at h⟩⟩
        · have HFIN := Lib.hid (HR7.out.set (.bool o.isSome) (.slice ap (intsP (o.getD [])).length cp) (.int .i64 (costL t (intsP (o.getD [])))) (.int .i64 (m : Int)) (.int .i64 0) (.int .i64 0))
          have HWF : Hid (wayF (o.getD []).length (0, 0) = (0, 0)) := by unfold Hid wayF; rw [if_neg (fun h => by have h2 := h.2; rw [← HLQ.out] at h2; omega)]
          clear h60
          simp only [resV, fltV]
          go_wp2_with fail
          refine bodyPost_ret (results_cell_cell _ _ (w.heap.size + 1 + 1) 30 #[.int .i64 0, .int .i64 0] (0, 0) _ rfl rfl HFIN.out.2.1 Try.underlying30 rfl (by kernel_rfl) rfl HFIN.out.1 Try.underlying48 rfl (by kernel_rfl)) rfl ?_
          refine ⟨HFIN.out.2.2.1, o.isSome, _, intsP (o.getD []), costL t (intsP (o.getD [])), (m : Int), 0, 0, rfl, ?_, .inr ⟨NF3.out, OK.out, hk2.1, hk2.2, l, o, m, HX.out, HNV.out, HWF.out, fun h => absurd rfl h, fun _ => ⟨rfl, rfl, rfl, rfl⟩⟩⟩
          refine HVP7.out.keepsS HFIN.out.2.2.2 (fun h0 j hj e' => ?_)
          have h1 := HLO.out.2 j hj
          have h2 := HLO.out.1
          omega
  · have hc2 : ((taskFault t).1 == 0) = false := by simpa using hc
    have NF2 : Hid (nplanF t k = taskFault t) := by unfold Hid nplanF; rw [if_pos hc]
    have HC := Lib.hid hc
    clear hc
    generalize hfe : taskFault t = f at hc2 NF2 HC ⊢
    clear hfe
    have HR3 := Lib.hid (HR2.out.keeps0 ((Keeps.refl _ _).alloc (.cells #[.int .i64 f.1, .int .i64 f.2] 30)))
    have F0 := heap_alloc_new w2 (.cells #[.int .i64 f.1, .int .i64 f.2] 30)
    go_upto_region 2 with fail
    generalize w2.alloc (.cells #[.int .i64 f.1, .int .i64 f.2] 30) = w3 at HR3 F0 ⊢
    have f0 : w3.cell? ⟨w2.heap.size, 0, none⟩ = some (.int .i64 f.1) := by rw [cell_of_blk F0]; rfl
    have f1 : w3.cell? ⟨w2.heap.size, 1, none⟩ = some (.int .i64 f.2) := by rw [cell_of_blk F0]; rfl
    have HFIN := Lib.hid (HR3.out.fin (.int .i64 f.1) (.int .i64 f.2))
    obtain ⟨r0, r1, r2, r3, y0, y1, y2, y3, hlR⟩ := HR3.out.cells
    obtain ⟨e0, e1, z0, z1, hF⟩ := HR3.out.flt.cells
    obtain ⟨s0, s1, s2, s3⟩ := HR3.out.ids
    clear F0
    go_wp2_with fail
    go_region
    all_goals
      go_wp2
      refine bodyPost_ret (results_cell_cell _ _ (w.heap.size + 1 + 1) 30 #[.int .i64 f.1, .int .i64 f.2] (0, 0) _ rfl rfl HFIN.out.2.1 Try.underlying30 rfl (by kernel_rfl) rfl HFIN.out.1 Try.underlying48 rfl (by kernel_rfl)) rfl ?_
      exact ⟨HFIN.out.2.2, false, _, [], 0, 0, f.1, f.2, rfl, Ints.nil _, .inl ⟨NF2.out, HC.out, rfl, rfl, rfl, rfl⟩⟩

end Go.Proofs.Ytdonadeodioplaa

namespace Go.Proofs.Ytdonadeodioplaa

/-! ### greater states -/
theorem under_refl (a : Nat) : under a a := fun _ h => h
theorem under_trans {a b c : Nat} (h : under a b) (k : under b c) : under a c := fun i hi => k i (h i hi)
theorem goalB_iff {g x : Nat} : goalB g x = true ↔ under g x := by
  unfold goalB
  rw [beq_iff_eq]
  constructor
  · intro h i hi
    have := congrArg (fun z => z.testBit i) h
    simp only [Nat.testBit_and, hi, Bool.and_true] at this
    exact this
  · intro h
    refine Nat.eq_of_testBit_eq fun i => ?_
    rw [Nat.testBit_and]
    cases hg : g.testBit i with
    | false => simp
    | true => rw [h i hg]; rfl
theorem can_iff {o : Wop} {x : Nat} : o.can x = true ↔ under o.pre x := goalB_iff (g := o.pre) (x := x)
theorem goalB_mono {g a b : Nat} (h : under a b) (hg : goalB g a = true) : goalB g b = true := goalB_iff.2 (under_trans (goalB_iff.1 hg) h)
theorem can_mono {o : Wop} {a b : Nat} (h : under a b) (hc : o.can a = true) : o.can b = true := can_iff.2 (under_trans (can_iff.1 hc) h)
theorem next_mono {o : Wop} {a b : Nat} (h : under a b) : under (o.next a) (o.next b) := by
  intro i hi
  unfold Wop.next andN at hi ⊢
  rw [Nat.testBit_or, Nat.testBit_and, Bool.or_eq_true, Bool.and_eq_true] at hi ⊢
  rcases hi with ⟨h1, h2⟩ | h1
  · exact .inl ⟨h i h1, h2⟩
  · exact .inr h1

theorem cov_under {k : Nat} {x : Nat} {T : List Nat} (hx : x < 2 ^ 32) (hk : (facts x).length ≤ k) (h : covW k x T = true) : ∃ z ∈ T, under x z := by
  unfold covW at h
  obtain ⟨z, hz, _, hb⟩ := (covN_iff hx k 0 (fun i hi => by simp at hi)).1 h ((facts x).map Int.toNat) (fun p hp => by
    obtain ⟨y, hy, rfl⟩ := List.mem_map.1 hp
    obtain ⟨q, rfl, _, hq⟩ := mem_facts.1 hy
    rw [Int.toNat_natCast]; exact hq) (by rw [List.length_map]; exact hk)
  refine ⟨z, hz, fun i hi => hb i ?_⟩
  have hlt : i < 32 := Nat.lt_of_not_le fun hle => by
    rw [Nat.testBit_lt_two_pow (Nat.lt_of_lt_of_le hx (Nat.pow_le_pow_right (by decide) hle))] at hi; cases hi
  exact List.mem_map.2 ⟨(i : Int), mem_facts.2 ⟨i, rfl, hlt, hi⟩, by simp⟩

theorem reach_run {ops : List Wop} {s : Nat} : ∀ (q : List Nat) {x y : Nat}, Reach ops s x → runOps ops x q = some y → Reach ops s y
  | [], x, y, hx, hy => by cases hy; exact hx
  | a :: q, x, y, hx, hy => by
    rw [runOps] at hy
    cases ho : ops[a]? with
    | none => rw [ho] at hy; cases hy
    | some o =>
      rw [ho] at hy; simp only at hy
      by_cases hc : o.can x = true
      · rw [if_pos hc] at hy
        exact reach_run q (.step hx (List.mem_map.2 ⟨o, List.mem_filter.2 ⟨List.mem_of_getElem? ho, hc⟩, rfl⟩)) hy
      · rw [if_neg hc] at hy; cases hy

/-! ### the search that finds nothing -/
section
variable {acc : Nat → Bool} {cov : Nat → List Nat → Bool}
theorem novL_none {e : Ent} : ∀ {xs : List Stp} {T : List Ent}, (novL acc cov e T xs).2 = none →
    (∀ x ∈ xs, x.to ∈ keysT (novL acc cov e T xs).1 ∨ ∃ T', T' <+: (novL acc cov e T xs).1 ∧ cov x.to (keysT T') = true) ∧
    (∀ f ∈ (novL acc cov e T xs).1, f ∈ T ∨ acc f.to = false)
  | [], T, _ => ⟨fun x hx => (by cases hx), fun f hf => .inl hf⟩
  | x :: r, T, h => by
    rw [novL] at h ⊢
    split at h
    · rename_i hin
      rw [if_pos hin]
      obtain ⟨h1, h2⟩ := novL_none h
      refine ⟨fun y hy => ?_, h2⟩
      rcases List.mem_cons.1 hy with rfl | hy
      · exact .inl (((novL_prefix r T).map Ent.to).subset hin)
      · exact h1 y hy
    · rename_i hin
      rw [if_neg hin]
      split at h
      · cases h
      · rename_i hacc
        rw [if_neg hacc]
        split at h
        · rename_i hcov
          rw [if_pos hcov]
          obtain ⟨h1, h2⟩ := novL_none h
          refine ⟨fun y hy => ?_, h2⟩
          rcases List.mem_cons.1 hy with rfl | hy
          · exact .inr ⟨T, novL_prefix r T, hcov⟩
          · exact h1 y hy
        · rename_i hcov
          rw [if_neg hcov]
          obtain ⟨h1, h2⟩ := novL_none h
          refine ⟨fun y hy => ?_, fun f hf => ?_⟩
          · rcases List.mem_cons.1 hy with rfl | hy
            · refine .inl (((novL_prefix r (T ++ [e.of y])).map Ent.to).subset ?_)
              simp [Ent.of]
            · exact h1 y hy
          · rcases h2 f hf with h2 | h2
            · rcases List.mem_append.1 h2 with h2 | h2
              · exact .inl h2
              · rw [List.mem_singleton] at h2; subst h2
                exact .inr (by simpa [Ent.of] using hacc)
            · exact .inr h2

theorem novT_prefix (ops : List Wop) (s i : Nat) : ∀ k, novT acc cov ops s i <+: novT acc cov ops s (i + k)
  | 0 => List.prefix_refl _
  | k + 1 => by
    refine (novT_prefix ops s i k).trans ?_
    rw [← Nat.add_assoc, novT]
    split
    · exact List.prefix_refl _
    · exact novL_prefix _ _

theorem novT_dull {ops : List Wop} {s : Nat} (h0 : acc s = false) : ∀ {i : Nat}, NovNo acc cov ops s i → ∀ f ∈ novT acc cov ops s i, acc f.to = false
  | 0, _, f, hf => by
    rw [novT, List.mem_singleton] at hf; subst hf; exact h0
  | i + 1, hn, f, hf => by
    have ih := novT_dull h0 (i := i) (fun j e hj he => hn j e (by omega) he)
    rw [novT] at hf
    split at hf
    · exact ih f hf
    · rename_i e he
      rcases (novL_none (hn i e (by omega) he)).2 f hf with h | h
      · exact ih f h
      · exact h

theorem nov_best {ops : List Wop} {s m : Nat} (h : NovRes acc cov ops s none m) (hcov : ∀ x T, Reach ops s x → cov x T = true → ∃ z ∈ T, under x z) (hacc : ∀ a b, Reach ops s a → Reach ops s b → under a b → acc a = true → acc b = true) : Best ops s acc none := by
  cases h with
  | none i h0 hl hn =>
    have hdull := novT_dull h0 hn
    have hstep : ∀ e ∈ novT acc cov ops s m, ∀ x ∈ wsteps ops e.to, Reach ops s x.to → ∃ f ∈ novT acc cov ops s m, under x.to f.to := by
      intro e he x hx hr
      obtain ⟨j, hj⟩ := List.mem_iff_getElem?.1 he
      have hjl := (List.getElem?_eq_some_iff.1 hj).1
      rw [hl] at hjl
      have hjl2 : j < (novT acc cov ops s j).length ∨ (novT acc cov ops s j).length ≤ j := Nat.lt_or_ge _ _
      rcases hjl2 with hjl2 | hjl2
      · have hp := novT_prefix (acc := acc) (cov := cov) ops s j (m - j)
        rw [Nat.add_sub_cancel' (Nat.le_of_lt hjl)] at hp
        have hjj : (novT acc cov ops s j)[j]? = some e := by
          rw [← hj]; obtain ⟨r, hr⟩ := hp
          rw [← hr, List.getElem?_append_left hjl2]
        have hp2 := novT_prefix (acc := acc) (cov := cov) ops s (j + 1) (m - (j + 1))
        rw [Nat.add_sub_cancel' hjl] at hp2
        have hno := hn j e hjl hjj
        have hT := novT_step hjj
        rcases (novL_none hno).1 x hx with h | ⟨T', hT', hc⟩
        · rw [← hT] at h
          obtain ⟨f, hf, hfe⟩ := List.mem_map.1 h
          exact ⟨f, hp2.subset hf, by rw [hfe]; exact under_refl _⟩
        · rw [← hT] at hT'
          obtain ⟨z, hz, hu⟩ := hcov _ _ hr hc
          obtain ⟨f, hf, rfl⟩ := List.mem_map.1 hz
          exact ⟨f, hp2.subset (hT'.subset hf), hu⟩
      · exfalso
        have key : ∀ k : Nat, novT acc cov ops s (j + k) = novT acc cov ops s j := by
          intro k
          induction k with
          | zero => rfl
          | succ k ih =>
            rw [← Nat.add_assoc, novT, List.getElem?_eq_none (by rw [ih]; omega)]
            exact ih
        have h1 := key (m - j)
        rw [Nat.add_sub_cancel' (Nat.le_of_lt hjl)] at h1
        rw [h1] at hl; omega
    have hall : ∀ y, Reach ops s y → ∃ f ∈ novT acc cov ops s m, under y f.to := by
      intro y hy
      induction hy with
      | refl =>
        have hp := novT_prefix (acc := acc) (cov := cov) ops s 0 m
        rw [Nat.zero_add] at hp
        exact ⟨⟨s, s, 0, []⟩, hp.subset (by simp [novT]), under_refl _⟩
      | @step x y hx hy ih =>
        obtain ⟨f, hf, hu⟩ := ih
        have hx' : Reach ops s f.to := (novT_ok acc cov ops s m).reach f hf
        obtain ⟨o, ho, hoy⟩ := List.mem_map.1 hy
        obtain ⟨ho, hc⟩ := List.mem_filter.1 ho
        obtain ⟨k, hk⟩ := List.mem_iff_getElem?.1 ho
        have hcf := can_mono hu hc
        have hst : (⟨k, o.cost, o.next f.to⟩ : Stp) ∈ wsteps ops f.to := wsteps_mem.2 ⟨o, hk, hcf, rfl, rfl⟩
        have hrn : Reach ops s (o.next f.to) := .step hx' (List.mem_map.2 ⟨o, List.mem_filter.2 ⟨ho, hcf⟩, rfl⟩)
        obtain ⟨g, hg, hug⟩ := hstep f hf _ hst hrn
        exact ⟨g, hg, by rw [← hoy]; exact under_trans (next_mono hu) hug⟩
    intro q y hq
    obtain ⟨f, hf, hu⟩ := hall y (reach_run q .refl hq)
    cases ha : acc y with
    | false => rfl
    | true => rw [← hacc _ _ (reach_run q .refl hq) ((novT_ok acc cov ops s m).reach f hf) hu ha]; exact hdull f hf

theorem nov_run {ops : List Wop} {s m : Nat} {p : List Nat} (h : NovRes acc cov ops s (some p) m) : ∃ y, runOps ops s p = some y ∧ acc y = true := by
  cases h with
  | start h0 => exact ⟨s, rfl, h0⟩
  | found i e f h0 hn he hf =>
    obtain ⟨h1, h2⟩ := novL_mem hf
    rw [← novT_step he] at h1
    exact ⟨f.to, (novT_ok acc cov ops s (i + 1)).run f h1, h2⟩
end

theorem ops_cost {t : Tsk} (ok : t.Ok) : ∀ o ∈ wordsOf t.ops, 0 ≤ o.cost ∧ o.cost ≤ 100 := fun o ho => by
  unfold wordsOf at ho
  obtain ⟨o', ho', rfl⟩ := List.mem_map.1 ho
  exact ⟨(ok.ops o' ho').cost0, (ok.ops o' ho').cost1⟩

theorem wide_plain {t : Tsk} (ok : t.Ok) {l ws : List Nat} (hx : explored t = some l) (hw : WsOf t l ws) {D : Nat → Int} (hD : CostOk (arcs (wordsOf t.ops) ws) (ws.map (goalB (wd t.goal))) (ws.map D))
    {k c n fi : Int} {o : Option (List Nat)} {m : Nat} {fnd : Bool} {lp : List Int} (hk : 0 ≤ k) (h : NPlanRes t k o m fnd lp c n 0 fi) :
    (fnd = true → D (wd t.init) < 1000000000) ∧ (fnd = false → (∀ x ∈ ws, ((facts x).length : Int) ≤ k) → D (wd t.init) = 1000000000) := by
  obtain ⟨n1, n2, _, hsh, _, n6, _, n8⟩ := costs_need ok hx hw.1
  have hrc := (hw.good ok hx).2.2.1
  have hbig : bigC = 1000000000 := rfl
  have hacc : ∀ y, Reach (wordsOf t.ops) (wd t.init) y → accW (wd t.goal) y = goalB (wd t.goal) y := fun y hy => goal_bits (n6 y ((hrc y).2 hy)) n2
  obtain ⟨g1, _⟩ := h.good rfl
  constructor
  · intro hf
    subst g1
    cases o with
    | none => simp at hf
    | some p =>
      obtain ⟨y, hy, ha⟩ := nov_run h.res
      have hp : p.length ≤ 60 := Nat.le_of_not_lt fun hp => by
        have := h.fault
        unfold wayF at this
        rw [if_pos ⟨rfl, by simpa using hp⟩] at this
        simp at this
      rw [hacc y (reach_run p .refl hy)] at ha
      have := (opt_le hsh hD (ops_cost ok) n8 hy ha (by omega)).2
      omega
  · intro hf hall
    subst g1
    cases o with
    | some p => simp at hf
    | none =>
      have hb := nov_best h.res (fun x T hx' hc => cov_under (n6 x ((hrc x).2 hx')) (by have := hall x ((hrc x).2 hx'); omega) hc) (fun a b ra rb hu ha => by
        rw [hacc _ rb]; rw [hacc _ ra] at ha; exact goalB_mono hu ha)
      rw [← hbig]
      refine opt_none hD n8 (fun q y hq => ?_)
      rw [← hacc y (reach_run q .refl hq)]
      exact hb q y hq

end Go.Proofs.Ytdonadeodioplaa

namespace Go.Proofs.Ytdonadeodioplaa
open Go.RowKit

def widthHit (t : Tsk) (k : Nat) : Prop := ∃ p m, NovRes (accW (wd t.goal)) (covW k) (wordsOf t.ops) (wd t.init) (some p) m
def widthMiss (t : Tsk) (k : Nat) : Prop := ∃ m, NovRes (accW (wd t.goal)) (covW k) (wordsOf t.ops) (wd t.init) none m

def WidthPost (t : Tsk) (w : World) (e : Ending) (w' : World) : Prop := Keeps (fun _ => False) w w' ∧ ∃ n ok c i, e = .returned (.tuple #[.int .i64 n, .bool ok, fltV c i]) ∧
  ((expF t = (c, i) ∧ c ≠ 0 ∧ n = 0 ∧ ok = false) ∨
   (expF t = (0, 0) ∧ c = 0 ∧ i = 0 ∧ t.Ok ∧ ∃ l, explored t = some l ∧
    ((∃ k : Nat, k ≤ 4 ∧ n = (k : Int) ∧ ok = true ∧ widthHit t k ∧ ∀ j, j < k → widthMiss t j) ∨ (n = 0 ∧ ok = false ∧ ∀ j, j ≤ 4 → widthMiss t j))))

set_option maxRecDepth 100000 in
set_option maxHeartbeats 2000000 in
theorem width_any (w : World) (vi vg vo : Value) (t : Tsk) (h : TaskAt w vi vg vo t) :
    Calls Try.prog 63 #[.agg #[.int .i64 t.n, vi, vg, vo]] w (WidthPost t w) := by
  obtain ⟨ai, ci, h1, _⟩ := h.init.form
  obtain ⟨ag, cg, h2, _⟩ := h.goal.form
  obtain ⟨ao, co, h3, hmo⟩ := h.ops.form
  subst h1 h2 h3
  have K1 := (Keeps.refl (fun _ => False) w).alloc (.cells #[.int .i64 t.n, .slice ai t.init.length ci, .slice ag t.goal.length cg, .slice ao t.ops.length co] 25)
  have HT := h.keeps0 (K1.alloc (.cells #[.int .i64 0, .int .i64 0] 30))
  have HB := (Four.new w (.int .i64 t.n) (.slice ai t.init.length ci) (.slice ag t.goal.length cg) (.slice ao t.ops.length co) 25).keeps0 ((Keeps.refl _ _).alloc (.cells #[.int .i64 0, .int .i64 0] 30))
  have HF : Flt w ((w.alloc (.cells #[.int .i64 t.n, .slice ai t.init.length ci, .slice ag t.goal.length cg, .slice ao t.ops.length co] 25)).alloc (.cells #[.int .i64 0, .int .i64 0] 30)) (w.heap.size + 1) 30 :=
    ⟨by have := heap_alloc_new (w.alloc (.cells #[.int .i64 t.n, .slice ai t.init.length ci, .slice ag t.goal.length cg, .slice ao t.ops.length co] 25)) (.cells #[.int .i64 0, .int .i64 0] 30); rwa [World.size_alloc] at this, by omega, K1.alloc _⟩
  replace HT := Lib.hid HT; replace HB := Lib.hid HB; replace HF := Lib.hid HF
  clear h K1
  go_enter Try.func63, Try.ntmps63
  go_upto_region 1 with fail
  generalize ((w.alloc (.cells #[.int .i64 t.n, .slice ai t.init.length ci, .slice ag t.goal.length cg, .slice ao t.ops.length co] 25)).alloc (.cells #[.int .i64 0, .int .i64 0] 30)) = w1 at HT HB HF ⊢
  have hbx := HB.out.lt
  obtain ⟨d0, d1, d2, d3⟩ := HB.out
  go_wp2_with fail
  refine (checked_any _ _ _ _ t HT.out).mono ?_; rintro e w2 ⟨hk, hr⟩
  have K2 := Lib.hid hk
  have HF2 := Lib.hid (HF.out.keeps0 hk)
  clear d0 d1 d2 d3 hk
  have hb0 := HF2.out.keep.size
  rcases hr with ⟨hc, rfl⟩ | ⟨hok, hx, rfl⟩ | ⟨hok, l, hx, b, v, vl, ws, rfl, hw, _, _, _⟩
  · have hc2 : ((taskFault t).1 == 0) = false := by simpa using hc
    have HC := Lib.hid (show expF t = ((taskFault t).1, (taskFault t).2) ∧ (taskFault t).1 ≠ 0 from ⟨by unfold expF; rw [if_neg hc], hc⟩)
    clear hc
    generalize hfe : taskFault t = f at hc2 HC ⊢
    clear hfe
    have HF3 := Lib.hid (HF2.out.keeps0 ((Keeps.refl _ _).alloc (.cells #[.int .i64 f.1, .int .i64 f.2] 30)))
    obtain ⟨e0, e1, z0, z1, hF⟩ := HF3.out.cells
    go_wp2_with fail
    go_region
    all_goals
      go_wp2
      refine bodyPost_ret (results_tmp2_cell _ _ (w.heap.size + 1) 30 #[.int .i64 f.1, .int .i64 f.2] (0, 0) _ rfl rfl (((Keeps.refl (fun _ => False) _).drew).heap (HF3.out.set (.int .i64 f.1) (.int .i64 f.2)).1 (fun h => h)) Try.underlying30 rfl (by kernel_rfl)) rfl ?_
      exact ⟨((HF3.out.set (.int .i64 f.1) (.int .i64 f.2)).2).drew, 0, false, f.1, f.2, rfl, .inl ⟨HC.out.1, HC.out.2, rfl, rfl⟩⟩
  · have HC := Lib.hid (show expF t = (10, -7) by unfold expF; rw [if_pos (taskFault_zero.2 hok), hx])
    clear hx hok
    have HF3 := Lib.hid (HF2.out.keeps0 ((Keeps.refl _ _).alloc (.cells #[.int .i64 10, .int .i64 (-7)] 30)))
    obtain ⟨e0, e1, z0, z1, hF⟩ := HF3.out.cells
    go_wp2_with fail
    go_region
    all_goals
      go_wp2
      refine bodyPost_ret (results_tmp2_cell _ _ (w.heap.size + 1) 30 #[.int .i64 10, .int .i64 (-7)] (0, 0) _ rfl rfl (((Keeps.refl (fun _ => False) _).drew).heap (HF3.out.set (.int .i64 10) (.int .i64 (-7))).1 (fun h => h)) Try.underlying30 rfl (by kernel_rfl)) rfl ?_
      exact ⟨((HF3.out.set (.int .i64 10) (.int .i64 (-7))).2).drew, 0, false, 10, -7, rfl, .inl ⟨HC.out, by decide, rfl, rfl⟩⟩
  · have HX := Lib.hid hx; have OK := Lib.hid hok
    have HC := Lib.hid (show expF t = (0, 0) by unfold expF; rw [if_pos (taskFault_zero.2 hok), hx])
    have KA := (Keeps.refl (fun _ => False) w2).alloc (.cells #[.int .i64 0, .int .i64 0] 30)
    have HW := Lib.hid (hw.keeps0 KA)
    have HF3 := Lib.hid (HF2.out.keeps0 KA)
    clear hx hok hw KA
    have hs32 : wd t.init < 4294967296 := wd_lt32 (by have := OK.out.n1; omega : t.n ≤ 32) OK.out.init
    go_wp2_with fail
    generalize w2.alloc (.cells #[.int .i64 0, .int .i64 0] 30) = w3 at HW HF3 ⊢
    go_loopw [22] (fun v22 wr => ∃ k : Nat, k ≤ 5 ∧ v22 = .int .i64 (k : Int) ∧ Keeps (fun _ => False) w3 wr ∧ ∀ j, j < k → widthMiss t j) (fun v22 _ => 5 - (intOf v22).toNat)
    case atStart => exact ⟨0, by omega, rfl, Keeps.refl _ _, fun j hj => absurd hj (Nat.not_lt_zero _)⟩
    case round =>
      obtain ⟨k, hk, rfl, hkr, hmiss⟩ := hrel
      have HKR := Lib.hid hkr; have HMS := Lib.hid hmiss
      have HFr := Lib.hid (HF3.out.keeps0 hkr)
      clear hkr hmiss
      by_cases hlt : k < 5
      · go_wp2_with fail
        refine (search_any wr b (wd t.init) (wd t.goal) _ v (wordsOf t.ops) (HW.out.keeps0 HKR.out) (wops_ok OK.out) (by unfold wordsOf; rw [List.length_map]; exact OK.out.few) hs32 l HX.out k (by omega)).mono ?_
        rintro e w6 ⟨hk6, hr⟩
        have HF6 := Lib.hid (HFr.out.keeps0 hk6)
        have HK6 := Lib.hid (HKR.out.trans hk6)
        clear hk6
        rcases hr with ⟨m, hn, rfl⟩ | ⟨p, m, hn, v', rfl, _, _⟩
        · have HM2 := Lib.hid (show ∀ j, j < k + 1 → widthMiss t j by
            intro j hj
            by_cases e : j = k
            · subst e; exact ⟨m, hn⟩
            · exact HMS.out j (by omega))
          clear hn
          go_wp2_with fail
          go_roundw
          case rel => exact ⟨k + 1, by omega, by go_num, HK6.out, HM2.out⟩
          case measure => simp only [intOf]; omega
        · have HHIT := Lib.hid (show widthHit t k from ⟨p, m, hn⟩)
          clear hn
          obtain ⟨e0, e1, z0, z1, hF⟩ := HF6.out.cells
          go_wp2_with fail
          refine bodyPost_ret (results_tmp2_cell _ _ (w.heap.size + 1) 30 #[.int .i64 0, .int .i64 0] (0, 0) _ rfl rfl (HF6.out.set (.int .i64 0) (.int .i64 0)).1 Try.underlying30 rfl (by kernel_rfl)) rfl ?_
          exact ⟨(HF6.out.set _ _).2, (k : Int), true, 0, 0, rfl, .inr ⟨HC.out, rfl, rfl, OK.out, l, HX.out, .inl ⟨k, by omega, rfl, rfl, HHIT.out, HMS.out⟩⟩⟩
      · obtain ⟨e0, e1, z0, z1, hF⟩ := HFr.out.cells
        go_wp2_with fail
        refine bodyPost_ret (results_tmp2_cell _ _ (w.heap.size + 1) 30 #[.int .i64 0, .int .i64 0] (0, 0) _ rfl rfl (HFr.out.set (.int .i64 0) (.int .i64 0)).1 Try.underlying30 rfl (by kernel_rfl)) rfl ?_
        exact ⟨(HFr.out.set _ _).2, 0, false, 0, 0, rfl, .inr ⟨HC.out, rfl, rfl, OK.out, l, HX.out, .inr ⟨rfl, rfl, fun j hj => HMS.out j (by omega)⟩⟩⟩

end Go.Proofs.Ytdonadeodioplaa
