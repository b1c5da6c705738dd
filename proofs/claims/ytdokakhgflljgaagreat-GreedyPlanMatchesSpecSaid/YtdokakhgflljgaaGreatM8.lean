/- astar.Best: best-first search with a heuristic. CostOf: the cost of a plan. novelty.Plan. astar.Heuristic: a function value that remembers what it has said; astar.Value at the kind that says nothing. greedy.Weighted$1: a heuristic times a factor, as a heuristic. greedy.first in plain Lean: what a search in the order of the heuristic's values finds. D says the states that were seen, and how far each one's way back is. No condition beyond what each theorem says. -/
import Derived.Test.YtdokakhgflljgaaGreatM7
import Derived.Sort.LoopGhostIn
import Derived.Test.YtdokakhgflljgaaGreatM5
import Derived.Test.YtdokakhgflljgaaGreatM1
import Derived.Test.YtdokakhgflljgaaGreatM3
import Derived.Test.YtdokakhgflljgaaGreatM4
import Derived.Test.YtdokakhgflljgaaGreatM6
import Derived.BigQuiet

namespace Go.Proofs.YtdokakhgflljgaaGreat
open Go.RowKit Go.Shelf
attribute [local go_sem] Oper.semAt_some

set_option maxRecDepth 100000 in
theorem aprice_any (w : World) (c : Int) (hc : 0 ≤ c ∧ c ≤ 1000000) : Calls Tryz.prog 64 #[.int .i64 c] w fun e w' => e = .returned (.int .i64 (4096 * c + 1)) ∧ w = w' := by
 go_enter Tryz.func64, Tryz.ntmps64
 go_wp2_with fail
 go_ret
 exact ⟨by simp [Int.mul_comm], rfl⟩

set_option maxRecDepth 100000 in
set_option maxHeartbeats 4000000 in
theorem abestF_in (f : Int) (w00 w : World) (b st g0 base : Nat) (v : Value) (ops : List Wop) (L : List Nat) (H : Nat → Int) (gh : Nat) (pa cb : Array Value) (FH : Nat → Prop) (I : World → Prop)
  (hw : WordsAt w00 base b st g0 v ops) (k00 : Keeps (fun _ => False) w00 w) (hops : WopsOk ops) (hmany : ops.length ≤ 40) (hg0 : g0 < 4294967296) (hsh : Shut ops L) (hfew : L.length ≤ 2000) (hL32 : ∀ x ∈ L, x < 4294967296) (hcost : ∀ o ∈ ops, 0 ≤ o.cost ∧ o.cost ≤ 100) (hst : st ∈ L)
  (hh : Heur gh pa cb L H w00.heap.size w.heap.size FH I) (hI : I w) (hf : 1 ≤ f) (ad : AdmF f ops L (goalB g0) H) :
  CallsIn Fence.wide 9 Tryz.prog 45 #[.iface 60 (.pointer (some ⟨b, 0, none⟩)), .func (.func gh) pa cb] w (AstPostF f ops L st (goalB g0) H w FH I) := by
 have hmm := @run_makeMap Tryz.prog
 have mS := method_Start ⟨b, 0, none⟩
 have mT := method_Steps ⟨b, 0, none⟩
 have mG := method_Goal ⟨b, 0, none⟩
 have eg := hh.enters
 have HW := Lib.hid hw; have K00 := Lib.hid k00; have HSH := Lib.hid hsh; have HL32 := Lib.hid hL32; have HCO := Lib.hid hcost; have HST := Lib.hid hst; have HH := Lib.hid hh; have HI := Lib.hid hI; have AD := Lib.hid ad
 have hz00 := k00.size
 clear hw k00 hsh hL32 hcost hst hh hI ad
 refine callsIn_of_wp_marks Tryz.func45 rfl trivial ?_ rfl
 simp only [Tryz.ntmps45, List.size_toArray, List.length_cons, List.length_nil, Nat.reduceAdd, Nat.reduceSub, Array.replicate_succ, Array.replicate_zero, List.push_toArray, List.append_toArray, List.nil_append, List.cons_append]
 have kA := (Keeps.refl (fun _ => False) w).alloc (.cells #[.func (.func gh) pa cb] 67)
 have HI1 := Lib.hid (HH.out.steady HI.out kA (fun _ h => h.elim))
 have HX3 := Lib.hid (Boxed.new w 67 (.func (.func gh) pa cb))
 have KA := Lib.hid kA
 have h0 := (AD.out.lo st HST.out)
 clear kA
 gi_wp2
 refine ⟨trivial, ?_⟩
 refine (callsIn_wide.2 (start_any _ _ _ _ _ _ _ (HW.out.past (K00.out.trans KA.out)))).mono ?_; rintro e w1 ⟨rfl, rfl⟩
 have x3c : (w.alloc (.cells #[.func (.func gh) pa cb] 67)).cell? ⟨w.heap.size, 0, none⟩ = some (.func (.func gh) pa cb) := HX3.out.cell
 have x3l : w.heap.size < (w.alloc (.cells #[.func (.func gh) pa cb] 67)).heap.size := HX3.out.lt
 gi_wp2
 refine ⟨trivial, ?_⟩
 refine (callsIn_wide.2 (HH.out.answers _ st HI1.out HST.out)).mono ?_; rintro e w2 ⟨rfl, hI2, hk2⟩
 have no : ∀ k, w.heap.size ≤ k → ¬ FH k := fun k hk h => by have := (HH.out.lo k h).2; omega
 have X3 := Lib.hid (hk2.heap HX3.out (no _ (Nat.le_refl _)))
 have K2 := Lib.hid ((KA.out.mono (fun _ _ h => h.elim)).trans hk2)
 have HI2 := Lib.hid hI2
 have NO := Lib.hid no
 clear hI2 hk2 no x3c x3l HI1 HX3 KA
 by_cases hd : 1000000000 ≤ H st
 ·have HD := Lib.hid (ast_dead AD.out HST.out hd)
  gi_wp2
  refine leaves_marks (Marks.nil w2 w.heap.size) (fun W' hk => ?_)
  exact ⟨.tuple #[.slice none 0 0, .int .i64 0, .bool false], by simp [results, Tryz.results45, go_sem], K2.out.trans' hk (fun i hi => .inr hi.1), HH.out.steady HI2.out hk (fun i hi => hi.1), 0, Nat.zero_le _, .inl ⟨HD.out, rfl⟩⟩
 ·have m1 := FMap.made w2 intV
  obtain ⟨W4, hr4, hm4, hk4⟩ := m1.put (P := Tryz.prog) Tryz.underlying88 Tryz.underlying66 st 0
  have m2 := FMap.made (W4.alloc (.cells #[.map (some w2.heap.size)] 88)) backV
  rw [World.size_alloc] at m2
  obtain ⟨W5, hr5, hm5, hk5⟩ := m2.put (P := Tryz.prog) Tryz.underlying95 Tryz.underlying66 st ⟨0, 0, st⟩
  unfold intV at hr4
  replace hr5 : (Instr.mapUpdate 95 (.map (some (W4.heap.size + 1))) (.int .u32 (st : Int)) (.agg #[.int .u32 (st : Int), .int .i64 0])).run Tryz.prog ((W4.alloc (.cells #[.map (some w2.heap.size)] 88)).alloc (.map #[] 0)) = .ok () W5 := hr5
  have HP1 := Lib.hid (And.intro hm4 (And.intro hk4 (And.intro hm5 hk5)))
  clear m1 m2 hm4 hk4 hm5 hk5
  gi_wp2
  refine ⟨trivial, ?_⟩
  refine (callsIn_wide.2 (U.new_any _)).mono ?_; rintro e w7 ⟨rfl, hq7, hk7⟩
  obtain ⟨hm4, hk4, hm5, hk5⟩ := HP1.out
  have z4 := hk4.size
  rw [World.size_alloc] at z4
  have z5 := hk5.size
  rw [World.size_alloc, World.size_alloc] at z5
  have kB := (Keeps.refl (fun _ => False) W4).alloc (.cells #[.map (some w2.heap.size)] 88)
  have kC := (Keeps.refl (fun _ => False) (W4.alloc (.cells #[.map (some w2.heap.size)] 88))).alloc (.map #[] 0)
  have kD := (Keeps.refl (fun _ => False) W5).alloc (.cells #[.map (some (W4.heap.size + 1))] 95)
  have kD7 := kD.trans hk7
  have z7 := hk7.size
  rw [World.size_alloc] at z7
  rw [World.size_alloc] at hq7 ⊢
  have kE := (Keeps.refl (fun _ => False) w7).alloc (.cells #[.pointer (some ⟨W5.heap.size + 1 + 1, 0, none⟩)] 96)
  have k24 : Keeps (fun _ => False) w2 W4 := ((Keeps.refl (fun _ => False) w2).alloc (.map #[] 0)).trans' hk4 (fun i e => .inr (by omega))
  have k45 : Keeps (fun _ => False) W4 W5 := (kB.trans kC).trans' hk5 (fun i e => .inr (by omega))
  have k57 := kD7.trans kE
  have k27 := k24.trans (k45.trans k57)
  have hzw := K2.out.size
  have n8 : Boxed (W4.alloc (.cells #[.map (some w2.heap.size)] 88)) W4.heap.size 88 (.map (some w2.heap.size)) := Boxed.new W4 _ _
  have n8' := hk5.heap (kC.heap n8 (fun h => h)) (show ¬ W4.heap.size = W4.heap.size + 1 by omega)
  have HPR := Lib.hid (show PreM w FH I (.func (.func gh) pa cb) w.heap.size W4.heap.size W5.heap.size w7.heap.size w2.heap.size (W4.heap.size + 1) (W5.heap.size + 1 + 1) (startP [st]) (parF st (fun _ => none)) [] 0 (fun k => W5.heap.size + 1 ≤ k ∧ k < w7.heap.size) (w7.alloc (.cells #[.pointer (some ⟨W5.heap.size + 1 + 1, 0, none⟩)] 96)) from by
   have e1 : putP (fun _ => none) st (0 : Int) = startP [st] := by funext y; unfold putP startP; simp
   refine ⟨K2.out.trans (k27.mono (fun _ _ h => h.elim)), HH.out.steady HI2.out k27 (fun _ h => h.elim), ?_, ?_, (U.QRep.mono hq7 (fun k h1 h2 => ⟨h2, h1⟩)).keeps kE (fun _ _ h => h), k27.heap X3.out (fun h => h), k57.heap n8' (fun h => h), (hk7.trans kE).heap (Boxed.new W5 _ _) (fun h => h), Boxed.new w7 _ _, fun k hk => ?_, fun k hk => ?_, by omega, by omega, by omega, by omega, by omega, by omega, by omega⟩
   ·rw [← e1]; exact (hm4.keeps k45 (fun h => h)).keeps k57 (fun h => h)
   ·rw [← parF_start]; exact hm5.keeps k57 (fun h => h)
   ·exact ⟨by omega, by simp; omega, by omega, by omega⟩
   ·exact ⟨by omega, by omega, by omega, by omega⟩)
  clear hq7 hk7 hm4 hk4 hm5 hk5 z4 z5 kB kC kD kD7 kE k24 k45 k57 k27 n8 n8' HP1 K2 HI2 X3 hr4 hr5
  generalize w2.heap.size = mp at HPR hzw ⊢
  gi_wp2
  obtain ⟨F0, hF0⟩ : ∃ F0 : Nat → Prop, F0 = (fun k => W5.heap.size + 1 ≤ k ∧ k < w7.heap.size) := ⟨_, rfl⟩
  rw [← hF0] at HPR
  clear hF0
  generalize (w7.alloc (.cells #[.pointer (some ⟨W5.heap.size + 1 + 1, 0, none⟩)] 96)) = w8 at HPR ⊢
  generalize W5.heap.size + 1 + 1 = Q at HPR ⊢
  generalize W4.heap.size + 1 = mr at HPR ⊢
  generalize W4.heap.size = b8 at HPR ⊢
  generalize W5.heap.size = b9 at HPR ⊢
  generalize w7.heap.size = b10 at HPR ⊢
  have hmix : Tryz.prog.follows .mixedOrders = true := by kernel_rfl
  have HP9 := Lib.hid (HPR.out.keeps0 HH.out ((Keeps.refl (fun _ => False) w8).drew))
  have HS0 : Hid (w8.drew.cell? ⟨b10, 0, none⟩ = some (.pointer (some ⟨Q, 0, none⟩)) ∧ w8.drew.cell? ⟨w.heap.size, 0, none⟩ = some (.func (.func gh) pa cb)) := ⟨HP9.out.x10.cell, HP9.out.x3.cell⟩
  have h1m : H st < 1000000000 := by omega
  have hw0 : IntKind.i64.wrap (4096 * H st) = 4096 * H st := IntWalk.i64_in _ (by omega)
  clear HPR
  obtain ⟨s10, s3⟩ := HS0.out
  have l10 := HP9.out.x10.lt
  have l3 := HP9.out.x3.lt
  refine wpIn_wide.2 ?_
  go_region_held3 (fun W => W.cell? ⟨b10, 0, none⟩ = some (.pointer (some ⟨Q, 0, none⟩)) ∧ W.cell? ⟨w.heap.size, 0, none⟩ = some (.func (.func gh) pa cb)) (go_keep)
   (first
    | (refine (HH.out.answers _ st HP9.out.hI HST.out).mono ?_; rintro e w9 ⟨rfl, hI9, hk9⟩; have HP10 := Lib.hid (HP9.out.asked HH.out hk9 hI9); have s10b := HP10.out.x10.cell; have s3b := HP10.out.x3.cell; clear hI9 hk9)
    | (go_at_call 54; refine (U.set_both _ _ _ _ _ HP10.out.que (st : Int) (4096 * H st) (by omega) (by simp)).mono ?_; rintro e w11 ⟨rfl, F2, hq2, hF2, hk2⟩; have HP11 := Lib.hid (HP10.out.queued HH.out hk2 hq2 hF2); have s10c := HP11.out.x10.cell; have s3c := HP11.out.x3.cell; clear hq2 hF2 hk2))
  clear HS0 s10 s3 s10b s3b s10c s3c l10 l3 HP9 HP10
  gi_wp2
  have kM := (Keeps.refl (fun _ => False) w11).alloc (.map #[] 0)
  have HB0 := Lib.hid ((HP11.out.made HH.out).live)
  have hlift : putA [] (st : Int) (4096 * H st) = liftA H (startA [st]) := by
   have h1 : startA [st] = putA [] (st : Int) 0 := rfl
   rw [h1, liftA_put, Int.zero_add]; rfl
  rw [hlift] at HB0
  have HA0 := Lib.hid (AstI.start (f := f) (ops := ops) (H := H) HST.out (goalB g0))
  have hw1 := startW L [st] 1000000000
  generalize w11.heap.size = md at HB0 ⊢
  generalize (w11.alloc (.map #[] 0)) = w12 at HB0 ⊢
  clear kM hlift HP11 hw0 h1m
  refine wpIn_loop_ghost (fun n a' wr => ∃ (ds : List Deferred) (P : Nat → Option Int) (par : Nat → Option SArc) (dn : Nat → Option Unit) (A : List (Int × Int)) (t : Int) (F : Nat → Prop), BestM w FH I (.func (.func gh) pa cb) w.heap.size b8 b9 b10 mp mr md Q P (parF st par) dn (liftA H A) t F wr ∧ AstI f ops L st (goalB g0) H P par A 0 [] dn ∧ (∀ x u, dn x = some u → x ∈ L) ∧
    0 ≤ t ∧ t + (weightB L 1000000000 P : Int) ≤ 2000000002000 ∧ n = 2 * weightB L 1000000000 P + A.length ∧ (∀ k, F k → wr.heap[k]? ≠ some (.deferred (some []))) ∧ Marks ds wr w.heap.size ∧
    ∃ u : Nat → Value, a' = { tmps := #[.iface 60 (.pointer (some ⟨b, 0, none⟩)), .func (.func gh) pa cb, u 2, .pointer (some ⟨w.heap.size, 0, none⟩), .slice none 0 0, .int .i64 0, .bool false, .int .u32 (st : Int), .pointer (some ⟨b8, 0, none⟩), .pointer (some ⟨b9, 0, none⟩), .pointer (some ⟨b10, 0, none⟩), .map (some md), u 12, u 13, u 14, u 15, u 16, u 17, u 18, u 19, u 20, u 21, u 22, u 23, u 24, u 25, u 26, u 27, u 28, u 29, u 30, u 31, u 32, u 33, u 34, u 35, u 36, u 37, u 38, u 39, u 40, u 41, u 42, u 43, u 44, u 45, u 46, u 47, u 48, u 49, u 50, u 51, u 52, u 53, u 54, u 55, u 56, u 57, u 58, u 59, u 60, u 61, u 62, u 63, u 64, u 65, u 66, u 67, u 68, u 69, u 70, u 71, u 72, u 73, u 74, u 75, u 76, u 77, u 78, u 79, u 80, u 81, u 82, u 83, u 84, u 85, u 86, u 87, u 88, u 89, u 90, u 91, u 92, u 93, u 94, u 95, u 96, u 97, u 98, u 99, u 100, u 101, u 102, u 103, u 104, u 105, u 106, u 107, u 108, u 109, u 110, u 111, u 112, u 113, u 114, u 115, u 116, u 117], defers := ds }) (2 * weightB L 1000000000 (startP [st]) + (startA [st]).length) ?start2 ?round2
  case start2 => exact ⟨[], startP [st], fun _ => none, fun _ => none, startA [st], _, _, HB0.out, HA0.out, (by intro x u h; cases h), by omega, by omega, rfl, fun k hk => hk.2.2, Marks.nil _ _, ex_fnD rfl⟩
  case round2 =>
   rintro n a wr ⟨ds, P, par, dn, A, t, F, hm, ha, hdn, ht0, htw, hn, hnd, hmk, u, rfl⟩
   have HM := Lib.hid hm; have HA := Lib.hid ha; have HDN := Lib.hid hdn; have HND := Lib.hid hnd; have HMK := Lib.hid hmk
   clear hm ha hdn hnd hmk HB0 HA0 hw1
   have x10c := HM.out.x10.cell
   have x10l := HM.out.x10.lt
   gi_wp2
   refine ⟨trivial, ?_⟩
   refine (callsIn_wide.2 (U.qlen_any wr Q (liftA H A) t F HM.out.m.q)).mono ?_; rintro e w2 ⟨rfl, rfl⟩
   rw [liftA_len]
   obtain ⟨nd, hnl, hlen⟩ := HM.out.m.done.len HDN.out (P := Tryz.prog) Tryz.underlying118 3
   by_cases hA : A = []
   ·subst hA
    have HE := Lib.hid (ast_none HSH.out AD.out HA.out)
    gi_wp2
    refine leaves_marks HMK.out (fun W' hk => ?_)
    exact ⟨.tuple #[.slice none 0 0, .int .i64 (nd : Int), .bool false], by simp [results, Tryz.results45, go_sem], HM.out.keep.trans' hk (fun i hi => .inr hi.1), HH.out.steady HM.out.hI hk (fun i hi => hi.1), nd, hnl, .inl ⟨HE.out, rfl⟩⟩
   ·have hpos : 0 < A.length := List.length_pos_iff.2 hA
    have hposi : (0 : Int) < (A.length : Int) := by omega
    cases hfm : U.firstMin (liftA H A) with
    | none =>
     have := U.firstMin_none.1 hfm
     have := congrArg List.length this
     rw [liftA_len] at this
     simp at this; exact absurd this hA
    | some z =>
     obtain ⟨⟨s', p⟩, hzA, hz⟩ := List.mem_map.1 (U.firstMin_mem hfm)
     obtain ⟨s, hs', hps⟩ := HA.out.i.key _ hzA
     simp only at hs' hps
     subst hs'
     simp only [Int.toNat_natCast] at hz
     subst hz
     have hsL := HA.out.i.dom s p hps
     have HFM := Lib.hid hfm; have HPS := Lib.hid hps; have HSL := Lib.hid hsL; have HZA := Lib.hid hzA
     clear hA hfm hps hsL hzA
     gi_wp2
     refine ⟨trivial, ?_⟩
     refine (callsIn_wide.2 (U.take_some wr Q (liftA H A) t F HM.out.m.q (s : Int) (p + 4096 * H s) HFM.out)).mono ?_; rintro e w3 ⟨rfl, hq3, hk3⟩
     have hm3 := (HM.out.queued HH.out hk3 hq3 (fun k h => .inl h)).clean
     rw [← liftA_drop] at hm3
     have hkd3 := HMK.out.keeps (KeepsD.of hk3 (fun k hk => HND.out k hk))
     obtain ⟨F3, hF3⟩ : ∃ F3 : Nat → Prop, F3 = (fun k => (F k ∧ k < w3.heap.size) ∧ k < w3.heap.size ∧ Clean w3 k) := ⟨_, rfl⟩
     have hnd3 : ∀ k, F3 k → Clean w3 k := fun k hk => by rw [hF3] at hk; exact hk.2.2
     rw [← hF3] at hm3
     have kS := (Keeps.refl (fun _ => False) w3).alloc (.cells #[.int .u32 (s : Int)] 66)
     have HM4 := Lib.hid (hm3.keeps0 HH.out kS)
     have HMK4 := Lib.hid (hkd3.keeps (KeepsD.of0 kS))
     have HND4 := Lib.hid (show ∀ k, F3 k → Clean (w3.alloc (.cells #[.int .u32 (s : Int)] 66)) k from fun k hk => (hnd3 k hk).keeps kS (hm3.m.lF k hk).2.1 (fun h => h))
     have HBX := Lib.hid (heap_alloc_new w3 (.cells #[.int .u32 (s : Int)] 66))
     have hb12 : w.heap.size ≤ w3.heap.size := hm3.keep.size
     have HFX := Lib.hid (show ∀ k, F3 k → k < w3.heap.size from fun k hk => (hm3.m.lF k hk).2.1)
     have h3b := hm3.x3.lt; have h8b := hm3.x8.lt; have h9b := hm3.x9.lt; have h10b := hm3.x10.lt
     have hpb := hm3.m.price.lt; have hrb := hm3.m.par_.lt; have hdb := hm3.m.done.lt
     clear hq3 hk3 hm3 hkd3 hF3 hnd3 kS hlen HM HMK HND
     clear x10c x10l
     gi_wp2
     refine ⟨trivial, ?_⟩
     have k04 : Keeps (fun _ => False) w00 (w3.alloc (.cells #[.int .u32 (s : Int)] 66)) := K00.out.trans' HM4.out.keep (fun i hi => .inr (HH.out.lo i hi).1)
     refine (callsIn_wide.2 (goal_any _ _ _ _ _ _ _ _ (HW.out.past k04))).mono ?_; rintro e w5 ⟨rfl, nq, rfl⟩
     rw [goal_bits (HL32.out s HSL.out) hg0]
     have kq := (Keeps.refl (fun _ => False) (w3.alloc (.cells #[.int .u32 (s : Int)] 66))).drewN nq
     have HM5 := Lib.hid (HM4.out.keeps0 HH.out kq); have HMK5 := Lib.hid (HMK4.out.keeps (KeepsD.of0 kq)); have HBX5 := Lib.hid (kq.heap HBX.out (fun h => h))
     have HND5 := Lib.hid (show ∀ k, F3 k → Clean ((w3.alloc (.cells #[.int .u32 (s : Int)] 66)).drewN nq) k from HND4.out)
     have hz5 : w3.heap.size < ((w3.alloc (.cells #[.int .u32 (s : Int)] 66)).drewN nq).heap.size := by
      have := kq.size
      rw [World.size_alloc] at this; omega
     have K05 := Lib.hid (k04.trans kq)
     clear kq HM4 HMK4 HBX HND4 k04
     generalize (w3.alloc (.cells #[.int .u32 (s : Int)] 66)).drewN nq = w5 at HM5 HMK5 HBX5 HND5 hz5 K05 ⊢
     generalize w3.heap.size = b12 at HBX5 HFX hb12 h3b h8b h9b h10b hpb hrb hdb hz5 ⊢
     have x9c := HM5.out.x9.cell
     have x12c : w5.cell? ⟨b12, 0, none⟩ = some (.int .u32 (s : Int)) := by rw [cell_of_blk HBX5.out]; rfl
     have x9l := HM5.out.x9.lt
     obtain ⟨nd5, hnl5, hlen5⟩ := HM5.out.m.done.len HDN.out (P := Tryz.prog) Tryz.underlying118 3
     cases hacc : goalB g0 s with
     | true =>
      obtain ⟨p', out, hp', hch, hol, hrun, hwn, hle⟩ := ast_found HSH.out HCO.out hf AD.out HA.out HFM.out hacc
      have hps0 := (HA.out.i.start st (List.mem_singleton.2 rfl)).2
      have HRS := Lib.hid (And.intro hrun (fun r z h1 h2 => Int.le_trans hwn (hle r z h1 h2)))
      have HEX := Lib.hid (show f = 1 → ExpOk ops L st H (wayN 4096 1 ops out.reverse) (fun x => (dn x).isSome) from by
       intro e1
       subst e1
       have he : wayN 4096 1 ops out.reverse = p' := Int.le_antisymm hwn (by rw [← wayK_one]; exact hle _ _ hrun hacc)
       rw [he]
       exact exp_found HSH.out HCO.out AD.out HA.out HFM.out hacc hp' (by have h1 := (HA.out.i.lo s p' hp').2; have h2 := knownB_le L P; omega) hrun hacc he)
      have HCH := Lib.hid hch
      clear hch hrun hwn hle hp' hlen5
      gi_wp2
      refine ⟨trivial, ?_⟩
      refine (callsIn_wide.2 (pathC_any w5 mr st s par (parF st par) out HM5.out.m.par_ (parF_of hps0) hps0 HCH.out (by omega))).mono ?_; rintro e w8 ⟨v8, rfl, hown8, hk8⟩
      have HM8 := Lib.hid (HM5.out.keeps0 HH.out hk8)
      have hlen8 := HM8.out.m.done.lenN HSH.out.1 HDN.out (P := Tryz.prog) Tryz.underlying118 3
      obtain ⟨nd8, hnd8⟩ : ∃ nd8, (L.filter fun x => (dn x).isSome).length = nd8 := ⟨_, rfl⟩
      rw [hnd8] at hlen8
      have HN8 := Lib.hid hnd8
      have hnl8 : nd8 ≤ L.length := by rw [← hnd8]; exact List.length_filter_le _ _
      clear hnd8
      have HO8 := Lib.hid hown8
      have HMK8 := Lib.hid (HMK5.out.keeps (KeepsD.of0 hk8))
      clear hown8 hk8 x9c x12c
      gi_wp2
      refine leaves_marks HMK8.out (fun W' hk => ?_)
      exact ⟨.tuple #[v8, .int .i64 (nd8 : Int), .bool true], by simp [results, Tryz.results45, go_sem], HM8.out.keep.trans' hk (fun i hi => .inr hi.1), HH.out.steady HM8.out.hI hk (fun i hi => hi.1), nd8, hnl8, .inr ⟨out.reverse, s, v8, rfl, by
       rw [List.length_reverse]
       exact ownsRow_mono (hk.ownsRow HO8.out (fun k hk' hs => row_not_deferred HO8.out k hk' hs.2)) HM5.out.keep.size, by rw [List.length_reverse]; exact hol, HRS.out.1, hacc, HRS.out.2, fun e1 => ⟨fun x => (dn x).isSome, HN8.out.symm, HEX.out e1⟩⟩⟩
     | false =>
      obtain ⟨W6, hr6, hd6, hk6⟩ := HM5.out.m.done.put (P := Tryz.prog) Tryz.underlying118 Tryz.underlying66 s ()
      unfold unitV at hr6
      have HM6 := Lib.hid (HM5.out.doned HH.out hk6 hd6)
      have hmd := HM5.out.nd.2.2
      have HMK6 := Lib.hid (HMK5.out.keeps (KeepsD.of hk6 (fun k hk => by rw [hk]; exact hmd)))
      have hneb : b12 ≠ md := fun e => HM5.out.m.done.ne_cells HBX5.out e.symm
      have HBX6 := Lib.hid (hk6.heap HBX5.out (fun h => hneb h))
      have HND6 := Lib.hid (show ∀ k, F3 k → Clean W6 k from fun k hk => (HND5.out k hk).keeps hk6 (HM5.out.m.lF k hk).2.1 (HM5.out.m.lF k hk).2.2.2.2)
      have x12d : W6.cell? ⟨b12, 0, none⟩ = some (.int .u32 (s : Int)) := by rw [cell_of_blk HBX6.out]; rfl
      have hz6 := hk6.size
      have K06 := Lib.hid (K05.out.trans' hk6 (fun i hi => .inr (by have h1 := HM5.out.m.ld; have h2 := K00.out.size; rw [hi]; omega)))
      have HA6 := Lib.hid (HA.out.take HSH.out HCO.out hf AD.out HFM.out HPS.out hacc)
      clear hd6 hk6 hmd hneb HM5 HMK5 HBX5 HND5 K05 HA hlen5 HFM x9c x9l
      gi_wp2
      refine ⟨trivial, ?_⟩
      refine (callsIn_wide.2 (steps_any W6 b s)).mono ?_; rintro en w9 ⟨rfl, rfl⟩
      gi_wp2
      obtain ⟨W9, hW9⟩ : ∃ W9, ((W6.alloc (.cells #[.pointer (some ⟨b, 0, none⟩)] 60)).alloc (.cells #[.int .u32 (s : Int)] 66)) = W9 := ⟨_, rfl⟩
      have hz9 : W9.heap.size = W6.heap.size + 1 + 1 := by rw [← hW9]; simp
      have k9 : Keeps (fun _ => False) W6 W9 := by rw [← hW9]; exact ((Keeps.refl _ _).alloc _).alloc _
      have hBw : W9.cell? ⟨W6.heap.size, 0, none⟩ = some (.pointer (some ⟨b, 0, none⟩)) := by
       rw [← hW9]; exact ((Boxed.new W6 _ _).alloc _).cell
      have hBs : W9.heap[W6.heap.size + 1]? = some (.cells #[.int .u32 (s : Int)] 66 (0, 0)) := by
       rw [← hW9]
       have := heap_alloc_new (W6.alloc (.cells #[.pointer (some ⟨b, 0, none⟩)] 60)) (.cells #[.int .u32 (s : Int)] 66)
       rwa [World.size_alloc] at this
      have hBsc : W9.cell? ⟨W6.heap.size + 1, 0, none⟩ = some (.int .u32 (s : Int)) := by rw [cell_of_blk hBs]; rfl
      rw [hW9]
      have HM9 := Lib.hid (HM6.out.keeps0 HH.out k9); have HMK9 := Lib.hid (HMK6.out.keeps (KeepsD.of0 k9)); have HBX9 := Lib.hid (k9.heap HBX6.out (fun h => h))
      have K09 := K06.out.trans k9
      have HWW := Lib.hid (show ∃ w0 : World, WordsAt w0 base b st g0 v ops ∧ w0.heap.size ≤ w00.heap.size ∧ Below w00.heap.size w0 W9 from ⟨w00, HW.out, Nat.le_refl _, K09.below⟩)
      have hlow6 : w.heap.size ≤ W6.heap.size := HM6.out.keep.size
      have HWL := Lib.hid (show (wsteps ops s).length ≤ 40 from Nat.le_trans (wsteps_le ops s) hmany)
      have hs32 := HL32.out s HSL.out
      have HBS := Lib.hid hBs
      have HF9 := Lib.hid (show ∀ k, F3 k → (k < W9.heap.size ∨ ∃ cs T fr, W9.heap[k]? = some (.cells cs T fr)) ∧ k ≠ W6.heap.size + 1 ∧ k ≠ b12 ∧ Clean W9 k from fun k hk => by
       have h1 := HFX.out k hk
       exact ⟨.inl (by omega), by omega, by omega, (HND6.out k hk).keeps k9 (by omega) (fun h => h)⟩)
      have hT0 : t + (weightB L 1000000000 P : Int) ≤ t + (weightB L 1000000000 P : Int) := Int.le_refl _
      have hM0 : 2 * weightB L 1000000000 P + (A.filter fun z => z.1 != (s : Int)).length < 2 * weightB L 1000000000 P + A.length := by
       have := dropA_len HZA.out
       unfold dropA at this; omega
      have HTD := Lib.hid (ToDo.start H ops L s)
      have HDN2 := Lib.hid (show ∀ x u, putP dn s () x = some u → x ∈ L from fun x u hx => by
       unfold putP at hx
       split at hx
       ·rename_i e; rw [e]; exact HSL.out
       ·exact HDN.out x u hx)
      generalize putP dn s () = dnN at HM9 HDN2 HA6
      clear hW9 k9 K09 HM6 HMK6 HBX6 HND6 K06 hr6 x12d hBs HZA HFX
      generalize hT : t + (weightB L 1000000000 P : Int) = T0 at htw hT0
      generalize hM : 2 * weightB L 1000000000 P + A.length = M0 at hn hM0
      refine wpIn_rangeFunc_ownH (α := StpOf ops s) rfl (by omega) (gf := 88) (lb := #[.pointer (some ⟨W6.heap.size, 0, none⟩), .pointer (some ⟨W6.heap.size + 1, 0, none⟩)]) rfl trivial (enters_of Tryz.func88 (by kernel_rfl) rfl)
       (steps_stops Fence.wide 8 trivial rfl (by omega) W6.heap.size (W6.heap.size + 1) w00.heap.size base b st g0 s v ops hops (by omega) hs32 W9 (by omega) hBw hBsc (by omega) (by omega) HWW.out)
       KpS.trans (kpS_b (by omega) (by omega)) (Below.refl _ _) (fun _ => rfl)
       (fun pre W => AstBI f ops L st (goalB g0) H w FH I (.func (.func gh) pa cb) b8 b9 b10 mp mr md Q dnN s p T0 M0 ds (W6.heap.size + 1) b12 W9.heap.size (pre.map fun y => y.1) W)
       (fun _ _ _ => False) ?_ (fun _ _ _ _ _ hs _ _ => hs) ?_
       (fun (y : StpOf ops s) (a' : Act) (W : World) => ∃ Bx : Nat, w.heap.size ≤ Bx ∧ W.heap[Bx]? = some (Obj.cells #[.int .i64 (y.1.op : Int), .int .i64 y.1.cost, .int .u32 (y.1.to : Int)] 107 (0, 0)) ∧ ∃ u : Nat → Value, a' = { tmps := #[.iface 60 (.pointer (some ⟨b, 0, none⟩)), .func (.func gh) pa cb, u 2, .pointer (some ⟨w.heap.size, 0, none⟩), .slice none 0 0, .int .i64 0, .bool false, .int .u32 (st : Int), .pointer (some ⟨b8, 0, none⟩), .pointer (some ⟨b9, 0, none⟩), .pointer (some ⟨b10, 0, none⟩), .map (some md), .pointer (some ⟨b12, 0, none⟩), u 13, u 14, .pointer (some ⟨Bx, 0, none⟩), u 16, u 17, u 18, u 19, u 20, u 21, u 22, u 23, u 24, u 25, u 26, u 27, u 28, u 29, u 30, u 31, u 32, u 33, u 34, u 35, u 36, u 37, u 38, u 39, u 40, u 41, u 42, u 43, u 44, u 45, u 46, u 47, u 48, u 49, u 50, u 51, u 52, u 53, u 54, u 55, u 56, u 57, u 58, u 59, u 60, u 61, u 62, u 63, u 64, u 65, u 66, u 67, u 68, u 69, u 70, u 71, u 72, u 73, u 74, u 75, u 76, u 77, u 78, u 79, u 80, u 81, u 82, u 83, u 84, u 85, u 86, u 87, u 88, u 89, u 90, u 91, u 92, u 93, u 94, u 95, u 96, u 97, u 98, u 99, u 100, u 101, u 102, u 103, u 104, u 105, u 106, u 107, u 108, u 109, u 110, u 111, u 112, u 113, u 114, u 115, u 116, u 117], defers := [] }) ?_ ?_ ?_ ?_ ?_
      ·rintro l W W' row ⟨P, par, A, t, F, R, h1, h2, h3, h4, g1, g2, g3, h5, h6, h7, h8⟩ hg hr
       have hF : ∀ k, F k → k < W9.heap.size ∨ ∃ cs T fr, W.heap[k]? = some (.cells cs T fr) := fun k hk => (h8 k hk).1
       refine ⟨P, par, A, t, F, R, h1.steady HH.out hg hr (by omega) (by omega) (by omega) (by omega) hF, h2, h3, h4, g1, g2, g3, Marks.steady HMK9.out h5 hg hr, steady_heap hg (fun r e => (hr r e).2) h6, steady_heap hg (fun r e => (hr r e).2) h7, fun k hk => ⟨(hF k hk).imp (fun h => h) (fun ⟨cs, T, fr, hc⟩ => ⟨cs, T, fr, steady_heap hg (fun r e => (hr r e).2) hc⟩), (h8 k hk).2.1, (h8 k hk).2.2.1, (h8 k hk).2.2.2.keeps (steady_keeps hg) (h1.m.lF k hk).2.1 (fun e => ?_)⟩⟩
       obtain ⟨g4, o, ho, hno⟩ := hr k e
       rcases hF k hk with h | ⟨cs, T, fr, hc⟩
       ·omega
       ·rw [hc] at ho; cases ho; cases hno
      ·exact ⟨P, par, _, t, F3, _, HM9.out, HA6.out, HTD.out, HPS.out, ht0, by omega, by omega, HMK9.out, HBS.out, HBX9.out, HF9.out⟩
      ·intro y a' _ W W' row hs hg hr
       obtain ⟨Bx, h0, h1, h2⟩ := hs
       exact ⟨Bx, h0, steady_heap hg (fun r e => (hr r e).2) h1, h2⟩
      ·intro l pre y W K hi hK
       simp only [Stp.val]
       gi_wp2
       obtain ⟨P, par, A, t, F, R, h1, h2, h3, h4, g1, g2, g3, h5, h6, h7, h8⟩ := hi
       have kx := (Keeps.refl (fun _ => False) W).alloc (.cells #[.int .i64 (y.1.op : Int), .int .i64 y.1.cost, .int .u32 (y.1.to : Int)] 107)
       exact hK _ _ ((KeepsOthers.alloc _ _).from _) ((KpS.refl _ _ W).alloc (Nat.le_trans hz00 h1.keep.size) (lt_of_heap h6) _) ⟨P, par, A, t, F, R, h1.keeps0 HH.out kx, h2, h3, h4, g1, g2, g3, h5.keeps (KeepsD.of0 kx), kx.heap h6 (fun h => h), kx.heap h7 (fun h => h), fun k hk => ⟨(h8 k hk).1.imp (fun h => h) (fun ⟨cs, T, fr, hc⟩ => ⟨cs, T, fr, kx.heap hc (fun h => h)⟩), (h8 k hk).2.1, (h8 k hk).2.2.1, (h8 k hk).2.2.2.keeps kx (h1.m.lF k hk).2.1 (fun h => h)⟩⟩ ⟨W.heap.size, h1.keep.size, heap_alloc_new W _, ex_fnD rfl⟩
      ·rintro l pre y a' W hl - ⟨P1, par1, A1, t1, F1, R1, h1, h2, h3, h4, g1, g2, g3, h5, h6, h7, h8⟩ ⟨Bx, hBl, hBx, u', rfl⟩ hlt2
       obtain ⟨o, hoi, hoc, hcc, hto⟩ := wsteps_mem.1 y.2
       have hcst := HCO.out o (List.mem_of_getElem? hoi)
       rw [← hcc] at hcst
       have hyL : y.1.to ∈ L := by rw [hto]; exact HSH.out.2 s HSL.out o (List.mem_of_getElem? hoi) hoc
       have hHy := AD.out.lo y.1.to hyL
       have hp0 := h2.i.lo s p h4
       have hkn := knownB_le L P1
       have hpn : IntKind.i64.wrap (p + (4096 * y.1.cost + 1)) = p + (4096 * y.1.cost + 1) := IntWalk.i64_in _ (by omega)
       have hlowW : w.heap.size ≤ W.heap.size := h1.keep.size
       have HNF := Lib.hid (show ¬ F1 Bx from fun h => (h8 Bx h).2.2.2.2 _ _ hBx)
       have HYL := Lib.hid hyL; have HPP := Lib.hid h4
       clear hoi hoc hcc hto hyL
       have KD := (Keeps.refl (fun _ => False) W).drew
       have H1 := Lib.hid (h1.keeps0 HH.out KD); have H2 := Lib.hid h2; have H3 := Lib.hid h3; have H5 := Lib.hid h5; have H6 := Lib.hid h6; have H7 := Lib.hid h7; have H8 := Lib.hid h8
       have H0 := Lib.hid h1
       have HBX := Lib.hid (KD.heap hBx (fun h => h)); have HB12 := Lib.hid (KD.heap h7 (fun h => h))
       clear h1 h2 h3 h4 h5 h6 h7 h8 hBx KD
       have HS0 : Hid (W.drew.cell? ⟨b8, 0, none⟩ = some (.map (some mp)) ∧ W.drew.cell? ⟨b12, 0, none⟩ = some (.int .u32 (s : Int)) ∧ W.drew.cell? ⟨Bx, 1, none⟩ = some (.int .i64 y.1.cost) ∧ FMap W.drew mp intV P1) :=
        ⟨H1.out.x8.cell, (cell_of_blk HB12.out).trans rfl, (cell_of_blk HBX.out).trans rfl, H1.out.m.price⟩
       gi_wp2
       refine wpIn_region_held (fun W => W.cell? ⟨b8, 0, none⟩ = some (.map (some mp)) ∧ W.cell? ⟨b12, 0, none⟩ = some (.int .u32 (s : Int)) ∧ W.cell? ⟨Bx, 1, none⟩ = some (.int .i64 y.1.cost) ∧ FMap W mp intV P1) (fun _ => false) hmix ?_
       refine wpAnyHIn_take (Wide.wide.inRound l) 0 (.map (some mp)) rfl (by kernel_rfl) (by kernel_rfl) (by kernel_rfl) (by kernel_rfl) (by kernel_rfl) (fun _ _ _ h => h) HS0.out ?_ rfl ?_
       ·rintro W ⟨s1, s2, s3, s4⟩; go_simp
       refine wpAnyHIn_take (Wide.wide.inRound l) 1 (.int .u32 (s : Int)) rfl (by kernel_rfl) (by kernel_rfl) (by kernel_rfl) (by kernel_rfl) (by kernel_rfl) (fun _ _ _ h => h) HS0.out ?_ rfl ?_
       ·rintro W ⟨s1, s2, s3, s4⟩; go_simp
       refine wpAnyHIn_take (Wide.wide.inRound l) 2 (.int .i64 p) rfl (by kernel_rfl) (by kernel_rfl) (by kernel_rfl) (by kernel_rfl) (by kernel_rfl) (fun _ _ _ h => h) HS0.out ?_ rfl ?_
       ·rintro W ⟨s1, s2, s3, s4⟩; have sl := costLook s4 HPP.out; go_simp
       refine wpAnyHIn_take (Wide.wide.inRound l) 3 (.pointer (some ⟨Bx, 1, none⟩)) rfl (by kernel_rfl) (by kernel_rfl) (by kernel_rfl) (by kernel_rfl) (by kernel_rfl) (fun _ _ _ h => h) HS0.out ?_ rfl ?_
       ·rintro W ⟨s1, s2, s3, s4⟩; go_simp
       refine wpAnyHIn_take (Wide.wide.inRound l) 4 (.int .i64 y.1.cost) rfl (by kernel_rfl) (by kernel_rfl) (by kernel_rfl) (by kernel_rfl) (by kernel_rfl) (fun _ _ _ h => h) HS0.out ?_ rfl ?_
       ·rintro W ⟨s1, s2, s3, s4⟩; go_simp
       refine wpAnyHIn_one 5 rfl (by kernel_rfl) rfl (fun K hK => ?_)
       go_simp
       refine ⟨trivial, ?_⟩
       refine (CallsIn.inRound l (callsIn_wide.2 (aprice_any _ y.1.cost ⟨hcst.1, by omega⟩))).mono ?_; rintro en w7 ⟨rfl, rfl⟩
       refine hK _ _ (fun _ => HS0.out) ?_
       clear hK K
       refine wpAnyHIn_one 6 rfl (by kernel_rfl) rfl (fun K hK => ?_)
       go_simp
       refine hK _ _ (fun _ => HS0.out) ?_
       clear hK K
       refine wpAnyHIn_one 7 rfl (by kernel_rfl) rfl (fun K hK => ?_)
       go_simp
       refine hK _ _ (fun _ => HS0.out) ?_
       clear hK K
       refine wpAnyHIn_done (by kernel_rfl) ?_
       clear HS0
       have KD := Lib.hid ((Keeps.refl (fun _ => False) W).drew)
       generalize W.drew = Wd at H1 HBX HB12 KD ⊢
       have x8c := H1.out.x8.cell
       have x8l := H1.out.x8.lt
       have y2 : Wd.cell? ⟨Bx, 2, none⟩ = some (.int .u32 (y.1.to : Int)) := (cell_of_blk HBX.out).trans rfl
       have hBxl := lt_of_heap HBX.out
       obtain ⟨qv, qb, hlk, hqt, hqf⟩ := costLookT H1.out.m.price y.1.to
       have x3c := H1.out.x3.cell
       have x3l := H1.out.x3.lt
       cases qb with
       | true =>
        have hq := hqt rfl
        clear hqt hqf
        by_cases hle : qv ≤ p + (4096 * y.1.cost + 1)
        ·obtain ⟨R2, ha2, ht2⟩ := H2.out.next H3.out y.1
         have ha3 := ha2.skip HPP.out hq (show qv ≤ p + (arcOf y.1).price from hle)
         have HA3 := Lib.hid ha3; have HT2 := Lib.hid ht2
         clear ha2 ha3 ht2 hq
         gi_wp2
         refine ⟨(fun f h => by cases h), ?_⟩
         gi_wp2
         obtain ⟨c1, c2⟩ := close_of (B := W9.heap.size) (n0 := w00.heap.size) (Bs := W6.heap.size + 1) KD.out (fun _ h => h.elim) (by omega) (lt_of_heap H6.out)
         exact ⟨c1, c2, P1, par1, A1, t1, F1, R2, H1.out, HA3.out, by rw [List.map_append]; exact HT2.out, HPP.out, g1, g2, g3, H5.out.keeps (KeepsD.of0 KD.out), KD.out.heap H6.out (fun h => h), KD.out.heap H7.out (fun h => h), f8_keeps H8.out KD.out (fun _ _ h => h) (fun k hk => (H0.out.m.lF k hk).2.1)⟩
        ·have HLT := Lib.hid (show ∀ q, P1 y.1.to = some q → p + (4096 * y.1.cost + 1) < q from fun q h => by rw [hq] at h; cases h; omega)
         clear hq
         gi_wp2
         refine ⟨trivial, ?_⟩
         refine (CallsIn.inRound l (callsIn_wide.2 (HH.out.answers _ y.1.to H1.out.hI HYL.out))).mono ?_; rintro en wa ⟨rfl, hIa, hka⟩
         have no : ∀ k, w.heap.size ≤ k → ¬ FH k := fun k hk h => by have := (HH.out.lo k h).2; omega
         have HMa := Lib.hid (H1.out.asked HH.out hka hIa)
         have HBXa := Lib.hid (hka.heap HBX.out (no _ hBl)); have HB12a := Lib.hid (hka.heap HB12.out (no _ hb12))
         have HKA := Lib.hid ((KD.out.mono (S' := FH) (fun _ _ h => h.elim)).trans hka)
         have NO := Lib.hid no
         clear hIa hka no hlk x8c x8l y2 x3c x3l H1 HBX HB12 KD
         by_cases hdead : 1000000000 ≤ H y.1.to
         ·gi_wp2
          obtain ⟨c1, c2⟩ := close_of (B := W9.heap.size) (n0 := w00.heap.size) (Bs := W6.heap.size + 1) HKA.out (fun k h => by
           have := HH.out.lo k h
           exact ⟨this.1, .inl (by omega), by omega⟩) (by omega) (lt_of_heap H6.out)
          have hT := H3.out.dead (y := y.1) (fun h : H y.1.to < 1000000000 => by omega)
          exact ⟨c1, c2, P1, par1, A1, t1, F1, R1, HMa.out, H2.out, by rw [List.map_append]; exact hT, HPP.out, g1, g2, g3, H5.out.keeps (KeepsD.of HKA.out (fun k h => HH.out.nd H0.out.hI h)), HKA.out.heap H6.out (NO.out _ (by omega)), HKA.out.heap H7.out (NO.out _ hb12), f8_keeps H8.out HKA.out (fun k hk => NO.out k (H0.out.m.lF k hk).1) (fun k hk => (H0.out.m.lF k hk).2.1)⟩
         ·have hlive : H y.1.to < 1000000000 := by omega
          obtain ⟨wb, hrb, hmb, hkb⟩ := HMa.out.m.price.put (P := Tryz.prog) Tryz.underlying88 Tryz.underlying66 y.1.to (p + (4096 * y.1.cost + 1))
          unfold intV at hrb
          have HMb := Lib.hid (HMa.out.priced HH.out hkb hmb)
          obtain ⟨wc, hrc, hmc, hkc⟩ := HMb.out.m.par_.put (P := Tryz.prog) Tryz.underlying95 Tryz.underlying66 y.1.to ⟨y.1.op, 4096 * y.1.cost + 1, s⟩
          replace hrc : (Instr.mapUpdate 95 (.map (some mr)) (.int .u32 (y.1.to : Int)) (.agg #[.int .u32 (s : Int), .int .i64 (y.1.op : Int)])).run Tryz.prog wb = .ok () wc := hrc
          have hne : y.1.to ≠ st := fun e => by
           have := HLT.out 0 (by rw [e]; exact (H2.out.i.start st (List.mem_singleton.2 rfl)).1)
           omega
          rw [parF_put hne] at hmc
          have HMc := Lib.hid (HMb.out.pard HH.out hkc hmc)
          have n1 : Bx ≠ mp := fun e => HMa.out.m.price.ne_cells HBXa.out e.symm
          have n2 : b12 ≠ mp := fun e => HMa.out.m.price.ne_cells HB12a.out e.symm
          have HBXb := Lib.hid (hkb.heap HBXa.out n1); have HB12b := Lib.hid (hkb.heap HB12a.out n2)
          have n3 : Bx ≠ mr := fun e => HMb.out.m.par_.ne_cells HBXb.out e.symm
          have HBXc := Lib.hid (hkc.heap HBXb.out n3)
          have x8a := HMa.out.x8.cell
          have y2a : wa.cell? ⟨Bx, 2, none⟩ = some (.int .u32 (y.1.to : Int)) := (cell_of_blk HBXa.out).trans rfl
          have x9b := HMb.out.x9.cell
          have y2b : wb.cell? ⟨Bx, 2, none⟩ = some (.int .u32 (y.1.to : Int)) := (cell_of_blk HBXb.out).trans rfl
          have y0b : wb.cell? ⟨Bx, 0, none⟩ = some (.int .i64 (y.1.op : Int)) := (cell_of_blk HBXb.out).trans rfl
          have x12b : wb.cell? ⟨b12, 0, none⟩ = some (.int .u32 (s : Int)) := (cell_of_blk HB12b.out).trans rfl
          have hBxa := lt_of_heap HBXa.out; have hBxb := lt_of_heap HBXb.out; have hBxc := lt_of_heap HBXc.out
          have x8al := HMa.out.x8.lt; have x9bl := HMb.out.x9.lt
          have HKC := Lib.hid (show Keeps (fun k => FH k ∨ k = mp ∨ k = mr) W wc from ((HKA.out.mono (fun _ _ h => .inl h)).trans (hkb.mono (fun _ _ h => .inr (.inl h)))).trans (hkc.mono (fun _ _ h => .inr (.inr h))))
          have HMDD := Lib.hid (And.intro HMa.out.nd.1 HMb.out.nd.2.1)
          have hw1 : IntKind.i64.wrap (4096 * H y.1.to) = 4096 * H y.1.to := IntWalk.i64_in _ (by omega)
          have hw2 : IntKind.i64.wrap (p + (4096 * y.1.cost + 1) + 4096 * H y.1.to) = p + (4096 * y.1.cost + 1) + 4096 * H y.1.to := IntWalk.i64_in _ (by omega)
          clear hmb hkb hmc hkc n1 n2 n3
          gi_wp2
          have KD := (Keeps.refl (fun _ => False) wc).drew
          have HMd := Lib.hid (HMc.out.keeps0 HH.out KD)
          have HBXd := Lib.hid (KD.heap HBXc.out (fun h => h))
          have HKD := Lib.hid (HKC.out.trans (KD.mono (fun _ _ h => h.elim)))
          have HS1 : Hid (wc.drew.cell? ⟨b10, 0, none⟩ = some (.pointer (some ⟨Q, 0, none⟩)) ∧ wc.drew.cell? ⟨Bx, 2, none⟩ = some (.int .u32 (y.1.to : Int)) ∧ wc.drew.cell? ⟨w.heap.size, 0, none⟩ = some (.func (.func gh) pa cb)) :=
           ⟨HMd.out.x10.cell, (cell_of_blk HBXd.out).trans rfl, HMd.out.x3.cell⟩
          clear KD x8a y2a x9b y2b y0b x12b
          refine wpIn_region_held (fun W => W.cell? ⟨b10, 0, none⟩ = some (.pointer (some ⟨Q, 0, none⟩)) ∧ W.cell? ⟨Bx, 2, none⟩ = some (.int .u32 (y.1.to : Int)) ∧ W.cell? ⟨w.heap.size, 0, none⟩ = some (.func (.func gh) pa cb)) (fun _ => false) hmix ?_
          refine wpAnyHIn_take (Wide.wide.inRound l) 0 (.pointer (some ⟨Q, 0, none⟩)) rfl (by kernel_rfl) (by kernel_rfl) (by kernel_rfl) (by kernel_rfl) (by kernel_rfl) (fun _ _ _ h => h) HS1.out ?_ rfl ?_
          ·rintro W ⟨s1, s2, s3⟩; go_simp
          refine wpAnyHIn_take (Wide.wide.inRound l) 1 (.pointer (some ⟨Bx, 2, none⟩)) rfl (by kernel_rfl) (by kernel_rfl) (by kernel_rfl) (by kernel_rfl) (by kernel_rfl) (fun _ _ _ h => h) HS1.out ?_ rfl ?_
          ·rintro W ⟨s1, s2, s3⟩; go_simp
          refine wpAnyHIn_take (Wide.wide.inRound l) 2 (.int .u32 (y.1.to : Int)) rfl (by kernel_rfl) (by kernel_rfl) (by kernel_rfl) (by kernel_rfl) (by kernel_rfl) (fun _ _ _ h => h) HS1.out ?_ rfl ?_
          ·rintro W ⟨s1, s2, s3⟩; go_simp
          refine wpAnyHIn_take (Wide.wide.inRound l) 3 (.int .i64 (p + (4096 * y.1.cost + 1))) rfl (by kernel_rfl) (by kernel_rfl) (by kernel_rfl) (by kernel_rfl) (by kernel_rfl) (fun _ _ _ h => h) HS1.out ?_ rfl ?_
          ·rintro W ⟨s1, s2, s3⟩; go_simp
          refine wpAnyHIn_take (Wide.wide.inRound l) 4 (.func (.func gh) pa cb) rfl (by kernel_rfl) (by kernel_rfl) (by kernel_rfl) (by kernel_rfl) (by kernel_rfl) (fun _ _ _ h => h) HS1.out ?_ rfl ?_
          ·rintro W ⟨s1, s2, s3⟩; go_simp
          refine wpAnyHIn_take (Wide.wide.inRound l) 5 (.pointer (some ⟨Bx, 2, none⟩)) rfl (by kernel_rfl) (by kernel_rfl) (by kernel_rfl) (by kernel_rfl) (by kernel_rfl) (fun _ _ _ h => h) HS1.out ?_ rfl ?_
          ·rintro W ⟨s1, s2, s3⟩; go_simp
          refine wpAnyHIn_take (Wide.wide.inRound l) 6 (.int .u32 (y.1.to : Int)) rfl (by kernel_rfl) (by kernel_rfl) (by kernel_rfl) (by kernel_rfl) (by kernel_rfl) (fun _ _ _ h => h) HS1.out ?_ rfl ?_
          ·rintro W ⟨s1, s2, s3⟩; go_simp
          refine wpAnyHIn_one 7 rfl (by kernel_rfl) rfl (fun K hK => ?_)
          go_simp
          refine ⟨trivial, ?_⟩
          refine (CallsIn.inRound l (callsIn_wide.2 (HH.out.answers _ y.1.to HMd.out.hI HYL.out))).mono ?_; rintro en we ⟨rfl, hIe, hke⟩
          have HMe := Lib.hid (HMd.out.asked HH.out hke hIe)
          have HKE := Lib.hid (HKD.out.trans (hke.mono (fun _ _ h => .inl h)))
          have HBXe := Lib.hid (hke.heap HBXd.out (NO.out _ hBl))
          have HS2 : Hid (we.cell? ⟨b10, 0, none⟩ = some (.pointer (some ⟨Q, 0, none⟩)) ∧ we.cell? ⟨Bx, 2, none⟩ = some (.int .u32 (y.1.to : Int)) ∧ we.cell? ⟨w.heap.size, 0, none⟩ = some (.func (.func gh) pa cb)) :=
           ⟨HMe.out.x10.cell, (cell_of_blk HBXe.out).trans rfl, HMe.out.x3.cell⟩
          clear hIe hke HS1 HMd
          refine hK _ _ (fun _ => HS2.out) ?_
          clear hK K
          refine wpAnyHIn_one 8 rfl (by kernel_rfl) rfl (fun K hK => ?_)
          go_simp
          refine hK _ _ (fun _ => HS2.out) ?_
          clear hK K
          refine wpAnyHIn_one 9 rfl (by kernel_rfl) rfl (fun K hK => ?_)
          go_simp
          refine hK _ _ (fun _ => HS2.out) ?_
          clear hK K
          refine wpAnyHIn_one 10 rfl (by kernel_rfl) rfl (fun K hK => ?_)
          go_simp
          refine ⟨trivial, ?_⟩
          have hAl : (liftA H A1).length ≤ 999999 := by
           obtain ⟨_, _, _, _, _, hqr⟩ := HMe.out.m.q
           have h1 := hqr.ndA
           have h2 : (liftA H A1).map Prod.fst = A1.map Prod.fst := by unfold liftA; rw [List.map_map]; rfl
           rw [h2] at h1
           have := H2.out.i.few h1
           rw [liftA_len]; omega
          refine (CallsIn.inRound l (callsIn_wide.2 (U.set_both2 _ _ _ _ _ HMe.out.m.q (y.1.to : Int) (p + (4096 * y.1.cost + 1) + 4096 * H y.1.to) ⟨g1, by omega⟩ hAl))).mono ?_; rintro en wf ⟨rfl, F2, hq2, hF2, hk2⟩
          have x10f := HMe.out.queued HH.out hk2 hq2 (fun k h => (hF2 k h).imp (fun h => h.1) (fun h => h.1))
          refine hK _ _ (fun _ => ⟨x10f.x10.cell, (cell_of_blk (hk2.heap HBXe.out HNF.out)).trans rfl, x10f.x3.cell⟩) ?_
          clear hK K x10f
          refine wpAnyHIn_done (by kernel_rfl) ?_
          gi_wp2
          rw [← liftA_put] at hq2
          have HMf := Lib.hid ((HMe.out.queued HH.out hk2 hq2 (fun k h => (hF2 k h).imp (fun h => h.1) (fun h => h.1))).clean)
          have KT : Keeps (fun k => (FH k ∨ k = mp ∨ k = mr) ∨ F1 k) W wf := (HKE.out.mono (fun _ _ h => .inl h)).trans (hk2.mono (fun _ _ h => .inr h))
          have hzwe := HKE.out.size
          have hBsl := lt_of_heap H6.out
          have hb12l := lt_of_heap H7.out
          have hlp := H0.out.m.lp
          have hlr := H0.out.m.lr
          obtain ⟨c1, c2⟩ := close_of (B := W9.heap.size) (n0 := w00.heap.size) (Bs := W6.heap.size + 1) KT (fun k h => by
           rcases h with (h | h | h) | h
           ·have := HH.out.lo k h
            exact ⟨this.1, .inl (by omega), by omega⟩
           ·exact ⟨by omega, .inl (by omega), by omega⟩
           ·exact ⟨by omega, .inl (by omega), by omega⟩
           ·exact ⟨by have := (H0.out.m.lF k h).1; omega, (H8.out k h).1, (H8.out k h).2.1⟩) (by omega) hBsl
          obtain ⟨R2, ha2, ht2⟩ := H2.out.next H3.out y.1
          have hfall := ha2.fall HSH.out.1 HSH.out HCO.out (live_step HSL.out y.2 hlive) HPP.out HLT.out
          have hsy : s ≠ y.1.to := fun e => by
           have := HLT.out p (by rw [← e]; exact HPP.out)
           omega
          have hwt := weightB_put (L := L) (m := 1000000000) (P := P1) (x := y.1.to) (v := p + (4096 * y.1.cost + 1)) (by omega) HYL.out (fun q hq => by have := HLT.out q hq; omega)
          have hpl := putA_len A1 (y.1.to : Int) (p + (4096 * y.1.cost + 1))
          have nS : ∀ k, w.heap.size ≤ k → k ≠ mp → k ≠ mr → ¬ F1 k → ¬ ((FH k ∨ k = mp ∨ k = mr) ∨ F1 k) := fun k h1 h2 h3 h4 h => by
           rcases h with (h | h | h) | h
           ·exact NO.out k h1 h
           ·exact h2 h
           ·exact h3 h
           ·exact h4 h
          exact ⟨c1, c2, _, _, _, _, _, R2, HMf.out, hfall, by rw [List.map_append]; exact ht2, (show putP P1 y.1.to (p + (4096 * y.1.cost + 1)) s = some p from by rw [putP_other _ _ hsy]; exact HPP.out), by omega,
           (show t1 + 1 + (weightB L 1000000000 (putP P1 y.1.to (p + (4096 * y.1.cost + 1))) : Int) ≤ T0 by omega), (show 2 * weightB L 1000000000 (putP P1 y.1.to (p + (4096 * y.1.cost + 1))) + (putA A1 (y.1.to : Int) (p + (4096 * y.1.cost + 1))).length < M0 by omega),
           H5.out.keeps (KeepsD.of KT (fun k h => by
            rcases h with (h | h | h) | h
            ·exact HH.out.nd H0.out.hI h
            ·rw [h]; exact H0.out.nd.1
            ·rw [h]; exact H0.out.nd.2.1
            ·exact (H8.out k h).2.2.2.1)),
           KT.heap H6.out (nS _ (by omega) (by omega) (by omega) (fun h => (H8.out _ h).2.1 rfl)), KT.heap H7.out (nS _ hb12 (by omega) (by omega) (fun h => (H8.out _ h).2.2.1 rfl)),
           fun k hk => by
            rcases hF2 k hk.1.1 with ⟨h1, h2⟩ | ⟨h1, h2⟩
            ·refine ⟨(H8.out k h1).1.imp (fun h => h) (fun ⟨cs, T, fr, hc⟩ => ?_), (H8.out k h1).2.1, (H8.out k h1).2.2.1, hk.2.2⟩
             rcases h2 with h2 | ⟨es, c, h2⟩
             ·exact h2
             ·have h3 := HKE.out.heap hc (fun h => by
               have hl := H0.out.m.lF k h1
               rcases h with h | h | h
               ·exact NO.out k hl.1 h
               ·exact hl.2.2.1 h
               ·exact hl.2.2.2.1 h)
              rw [h3] at h2; cases h2
            ·exact ⟨.inr h2, by omega, by omega, hk.2.2⟩⟩
       | false =>
        have HLT := Lib.hid (show ∀ q, P1 y.1.to = some q → p + (4096 * y.1.cost + 1) < q from fun q h => by rw [hqf rfl] at h; cases h)
        clear hqt hqf
        gi_wp2
        refine ⟨trivial, ?_⟩
        refine (CallsIn.inRound l (callsIn_wide.2 (HH.out.answers _ y.1.to H1.out.hI HYL.out))).mono ?_; rintro en wa ⟨rfl, hIa, hka⟩
        have no : ∀ k, w.heap.size ≤ k → ¬ FH k := fun k hk h => by have := (HH.out.lo k h).2; omega
        have HMa := Lib.hid (H1.out.asked HH.out hka hIa)
        have HBXa := Lib.hid (hka.heap HBX.out (no _ hBl)); have HB12a := Lib.hid (hka.heap HB12.out (no _ hb12))
        have HKA := Lib.hid ((KD.out.mono (S' := FH) (fun _ _ h => h.elim)).trans hka)
        have NO := Lib.hid no
        clear hIa hka no hlk x8c x8l y2 x3c x3l H1 HBX HB12 KD
        by_cases hdead : 1000000000 ≤ H y.1.to
        ·gi_wp2
         obtain ⟨c1, c2⟩ := close_of (B := W9.heap.size) (n0 := w00.heap.size) (Bs := W6.heap.size + 1) HKA.out (fun k h => by
          have := HH.out.lo k h
          exact ⟨this.1, .inl (by omega), by omega⟩) (by omega) (lt_of_heap H6.out)
         have hT := H3.out.dead (y := y.1) (fun h : H y.1.to < 1000000000 => by omega)
         exact ⟨c1, c2, P1, par1, A1, t1, F1, R1, HMa.out, H2.out, by rw [List.map_append]; exact hT, HPP.out, g1, g2, g3, H5.out.keeps (KeepsD.of HKA.out (fun k h => HH.out.nd H0.out.hI h)), HKA.out.heap H6.out (NO.out _ (by omega)), HKA.out.heap H7.out (NO.out _ hb12), f8_keeps H8.out HKA.out (fun k hk => NO.out k (H0.out.m.lF k hk).1) (fun k hk => (H0.out.m.lF k hk).2.1)⟩
        ·have hlive : H y.1.to < 1000000000 := by omega
         obtain ⟨wb, hrb, hmb, hkb⟩ := HMa.out.m.price.put (P := Tryz.prog) Tryz.underlying88 Tryz.underlying66 y.1.to (p + (4096 * y.1.cost + 1))
         unfold intV at hrb
         have HMb := Lib.hid (HMa.out.priced HH.out hkb hmb)
         obtain ⟨wc, hrc, hmc, hkc⟩ := HMb.out.m.par_.put (P := Tryz.prog) Tryz.underlying95 Tryz.underlying66 y.1.to ⟨y.1.op, 4096 * y.1.cost + 1, s⟩
         replace hrc : (Instr.mapUpdate 95 (.map (some mr)) (.int .u32 (y.1.to : Int)) (.agg #[.int .u32 (s : Int), .int .i64 (y.1.op : Int)])).run Tryz.prog wb = .ok () wc := hrc
         have hne : y.1.to ≠ st := fun e => by
          have := HLT.out 0 (by rw [e]; exact (H2.out.i.start st (List.mem_singleton.2 rfl)).1)
          omega
         rw [parF_put hne] at hmc
         have HMc := Lib.hid (HMb.out.pard HH.out hkc hmc)
         have n1 : Bx ≠ mp := fun e => HMa.out.m.price.ne_cells HBXa.out e.symm
         have n2 : b12 ≠ mp := fun e => HMa.out.m.price.ne_cells HB12a.out e.symm
         have HBXb := Lib.hid (hkb.heap HBXa.out n1); have HB12b := Lib.hid (hkb.heap HB12a.out n2)
         have n3 : Bx ≠ mr := fun e => HMb.out.m.par_.ne_cells HBXb.out e.symm
         have HBXc := Lib.hid (hkc.heap HBXb.out n3)
         have x8a := HMa.out.x8.cell
         have y2a : wa.cell? ⟨Bx, 2, none⟩ = some (.int .u32 (y.1.to : Int)) := (cell_of_blk HBXa.out).trans rfl
         have x9b := HMb.out.x9.cell
         have y2b : wb.cell? ⟨Bx, 2, none⟩ = some (.int .u32 (y.1.to : Int)) := (cell_of_blk HBXb.out).trans rfl
         have y0b : wb.cell? ⟨Bx, 0, none⟩ = some (.int .i64 (y.1.op : Int)) := (cell_of_blk HBXb.out).trans rfl
         have x12b : wb.cell? ⟨b12, 0, none⟩ = some (.int .u32 (s : Int)) := (cell_of_blk HB12b.out).trans rfl
         have hBxa := lt_of_heap HBXa.out; have hBxb := lt_of_heap HBXb.out; have hBxc := lt_of_heap HBXc.out
         have x8al := HMa.out.x8.lt; have x9bl := HMb.out.x9.lt
         have HKC := Lib.hid (show Keeps (fun k => FH k ∨ k = mp ∨ k = mr) W wc from ((HKA.out.mono (fun _ _ h => .inl h)).trans (hkb.mono (fun _ _ h => .inr (.inl h)))).trans (hkc.mono (fun _ _ h => .inr (.inr h))))
         have HMDD := Lib.hid (And.intro HMa.out.nd.1 HMb.out.nd.2.1)
         have hw1 : IntKind.i64.wrap (4096 * H y.1.to) = 4096 * H y.1.to := IntWalk.i64_in _ (by omega)
         have hw2 : IntKind.i64.wrap (p + (4096 * y.1.cost + 1) + 4096 * H y.1.to) = p + (4096 * y.1.cost + 1) + 4096 * H y.1.to := IntWalk.i64_in _ (by omega)
         clear hmb hkb hmc hkc n1 n2 n3
         gi_wp2
         have KD := (Keeps.refl (fun _ => False) wc).drew
         have HMd := Lib.hid (HMc.out.keeps0 HH.out KD)
         have HBXd := Lib.hid (KD.heap HBXc.out (fun h => h))
         have HKD := Lib.hid (HKC.out.trans (KD.mono (fun _ _ h => h.elim)))
         have HS1 : Hid (wc.drew.cell? ⟨b10, 0, none⟩ = some (.pointer (some ⟨Q, 0, none⟩)) ∧ wc.drew.cell? ⟨Bx, 2, none⟩ = some (.int .u32 (y.1.to : Int)) ∧ wc.drew.cell? ⟨w.heap.size, 0, none⟩ = some (.func (.func gh) pa cb)) :=
          ⟨HMd.out.x10.cell, (cell_of_blk HBXd.out).trans rfl, HMd.out.x3.cell⟩
         clear KD x8a y2a x9b y2b y0b x12b
         refine wpIn_region_held (fun W => W.cell? ⟨b10, 0, none⟩ = some (.pointer (some ⟨Q, 0, none⟩)) ∧ W.cell? ⟨Bx, 2, none⟩ = some (.int .u32 (y.1.to : Int)) ∧ W.cell? ⟨w.heap.size, 0, none⟩ = some (.func (.func gh) pa cb)) (fun _ => false) hmix ?_
         refine wpAnyHIn_take (Wide.wide.inRound l) 0 (.pointer (some ⟨Q, 0, none⟩)) rfl (by kernel_rfl) (by kernel_rfl) (by kernel_rfl) (by kernel_rfl) (by kernel_rfl) (fun _ _ _ h => h) HS1.out ?_ rfl ?_
         ·rintro W ⟨s1, s2, s3⟩; go_simp
         refine wpAnyHIn_take (Wide.wide.inRound l) 1 (.pointer (some ⟨Bx, 2, none⟩)) rfl (by kernel_rfl) (by kernel_rfl) (by kernel_rfl) (by kernel_rfl) (by kernel_rfl) (fun _ _ _ h => h) HS1.out ?_ rfl ?_
         ·rintro W ⟨s1, s2, s3⟩; go_simp
         refine wpAnyHIn_take (Wide.wide.inRound l) 2 (.int .u32 (y.1.to : Int)) rfl (by kernel_rfl) (by kernel_rfl) (by kernel_rfl) (by kernel_rfl) (by kernel_rfl) (fun _ _ _ h => h) HS1.out ?_ rfl ?_
         ·rintro W ⟨s1, s2, s3⟩; go_simp
         refine wpAnyHIn_take (Wide.wide.inRound l) 3 (.int .i64 (p + (4096 * y.1.cost + 1))) rfl (by kernel_rfl) (by kernel_rfl) (by kernel_rfl) (by kernel_rfl) (by kernel_rfl) (fun _ _ _ h => h) HS1.out ?_ rfl ?_
         ·rintro W ⟨s1, s2, s3⟩; go_simp
         refine wpAnyHIn_take (Wide.wide.inRound l) 4 (.func (.func gh) pa cb) rfl (by kernel_rfl) (by kernel_rfl) (by kernel_rfl) (by kernel_rfl) (by kernel_rfl) (fun _ _ _ h => h) HS1.out ?_ rfl ?_
         ·rintro W ⟨s1, s2, s3⟩; go_simp
         refine wpAnyHIn_take (Wide.wide.inRound l) 5 (.pointer (some ⟨Bx, 2, none⟩)) rfl (by kernel_rfl) (by kernel_rfl) (by kernel_rfl) (by kernel_rfl) (by kernel_rfl) (fun _ _ _ h => h) HS1.out ?_ rfl ?_
         ·rintro W ⟨s1, s2, s3⟩; go_simp
         refine wpAnyHIn_take (Wide.wide.inRound l) 6 (.int .u32 (y.1.to : Int)) rfl (by kernel_rfl) (by kernel_rfl) (by kernel_rfl) (by kernel_rfl) (by kernel_rfl) (fun _ _ _ h => h) HS1.out ?_ rfl ?_
         ·rintro W ⟨s1, s2, s3⟩; go_simp
         refine wpAnyHIn_one 7 rfl (by kernel_rfl) rfl (fun K hK => ?_)
         go_simp
         refine ⟨trivial, ?_⟩
         refine (CallsIn.inRound l (callsIn_wide.2 (HH.out.answers _ y.1.to HMd.out.hI HYL.out))).mono ?_; rintro en we ⟨rfl, hIe, hke⟩
         have HMe := Lib.hid (HMd.out.asked HH.out hke hIe)
         have HKE := Lib.hid (HKD.out.trans (hke.mono (fun _ _ h => .inl h)))
         have HBXe := Lib.hid (hke.heap HBXd.out (NO.out _ hBl))
         have HS2 : Hid (we.cell? ⟨b10, 0, none⟩ = some (.pointer (some ⟨Q, 0, none⟩)) ∧ we.cell? ⟨Bx, 2, none⟩ = some (.int .u32 (y.1.to : Int)) ∧ we.cell? ⟨w.heap.size, 0, none⟩ = some (.func (.func gh) pa cb)) :=
          ⟨HMe.out.x10.cell, (cell_of_blk HBXe.out).trans rfl, HMe.out.x3.cell⟩
         clear hIe hke HS1 HMd
         refine hK _ _ (fun _ => HS2.out) ?_
         clear hK K
         refine wpAnyHIn_one 8 rfl (by kernel_rfl) rfl (fun K hK => ?_)
         go_simp
         refine hK _ _ (fun _ => HS2.out) ?_
         clear hK K
         refine wpAnyHIn_one 9 rfl (by kernel_rfl) rfl (fun K hK => ?_)
         go_simp
         refine hK _ _ (fun _ => HS2.out) ?_
         clear hK K
         refine wpAnyHIn_one 10 rfl (by kernel_rfl) rfl (fun K hK => ?_)
         go_simp
         refine ⟨trivial, ?_⟩
         have hAl : (liftA H A1).length ≤ 999999 := by
          obtain ⟨_, _, _, _, _, hqr⟩ := HMe.out.m.q
          have h1 := hqr.ndA
          have h2 : (liftA H A1).map Prod.fst = A1.map Prod.fst := by unfold liftA; rw [List.map_map]; rfl
          rw [h2] at h1
          have := H2.out.i.few h1
          rw [liftA_len]; omega
         refine (CallsIn.inRound l (callsIn_wide.2 (U.set_both2 _ _ _ _ _ HMe.out.m.q (y.1.to : Int) (p + (4096 * y.1.cost + 1) + 4096 * H y.1.to) ⟨g1, by omega⟩ hAl))).mono ?_; rintro en wf ⟨rfl, F2, hq2, hF2, hk2⟩
         have x10f := HMe.out.queued HH.out hk2 hq2 (fun k h => (hF2 k h).imp (fun h => h.1) (fun h => h.1))
         refine hK _ _ (fun _ => ⟨x10f.x10.cell, (cell_of_blk (hk2.heap HBXe.out HNF.out)).trans rfl, x10f.x3.cell⟩) ?_
         clear hK K x10f
         refine wpAnyHIn_done (by kernel_rfl) ?_
         gi_wp2
         rw [← liftA_put] at hq2
         have HMf := Lib.hid ((HMe.out.queued HH.out hk2 hq2 (fun k h => (hF2 k h).imp (fun h => h.1) (fun h => h.1))).clean)
         have KT : Keeps (fun k => (FH k ∨ k = mp ∨ k = mr) ∨ F1 k) W wf := (HKE.out.mono (fun _ _ h => .inl h)).trans (hk2.mono (fun _ _ h => .inr h))
         have hzwe := HKE.out.size
         have hBsl := lt_of_heap H6.out
         have hb12l := lt_of_heap H7.out
         have hlp := H0.out.m.lp
         have hlr := H0.out.m.lr
         obtain ⟨c1, c2⟩ := close_of (B := W9.heap.size) (n0 := w00.heap.size) (Bs := W6.heap.size + 1) KT (fun k h => by
          rcases h with (h | h | h) | h
          ·have := HH.out.lo k h
           exact ⟨this.1, .inl (by omega), by omega⟩
          ·exact ⟨by omega, .inl (by omega), by omega⟩
          ·exact ⟨by omega, .inl (by omega), by omega⟩
          ·exact ⟨by have := (H0.out.m.lF k h).1; omega, (H8.out k h).1, (H8.out k h).2.1⟩) (by omega) hBsl
         obtain ⟨R2, ha2, ht2⟩ := H2.out.next H3.out y.1
         have hfall := ha2.fall HSH.out.1 HSH.out HCO.out (live_step HSL.out y.2 hlive) HPP.out HLT.out
         have hsy : s ≠ y.1.to := fun e => by
          have := HLT.out p (by rw [← e]; exact HPP.out)
          omega
         have hwt := weightB_put (L := L) (m := 1000000000) (P := P1) (x := y.1.to) (v := p + (4096 * y.1.cost + 1)) (by omega) HYL.out (fun q hq => by have := HLT.out q hq; omega)
         have hpl := putA_len A1 (y.1.to : Int) (p + (4096 * y.1.cost + 1))
         have nS : ∀ k, w.heap.size ≤ k → k ≠ mp → k ≠ mr → ¬ F1 k → ¬ ((FH k ∨ k = mp ∨ k = mr) ∨ F1 k) := fun k h1 h2 h3 h4 h => by
          rcases h with (h | h | h) | h
          ·exact NO.out k h1 h
          ·exact h2 h
          ·exact h3 h
          ·exact h4 h
         exact ⟨c1, c2, _, _, _, _, _, R2, HMf.out, hfall, by rw [List.map_append]; exact ht2, (show putP P1 y.1.to (p + (4096 * y.1.cost + 1)) s = some p from by rw [putP_other _ _ hsy]; exact HPP.out), by omega,
          (show t1 + 1 + (weightB L 1000000000 (putP P1 y.1.to (p + (4096 * y.1.cost + 1))) : Int) ≤ T0 by omega), (show 2 * weightB L 1000000000 (putP P1 y.1.to (p + (4096 * y.1.cost + 1))) + (putA A1 (y.1.to : Int) (p + (4096 * y.1.cost + 1))).length < M0 by omega),
          H5.out.keeps (KeepsD.of KT (fun k h => by
           rcases h with (h | h | h) | h
           ·exact HH.out.nd H0.out.hI h
           ·rw [h]; exact H0.out.nd.1
           ·rw [h]; exact H0.out.nd.2.1
           ·exact (H8.out k h).2.2.2.1)),
          KT.heap H6.out (nS _ (by omega) (by omega) (by omega) (fun h => (H8.out _ h).2.1 rfl)), KT.heap H7.out (nS _ hb12 (by omega) (by omega) (fun h => (H8.out _ h).2.2.1 rfl)),
          fun k hk => by
           rcases hF2 k hk.1.1 with ⟨h1, h2⟩ | ⟨h1, h2⟩
           ·refine ⟨(H8.out k h1).1.imp (fun h => h) (fun ⟨cs, T, fr, hc⟩ => ?_), (H8.out k h1).2.1, (H8.out k h1).2.2.1, hk.2.2⟩
            rcases h2 with h2 | ⟨es, c, h2⟩
            ·exact h2
            ·have h3 := HKE.out.heap hc (fun h => by
              have hl := H0.out.m.lF k h1
              rcases h with h | h | h
              ·exact NO.out k hl.1 h
              ·exact hl.2.2.1 h
              ·exact hl.2.2.2.1 h)
             rw [h3] at h2; cases h2
           ·exact ⟨.inr h2, by omega, by omega, hk.2.2⟩⟩
      ·rintro D ys W hD hys ⟨P1, par1, A1, t1, F1, R1, h1, h2, h3, h4, g1, g2, g3, h5, h6, h7, h8⟩ hd
       have hys' : (ys.map fun y => y.1) = wsteps ops s := hys
       rw [hys'] at h3
       have hR := h3.done
       subst hR
       have HM7 := Lib.hid (HMK9.out.cons h5 hD (by omega) hd)
       have H1 := Lib.hid h1; have H2 := Lib.hid h2; have H8 := Lib.hid h8
       clear h1 h2 h3 h5 h6 h7 h8 hd hys hys'
       gi_wp2
       exact ⟨_, by omega, mark D :: ds, P1, par1, dnN, A1, t1, F1, H1.out, H2.out.anyS, HDN2.out, g1, by omega, rfl, fun k hk => (H8.out k hk).2.2.2.1, HM7.out, ex_fnD rfl⟩
      ·exact fun _ _ _ _ _ _ h _ => h.elim

theorem abestF_any (f : Int) (w00 w : World) (b st g0 base : Nat) (v : Value) (ops : List Wop) (L : List Nat) (H : Nat → Int) (gh : Nat) (pa cb : Array Value) (FH : Nat → Prop) (I : World → Prop)
  (hw : WordsAt w00 base b st g0 v ops) (k00 : Keeps (fun _ => False) w00 w) (hops : WopsOk ops) (hmany : ops.length ≤ 40) (hg0 : g0 < 4294967296) (hsh : Shut ops L) (hfew : L.length ≤ 2000) (hL32 : ∀ x ∈ L, x < 4294967296) (hcost : ∀ o ∈ ops, 0 ≤ o.cost ∧ o.cost ≤ 100) (hst : st ∈ L)
  (hh : Heur gh pa cb L H w00.heap.size w.heap.size FH I) (hI : I w) (hf : 1 ≤ f) (ad : AdmF f ops L (goalB g0) H) :
  Calls Tryz.prog 45 #[.iface 60 (.pointer (some ⟨b, 0, none⟩)), .func (.func gh) pa cb] w (AstPostF f ops L st (goalB g0) H w FH I) :=
 callsIn_wide.1 (abestF_in f w00 w b st g0 base v ops L H gh pa cb FH I hw k00 hops hmany hg0 hsh hfew hL32 hcost hst hh hI hf ad)
theorem abest_any (w00 w : World) (b st g0 base : Nat) (v : Value) (ops : List Wop) (L : List Nat) (H : Nat → Int) (gh : Nat) (pa cb : Array Value) (FH : Nat → Prop) (I : World → Prop)
  (hw : WordsAt w00 base b st g0 v ops) (k00 : Keeps (fun _ => False) w00 w) (hops : WopsOk ops) (hmany : ops.length ≤ 40) (hg0 : g0 < 4294967296) (hsh : Shut ops L) (hfew : L.length ≤ 2000) (hL32 : ∀ x ∈ L, x < 4294967296) (hcost : ∀ o ∈ ops, 0 ≤ o.cost ∧ o.cost ≤ 100) (hst : st ∈ L)
  (hh : Heur gh pa cb L H w00.heap.size w.heap.size FH I) (hI : I w) (ad : Adm ops L (goalB g0) H) :
  Calls Tryz.prog 45 #[.iface 60 (.pointer (some ⟨b, 0, none⟩)), .func (.func gh) pa cb] w (AstPost ops L st (goalB g0) H w FH) :=
 (abestF_any 1 w00 w b st g0 base v ops L H gh pa cb FH I hw k00 hops hmany hg0 hsh hfew hL32 hcost hst hh hI (Int.le_refl 1) ad.one).mono fun _ _ h => h.one hcost

end Go.Proofs.YtdokakhgflljgaaGreat

namespace Go.Proofs.YtdokakhgflljgaaGreat
open Go.RowKit

def costAt (t : Tsk) (x : Int) : Int := ((t.ops[x.toNat]?).map Opr.cost).getD 0
def costL (t : Tsk) : List Int → Int
 | [] => 0
 | x :: r => costAt t x + costL t r
def PlanIn (t : Tsk) (p : List Int) : Prop := ∀ x ∈ p, 0 ≤ x ∧ x < (t.ops.length : Int)

theorem costL_append (t : Tsk) : ∀ (a b : List Int), costL t (a ++ b) = costL t a + costL t b
 | [], b => by simp [costL]
 | x :: a, b => by
  show costAt t x + costL t (a ++ b) = (costAt t x + costL t a) + costL t b
  rw [costL_append t a b]; omega
theorem costAt_bound {t : Tsk} (ok : t.Ok) (x : Int) : 0 ≤ costAt t x ∧ costAt t x ≤ 100 := by
 unfold costAt
 cases h : t.ops[x.toNat]? with
 | none => simp
 | some o =>
  have := ok.ops o (List.mem_of_getElem? h)
  simp; exact ⟨this.cost0, this.cost1⟩
theorem costL_bound {t : Tsk} (ok : t.Ok) : ∀ p : List Int, 0 ≤ costL t p ∧ costL t p ≤ 100 * (p.length : Int)
 | [] => by simp [costL]
 | x :: r => by
  have h1 := costAt_bound ok x
  have h2 := costL_bound ok r
  unfold costL
  rw [List.length_cons]
  omega

set_option maxRecDepth 100000 in
set_option maxHeartbeats 2000000 in
theorem costOf_any (w : World) (vi vg vo vp : Value) (t : Tsk) (p : List Int) (h : TaskAt w vi vg vo t) (ok : t.Ok) (hp : Ints w vp p) (hin : PlanIn t p) (hlen : p.length ≤ 1000000) :
  Calls Tryz.prog 43 #[.agg #[.int .i64 t.n, vi, vg, vo], vp] w fun e w' => e = .returned (.int .i64 (costL t p)) ∧ Keeps (fun _ => False) w w' := by
 obtain ⟨ai, ci, h1, _⟩ := h.init.form
 obtain ⟨ag, cg, h2, _⟩ := h.goal.form
 obtain ⟨ao, co, h3, hmo⟩ := h.ops.form
 obtain ⟨ap, cp, h4, _⟩ := hp.form
 subst h1 h2 h3 h4
 have K1 := (Keeps.refl (fun _ => False) w).alloc (.cells #[.int .i64 t.n, .slice ai t.init.length ci, .slice ag t.goal.length cg, .slice ao t.ops.length co] 25)
 have HB := Lib.hid (Four.new w (.int .i64 t.n) (.slice ai t.init.length ci) (.slice ag t.goal.length cg) (.slice ao t.ops.length co) 25)
 have HOC := Lib.hid (h.ops.cell rfl)
 have CP := Lib.hid (hp.cell rfl)
 have HK := Lib.hid K1; have OK := Lib.hid ok; have HIN := Lib.hid hin
 clear h K1 ok hin hp
 go_enter Tryz.func43, Tryz.ntmps43
 go_upto_region 1 with fail
 generalize (w.alloc (.cells #[.int .i64 t.n, .slice ai t.init.length ci, .slice ag t.goal.length cg, .slice ao t.ops.length co] 25)) = w1 at HB HK ⊢
 go_wp2_with fail
 go_loopw [5, 6] (fun v5 v6 wr => ∃ i : Nat, i ≤ p.length ∧ v6 = .int .i64 (i : Int) ∧ v5 = .int .i64 (costL t (p.take i)) ∧ Keeps (fun _ => False) w1 wr) (fun _ v6 _ => p.length - (intOf v6).toNat)
 case atStart => exact ⟨0, Nat.zero_le _, rfl, rfl, Keeps.refl _ _⟩
 case round =>
  obtain ⟨i, hi, rfl, rfl, hkr⟩ := hrel
  have HKR := Lib.hid hkr
  have HB2 := Lib.hid (HB.out.keeps0 hkr)
  obtain ⟨d0, d1, d2, d3⟩ := HB2.out
  have hbx := HB2.out.lt
  have hsz := hkr.size
  clear hkr
  by_cases hlt : i < p.length
  ·obtain ⟨bp, op, rfl, hx'⟩ := CP.out (by omega)
   obtain ⟨x, hx⟩ : ∃ x, p[i]? = some x := ⟨_, List.getElem?_eq_getElem hlt⟩
   have hu := HKR.out.cell (HK.out.cell (hx' i x hx) (fun h => h)) (fun h => h)
   have hxi := HIN.out x (List.mem_of_getElem? hx)
   obtain ⟨xn, rfl⟩ : ∃ xn : Nat, x = (xn : Int) := ⟨x.toNat, by omega⟩
   obtain ⟨bo, oo, rfl, ho'⟩ := HOC.out (by omega)
   obtain ⟨o, ho⟩ : ∃ o, t.ops[xn]? = some o := ⟨_, List.getElem?_eq_getElem (by omega)⟩
   obtain ⟨va, vb, vc, _, _, _, c3, _⟩ := ho' xn o ho
   have c3' := HKR.out.cell (HK.out.cell c3 (fun h => h)) (fun h => h)
   have HTK : Hid (costL t (p.take (i + 1)) = costL t (p.take i) + o.cost) := by
    unfold Hid
    rw [take_getS hx, costL_append]
    simp [costL, costAt, ho]
   have hbd := costL_bound OK.out (p.take i)
   have hbl : ((p.take i).length : Int) ≤ 1000000 := by rw [List.length_take]; omega
   have hoc := OK.out.ops o (List.mem_of_getElem? ho)
   have ho0 := hoc.cost0
   have ho1 := hoc.cost1
   have q1 : IntKind.i64.wrap (costL t (p.take i) + o.cost) = costL t (p.take i) + o.cost := IntWalk.i64_in _ (by omega)
   have q2 : ((xn : Int)).toNat = xn := by omega
   have q3 : (0 : Int) ≤ (xn : Int) := by omega
   have q4 : (xn : Int) < (t.ops.length : Int) := hxi.2
   clear hx' hx ho' ho c3 hxi hoc hbl hbd
   go_wp2_with fail
   go_quiet (fail)
   have KD := Lib.hid (HKR.out.drewN nq)
   clear d0 d1 d2 d3 hu c3'
   generalize wr.drewN nq = w5 at KD ⊢
   go_wp2_with fail
   go_roundw
   case rel => exact ⟨i + 1, by omega, by go_num, by rw [HTK.out], KD.out⟩
   case measure => simp only [intOf]; omega
  ·have hie : i = p.length := by omega
   subst hie
   go_wp2_with fail
   go_ret
   exact ⟨congrArg (fun u => Ending.returned (Value.int .i64 u)) (show costL t (p.take p.length) = costL t p by rw [List.take_length]), HK.out.trans HKR.out⟩

end Go.Proofs.YtdokakhgflljgaaGreat

/- space.Result. -/
namespace Go.Proofs.YtdokakhgflljgaaGreat
open Go.RowKit

/-- A SearchResult. -/
def resV (found : Bool) (vp : Value) (c n : Int) : Value := .agg #[.bool found, vp, .int .i64 c, .int .i64 n]

theorem quad_set {w : World} {B : Nat} {x0 x1 x2 x3 : Value} {T : TypeId} (h : w.heap[B]? = some (.cells #[x0, x1, x2, x3] T (0, 0))) (a b c d : Value) :
  ((((w.setCell ⟨B, 0, none⟩ a).setCell ⟨B, 1, none⟩ b).setCell ⟨B, 2, none⟩ c).setCell ⟨B, 3, none⟩ d).heap[B]? = some (.cells #[a, b, c, d] T (0, 0)) := by
 rw [blk_set_same (blk_set_same (blk_set_same (blk_set_same h a) b) c) d]; rfl
theorem keeps_quad {w : World} (B : Nat) (a b c d : Value) : Keeps (fun k => k = B) w ((((w.setCell ⟨B, 0, none⟩ a).setCell ⟨B, 1, none⟩ b).setCell ⟨B, 2, none⟩ c).setCell ⟨B, 3, none⟩ d) :=
 ((((Keeps.refl (fun k => k = B) w).setCell (p := ⟨B, 0, none⟩) (.inl rfl) _).setCell (p := ⟨B, 1, none⟩) (.inl rfl) _).setCell (p := ⟨B, 2, none⟩) (.inl rfl) _).setCell (p := ⟨B, 3, none⟩) (.inl rfl) _

def ResultPost (t : Tsk) (vp : Value) (p : List Int) (found : Bool) (n : Int) (w : World) (e : Ending) (w' : World) : Prop := Keeps (fun _ => False) w w' ∧
 ((60 < p.length ∧ e = .returned (.tuple #[resV false (.slice none 0 0) 0 0, fltV 10 (-9)])) ∨
   (p.length ≤ 60 ∧ e = .returned (.tuple #[resV found vp (costL t p) n, fltV 0 0])))

set_option maxRecDepth 100000 in
set_option maxHeartbeats 2000000 in
theorem result_any (w : World) (vi vg vo vp : Value) (t : Tsk) (p : List Int) (found : Bool) (n : Int) (h : TaskAt w vi vg vo t) (ok : t.Ok) (hp : Ints w vp p) (hin : PlanIn t p) :
  Calls Tryz.prog 34 #[.agg #[.int .i64 t.n, vi, vg, vo], vp, .bool found, .int .i64 n] w (ResultPost t vp p found n w) := by
 obtain ⟨ai, ci, h1, _⟩ := h.init.form
 obtain ⟨ag, cg, h2, _⟩ := h.goal.form
 obtain ⟨ao, co, h3, hmo⟩ := h.ops.form
 obtain ⟨ap, cp, h4, _⟩ := hp.form
 have K1 := (Keeps.refl (fun _ => False) w).alloc (.cells #[.int .i64 t.n, vi, vg, vo] 25)
 have KA := (Keeps.refl (fun _ => False) (w.alloc (.cells #[.int .i64 t.n, vi, vg, vo] 25))).alloc (.cells #[.bool false, .slice none 0 0, .int .i64 0, .int .i64 0] 29)
 have KB := (Keeps.refl (fun _ => False) ((w.alloc (.cells #[.int .i64 t.n, vi, vg, vo] 25)).alloc (.cells #[.bool false, .slice none 0 0, .int .i64 0, .int .i64 0] 29))).alloc (.cells #[.int .i64 0, .int .i64 0] 31)
 have HB := Lib.hid ((Four.new w (.int .i64 t.n) vi vg vo 25).keeps0 (KA.trans KB))
 have HR := Lib.hid (KB.heap (heap_alloc_new (w.alloc (.cells #[.int .i64 t.n, vi, vg, vo] 25)) (.cells #[.bool false, .slice none 0 0, .int .i64 0, .int .i64 0] 29)) (fun h => h))
 have HF : Flt w _ _ 31 := ⟨heap_alloc_new ((w.alloc (.cells #[.int .i64 t.n, vi, vg, vo] 25)).alloc (.cells #[.bool false, .slice none 0 0, .int .i64 0, .int .i64 0] 29)) (.cells #[.int .i64 0, .int .i64 0] 31), by simp; omega, K1.trans (KA.trans KB)⟩
 replace HF := Lib.hid HF
 have HT := Lib.hid (h.keeps0 (K1.trans (KA.trans KB))); have HP := Lib.hid (show Ints _ vp p from hp.keeps0 (K1.trans (KA.trans KB)))
 have OK := Lib.hid ok; have HIN := Lib.hid hin
 rw [World.size_alloc] at HR HF
 rw [World.size_alloc] at HF
 subst h1 h2 h3 h4
 clear h hp hin ok K1 KA KB
 go_enter Tryz.func34, Tryz.ntmps34
 go_upto_region 1 with fail
 generalize ((w.alloc (.cells #[.int .i64 t.n, .slice ai t.init.length ci, .slice ag t.goal.length cg, .slice ao t.ops.length co] 25)).alloc (.cells #[.bool false, .slice none 0 0, .int .i64 0, .int .i64 0] 29)).alloc (.cells #[.int .i64 0, .int .i64 0] 31) = w1 at HB HR HF HT HP ⊢
 have r0 : w1.cell? ⟨w.heap.size + 1, 0, none⟩ = some (.bool false) := by rw [cell_of_blk HR.out]; rfl
 have r1 : w1.cell? ⟨w.heap.size + 1, 1, none⟩ = some (.slice none 0 0) := by rw [cell_of_blk HR.out]; rfl
 have r2 : w1.cell? ⟨w.heap.size + 1, 2, none⟩ = some (.int .i64 0) := by rw [cell_of_blk HR.out]; rfl
 have r3 : w1.cell? ⟨w.heap.size + 1, 3, none⟩ = some (.int .i64 0) := by rw [cell_of_blk HR.out]; rfl
 have y0 := frozen_of_blk (o := 0) HR.out
 have y1 := frozen_of_blk (o := 1) HR.out
 have y2 := frozen_of_blk (o := 2) HR.out
 have y3 := frozen_of_blk (o := 3) HR.out
 have hlR := lt_of_heap HR.out
 obtain ⟨e0, e1, z0, z1, hF⟩ := HF.out.cells
 by_cases hlen : 60 < p.length
 ·have q1 : decide ((60 : Int) < (p.length : Int)) = true := by simp; omega
  have HLEN := Lib.hid hlen
  have kq := keeps_quad (w := w1) (w.heap.size + 1) (.bool false) (.slice none 0 0) (.int .i64 0) (.int .i64 0)
  have HQ := Lib.hid (quad_set HR.out (.bool false) (.slice none 0 0) (.int .i64 0) (.int .i64 0))
  have HF2 := Lib.hid (HF.out.keepsS kq (by omega) (fun i hi => by omega))
  clear hlen kq
  go_wp2_with fail
  refine bodyPost_ret (results_cell_cell _ _ (w.heap.size + 1 + 1) 31 #[.int .i64 10, .int .i64 (-9)] (0, 0) _ rfl rfl (HF2.out.set (.int .i64 10) (.int .i64 (-9))).1 Tryz.underlying31 rfl (by kernel_rfl) rfl ((keeps_pair (w.heap.size + 1 + 1) _ _).heap HQ.out (by omega)) Tryz.underlying29 rfl (by kernel_rfl)) rfl ?_
  exact ⟨(HF2.out.set _ _).2, .inl ⟨HLEN.out, rfl⟩⟩
 ·have q1 : decide ((60 : Int) < (p.length : Int)) = false := by simp; omega
  have hlen2 : p.length ≤ 60 := by omega
  have HLEN := Lib.hid hlen2
  have hs1 := HF.out.keep.size
  have HOC := Lib.hid (HT.out.ops.cell rfl)
  have CP := Lib.hid (HP.out.cell rfl)
  have K3 := Lib.hid ((Keeps.refl (fun _ => False) w1).alloc (.cells #[.bool found, .slice ap p.length cp, .int .i64 0, .int .i64 n] 29))
  have HX3 := Lib.hid (heap_alloc_new w1 (.cells #[.bool found, .slice ap p.length cp, .int .i64 0, .int .i64 n] 29))
  have hbw := HB.out.lt
  clear hlen HT HP r0 r1 r2 r3 y0 y1 y2 y3 e0 e1 z0 z1
  go_upto_region 5 with fail
  generalize w1.alloc (.cells #[.bool found, .slice ap p.length cp, .int .i64 0, .int .i64 n] 29) = w3 at K3 HX3 ⊢
  obtain ⟨bx, hbx⟩ : ∃ bx, w1.heap.size = bx := ⟨_, rfl⟩
  have HBX := Lib.hid hbx
  rw [hbx] at hF hlR hs1 hbw
  rw [show w1.heap.size = bx from hbx] at HX3
  rw [hbx]
  clear hbx
  go_loopw [24] (fun v24 wr => ∃ i : Nat, i ≤ p.length ∧ v24 = .int .i64 (i : Int) ∧ wr.heap[bx]? = some (.cells #[.bool found, .slice ap p.length cp, .int .i64 (costL t (p.take i)), .int .i64 n] 29 (0, 0)) ∧ Keeps (fun _ => False) w1 wr) (fun v24 _ => p.length - (intOf v24).toNat)
  case atStart => exact ⟨0, Nat.zero_le _, rfl, HX3.out, K3.out⟩
  case round =>
   obtain ⟨i, hi, rfl, hx, hkr⟩ := hrel
   have HX := Lib.hid hx
   have HKR := Lib.hid hkr
   have HB2 := Lib.hid (HB.out.keeps0 hkr)
   have HF2 := Lib.hid (HF.out.keeps0 hkr)
   have HR2 := Lib.hid (hkr.heap HR.out (fun h => h))
   have s0 : wr.cell? ⟨bx, 0, none⟩ = some (.bool found) := by rw [cell_of_blk hx]; rfl
   have s1 : wr.cell? ⟨bx, 1, none⟩ = some (.slice ap p.length cp) := by rw [cell_of_blk hx]; rfl
   have s2 : wr.cell? ⟨bx, 2, none⟩ = some (.int .i64 (costL t (p.take i))) := by rw [cell_of_blk hx]; rfl
   have s3 : wr.cell? ⟨bx, 3, none⟩ = some (.int .i64 n) := by rw [cell_of_blk hx]; rfl
   have v2 := frozen_of_blk (o := 2) hx
   have hlx := lt_of_heap hx
   clear hkr hx
   by_cases hlt : i < p.length
   ·obtain ⟨d0, d1, d2, d3⟩ := HB2.out
    have hbl2 := HB2.out.lt
    obtain ⟨bp, op, rfl, hx'⟩ := CP.out (by omega)
    obtain ⟨x, hx⟩ : ∃ x, p[i]? = some x := ⟨_, List.getElem?_eq_getElem hlt⟩
    have hu := HKR.out.cell (hx' i x hx) (fun h => h)
    have hxi := HIN.out x (List.mem_of_getElem? hx)
    obtain ⟨xn, rfl⟩ : ∃ xn : Nat, x = (xn : Int) := ⟨x.toNat, by omega⟩
    obtain ⟨bo, oo, rfl, ho'⟩ := HOC.out (by omega)
    obtain ⟨o, ho⟩ : ∃ o, t.ops[xn]? = some o := ⟨_, List.getElem?_eq_getElem (by omega)⟩
    obtain ⟨va, vb, vc, _, _, _, c3, _⟩ := ho' xn o ho
    have c3' := HKR.out.cell c3 (fun h => h)
    have HTK : Hid (costL t (p.take (i + 1)) = costL t (p.take i) + o.cost) := by
     unfold Hid
     rw [take_getS hx, costL_append]
     simp [costL, costAt, ho]
    have hbd := costL_bound OK.out (p.take i)
    have hbl : ((p.take i).length : Int) ≤ 1000000 := by rw [List.length_take]; omega
    have hoc := OK.out.ops o (List.mem_of_getElem? ho)
    have ho0 := hoc.cost0
    have ho1 := hoc.cost1
    have q1 : IntKind.i64.wrap (costL t (p.take i) + o.cost) = costL t (p.take i) + o.cost := IntWalk.i64_in _ (by omega)
    have q2 : ((xn : Int)).toNat = xn := by omega
    have q3 : (0 : Int) ≤ (xn : Int) := by omega
    have q4 : (xn : Int) < (t.ops.length : Int) := hxi.2
    clear hx' hx ho' ho c3 hxi hoc hbl hbd
    go_upto_region 7 with fail
    go_still_tail 10, (by kernel_rfl)
    change wpList _ _ _ _ _ wr.drew
    have KD := (Keeps.refl (fun _ => False) wr).drew
    have HXD := Lib.hid (KD.heap HX.out (fun h => h))
    have HKD := Lib.hid (HKR.out.trans KD)
    clear KD d0 d1 d2 d3 hbl2 hu c3' s0 s1 s2 s3 v2 hlx
    generalize wr.drew = w5 at HXD HKD ⊢
    have s2 : w5.cell? ⟨bx, 2, none⟩ = some (.int .i64 (costL t (p.take i))) := by rw [cell_of_blk HXD.out]; rfl
    have v2 := frozen_of_blk (o := 2) HXD.out
    have hlx := lt_of_heap HXD.out
    have HN := Lib.hid (blk_set_same HXD.out (o := 2) (.int .i64 (costL t (p.take i) + o.cost)))
    have HKN := Lib.hid (HKD.out.trans' ((Keeps.refl (fun k => k = bx) w5).setCell (p := ⟨bx, 2, none⟩) (.inl rfl) (.int .i64 (costL t (p.take i) + o.cost))) (fun k hk => .inr (by have := HBX.out; omega)))
    go_wp2_with fail
    go_roundw
    case rel => exact ⟨i + 1, by omega, by go_num, by rw [HTK.out]; exact HN.out, HKN.out⟩
    case measure => simp only [intOf]; omega
   ·have hie : i = p.length := by omega
    subst hie
    have r0 : wr.cell? ⟨w.heap.size + 1, 0, none⟩ = some (.bool false) := by rw [cell_of_blk HR2.out]; rfl
    have r1 : wr.cell? ⟨w.heap.size + 1, 1, none⟩ = some (.slice none 0 0) := by rw [cell_of_blk HR2.out]; rfl
    have r2 : wr.cell? ⟨w.heap.size + 1, 2, none⟩ = some (.int .i64 0) := by rw [cell_of_blk HR2.out]; rfl
    have r3 : wr.cell? ⟨w.heap.size + 1, 3, none⟩ = some (.int .i64 0) := by rw [cell_of_blk HR2.out]; rfl
    have y0 := frozen_of_blk (o := 0) HR2.out
    have y1 := frozen_of_blk (o := 1) HR2.out
    have y2 := frozen_of_blk (o := 2) HR2.out
    have y3 := frozen_of_blk (o := 3) HR2.out
    have hlR2 := lt_of_heap HR2.out
    obtain ⟨e0, e1, z0, z1, hF2⟩ := HF2.out.cells
    have HCE : Hid (costL t (p.take p.length) = costL t p) := by unfold Hid; rw [List.take_length]
    have kq := keeps_quad (w := wr) (w.heap.size + 1) (.bool found) (.slice ap p.length cp) (.int .i64 (costL t p)) (.int .i64 n)
    have HQ := Lib.hid (quad_set HR2.out (.bool found) (.slice ap p.length cp) (.int .i64 (costL t p)) (.int .i64 n))
    have HF4 := Lib.hid (HF2.out.keepsS kq (by omega) (fun i hi => by omega))
    rw [HCE.out] at s2
    clear kq HX
    go_wp2_with fail
    refine bodyPost_ret (results_cell_cell _ _ (w.heap.size + 1 + 1) 31 #[.int .i64 0, .int .i64 0] (0, 0) _ rfl rfl (HF4.out.set (.int .i64 0) (.int .i64 0)).1 Tryz.underlying31 rfl (by kernel_rfl) rfl ((keeps_pair (w.heap.size + 1 + 1) _ _).heap HQ.out (by omega)) Tryz.underlying29 rfl (by kernel_rfl)) rfl ?_
    exact ⟨(HF4.out.set _ _).2, .inr ⟨HLEN.out, rfl⟩⟩

end Go.Proofs.YtdokakhgflljgaaGreat

namespace Go.Proofs.YtdokakhgflljgaaGreat
open Go.RowKit

/-! ### the plans of a search -/
theorem runOps_lt {ops : List Wop} : ∀ {p : List Nat} {x y : Nat}, runOps ops x p = some y → ∀ o ∈ p, o < ops.length
 | [], _, _, _, _, h => by cases h
 | o :: r, x, y, h, k, hk => by
  rw [runOps] at h
  cases ho : ops[o]? with
  | none => rw [ho] at h; cases h
  | some op =>
   rw [ho] at h; simp only at h
   split at h
   ·rcases List.mem_cons.1 hk with rfl | hk
    ·exact (List.getElem?_eq_some_iff.1 ho).1
    ·exact runOps_lt h k hk
   ·cases h

theorem planIn_run {t : Tsk} {p : List Nat} {x y : Nat} (h : runOps (wordsOf t.ops) x p = some y) : PlanIn t (intsP p) := by
 intro z hz
 unfold intsP at hz
 obtain ⟨o, ho, rfl⟩ := List.mem_map.1 hz
 have := runOps_lt h o ho
 unfold wordsOf at this
 rw [List.length_map] at this
 omega

/-! ### two blocks of results -/
structure RFl (w w1 : World) (R F : Nat) : Prop where
 res : w1.heap[R]? = some (.cells #[.bool false, .slice none 0 0, .int .i64 0, .int .i64 0] 29 (0, 0))
 flt : Flt w w1 F 31
 base : w.heap.size ≤ R
 ne : R ≠ F
theorem RFl.keeps0 {w w1 w2 : World} {R F : Nat} (h : RFl w w1 R F) (hk : Keeps (fun _ => False) w1 w2) : RFl w w2 R F := ⟨hk.heap h.res (fun h => h), h.flt.keeps0 hk, h.base, h.ne⟩
theorem RFl.cells {w w1 : World} {R F : Nat} (h : RFl w w1 R F) : w1.cell? ⟨R, 0, none⟩ = some (.bool false) ∧ w1.cell? ⟨R, 1, none⟩ = some (.slice none 0 0) ∧ w1.cell? ⟨R, 2, none⟩ = some (.int .i64 0) ∧ w1.cell? ⟨R, 3, none⟩ = some (.int .i64 0) ∧
  w1.frozen? ⟨R, 0, none⟩ = false ∧ w1.frozen? ⟨R, 1, none⟩ = false ∧ w1.frozen? ⟨R, 2, none⟩ = false ∧ w1.frozen? ⟨R, 3, none⟩ = false ∧ R < w1.heap.size :=
 ⟨by rw [cell_of_blk h.res]; rfl, by rw [cell_of_blk h.res]; rfl, by rw [cell_of_blk h.res]; rfl, by rw [cell_of_blk h.res]; rfl, frozen_of_blk h.res, frozen_of_blk h.res, frozen_of_blk h.res, frozen_of_blk h.res, lt_of_heap h.res⟩
theorem RFl.set {w w1 : World} {R F : Nat} (h : RFl w w1 R F) (a b c d x y : Value) :
  ((((((w1.setCell ⟨R, 0, none⟩ a).setCell ⟨R, 1, none⟩ b).setCell ⟨R, 2, none⟩ c).setCell ⟨R, 3, none⟩ d).setCell ⟨F, 0, none⟩ x).setCell ⟨F, 1, none⟩ y).heap[R]? = some (.cells #[a, b, c, d] 29 (0, 0)) ∧
  ((((((w1.setCell ⟨R, 0, none⟩ a).setCell ⟨R, 1, none⟩ b).setCell ⟨R, 2, none⟩ c).setCell ⟨R, 3, none⟩ d).setCell ⟨F, 0, none⟩ x).setCell ⟨F, 1, none⟩ y).heap[F]? = some (.cells #[x, y] 31 (0, 0)) ∧
  Keeps (fun _ => False) w ((((((w1.setCell ⟨R, 0, none⟩ a).setCell ⟨R, 1, none⟩ b).setCell ⟨R, 2, none⟩ c).setCell ⟨R, 3, none⟩ d).setCell ⟨F, 0, none⟩ x).setCell ⟨F, 1, none⟩ y) ∧
  Keeps (fun k => k = R ∨ k = F) w1 ((((((w1.setCell ⟨R, 0, none⟩ a).setCell ⟨R, 1, none⟩ b).setCell ⟨R, 2, none⟩ c).setCell ⟨R, 3, none⟩ d).setCell ⟨F, 0, none⟩ x).setCell ⟨F, 1, none⟩ y) := by
 have kq := keeps_quad (w := w1) R a b c d
 have hq := quad_set h.res a b c d
 have hf := h.flt.keepsS kq (fun e => h.ne e.symm) (fun i hi => by subst hi; exact h.base)
 have hs := hf.set x y
 exact ⟨(keeps_pair F x y).heap hq h.ne, hs.1, hs.2, (kq.mono (fun _ _ h => .inl h)).trans ((keeps_pair F x y).mono (fun _ _ h => .inr h))⟩

/-- The zero result stays as it is. -/
theorem RFl.ids {w w1 : World} {R F : Nat} (h : RFl w w1 R F) : w1.setCell ⟨R, 0, none⟩ (.bool false) = w1 ∧ w1.setCell ⟨R, 1, none⟩ (.slice none 0 0) = w1 ∧ w1.setCell ⟨R, 2, none⟩ (.int .i64 0) = w1 ∧ w1.setCell ⟨R, 3, none⟩ (.int .i64 0) = w1 :=
 ⟨setCell_id h.cells.1, setCell_id h.cells.2.1, setCell_id h.cells.2.2.1, setCell_id h.cells.2.2.2.1⟩
theorem RFl.fin {w w1 : World} {R F : Nat} (h : RFl w w1 R F) (x y : Value) : ((w1.setCell ⟨F, 0, none⟩ x).setCell ⟨F, 1, none⟩ y).drew.heap[R]? = some (.cells #[.bool false, .slice none 0 0, .int .i64 0, .int .i64 0] 29 (0, 0)) ∧
  ((w1.setCell ⟨F, 0, none⟩ x).setCell ⟨F, 1, none⟩ y).drew.heap[F]? = some (.cells #[x, y] 31 (0, 0)) ∧ Keeps (fun _ => False) w ((w1.setCell ⟨F, 0, none⟩ x).setCell ⟨F, 1, none⟩ y).drew :=
 ⟨(keeps_pair F x y).drew.heap h.res h.ne, (h.flt.set x y).1, (h.flt.set x y).2.drew⟩

theorem quad_cells {w : World} {B : Nat} {a b c d : Value} {T : TypeId} (h : w.heap[B]? = some (.cells #[a, b, c, d] T (0, 0))) : w.cell? ⟨B, 0, none⟩ = some a ∧ w.cell? ⟨B, 1, none⟩ = some b ∧ w.cell? ⟨B, 2, none⟩ = some c ∧ w.cell? ⟨B, 3, none⟩ = some d ∧ B < w.heap.size :=
 ⟨by rw [cell_of_blk h]; rfl, by rw [cell_of_blk h]; rfl, by rw [cell_of_blk h]; rfl, by rw [cell_of_blk h]; rfl, lt_of_heap h⟩

/-! ### what Plan hands back -/
end Go.Proofs.YtdokakhgflljgaaGreat

namespace Go.Proofs.YtdokakhgflljgaaGreat
open Go.RowKit Go.Shelf

/-- What Value says of a task's states for a kind. -/
def ValC (t : Tsk) (kind : Int) (L : List Nat) (H : Nat → Int) : Prop := ∀ (W : World) (vi vg vo vs : Value) (x : Nat), TaskAt W vi vg vo t → x ∈ L → Ints W vs (facts x) →
 Calls Tryz.prog 59 #[.agg #[.int .i64 t.n, vi, vg, vo], .int .i64 kind, vs] W fun e W' => e = .returned (.int .i64 (H x)) ∧ Keeps (fun _ => False) W W'

set_option maxRecDepth 100000 in
set_option maxHeartbeats 2000000 in
theorem value0_any (t : Tsk) (L : List Nat) : ValC t 0 L (fun _ => 0) := by
 intro w vi vg vo vs x h hx hs
 obtain ⟨ai, ci, h1, _⟩ := h.init.form
 obtain ⟨ag, cg, h2, _⟩ := h.goal.form
 obtain ⟨ao, co, h3, hmo⟩ := h.ops.form
 subst h1 h2 h3
 have K1 := Lib.hid ((Keeps.refl (fun _ => False) w).alloc (.cells #[.int .i64 t.n, .slice ai t.init.length ci, .slice ag t.goal.length cg, .slice ao t.ops.length co] 25))
 clear h hs
 go_enter Tryz.func59, Tryz.ntmps59
 go_wp2_with fail
 go_ret
 exact ⟨rfl, K1.out⟩

/-- The function value's own memory: the map of what it has said, the task and the kind. -/
structure HeurM (t : Tsk) (kind : Int) (H : Nat → Int) (w0 : World) (kb tb qb mb : Nat) (vi vg vo : Value) (W : World) : Prop where
 kbox : W.heap[kb]? = some (.cells #[.map (some mb)] 88 (0, 0))
 tbox : W.heap[tb]? = some (.cells #[.int .i64 t.n, vi, vg, vo] 25 (0, 0))
 qbox : W.heap[qb]? = some (.cells #[.int .i64 kind] 3 (0, 0))
 known : ∃ K, FMap W mb intV K ∧ ∀ x v, K x = some v → v = H x
 task : Keeps (fun _ => False) w0 W

theorem HeurM.keeps {t : Tsk} {kind : Int} {H : Nat → Int} {w0 W W' : World} {kb tb qb mb : Nat} {vi vg vo : Value} {S : Nat → Prop} (h : HeurM t kind H w0 kb tb qb mb vi vg vo W) (hk : Keeps S W W') (s1 : ¬ S kb) (s2 : ¬ S tb) (s3 : ¬ S qb) (s4 : ¬ S mb) (hS : ∀ k, S k → w0.heap.size ≤ k) : HeurM t kind H w0 kb tb qb mb vi vg vo W' := by
 obtain ⟨K, h1, h2⟩ := h.known
 exact ⟨hk.heap h.kbox s1, hk.heap h.tbox s2, hk.heap h.qbox s3, ⟨K, h1.keeps hk s4, h2⟩, h.task.trans' hk (fun i hi => .inr (hS i hi))⟩

set_option maxRecDepth 100000 in
set_option maxHeartbeats 2000000 in
theorem heur1_any (t : Tsk) (kind : Int) (L : List Nat) (H : Nat → Int) (hv : ValC t kind L H) (w0 : World) (kb tb qb mb : Nat) (vi vg vo : Value) (h0 : TaskAt w0 vi vg vo t) (hmb : w0.heap.size ≤ mb) (W : World) (x : Nat) (h : HeurM t kind H w0 kb tb qb mb vi vg vo W) (hx : x ∈ L) :
  Calls Tryz.prog 58 #[.int .u32 (x : Int), .pointer (some ⟨kb, 0, none⟩), .pointer (some ⟨tb, 0, none⟩), .pointer (some ⟨qb, 0, none⟩)] W fun e W' => e = .returned (.int .i64 (H x)) ∧ HeurM t kind H w0 kb tb qb mb vi vg vo W' ∧ Keeps (fun k => k = mb) W W' := by
 obtain ⟨ai, ci, h1, _⟩ := h0.init.form
 obtain ⟨ag, cg, h2, _⟩ := h0.goal.form
 obtain ⟨ao, co, h3, hmo⟩ := h0.ops.form
 subst h1 h2 h3
 obtain ⟨K, hK, hKH⟩ := h.known
 have HH := Lib.hid h; have HK := Lib.hid hK; have HKH := Lib.hid hKH; have HX := Lib.hid hx; have HV := Lib.hid hv; have H0 := Lib.hid h0
 have c1 : W.cell? ⟨kb, 0, none⟩ = some (.map (some mb)) := (cell_of_blk h.kbox).trans rfl
 have l1 := lt_of_heap h.kbox
 have n1 : kb ≠ mb := fun e => hK.ne_cells h.kbox e.symm
 have n2 : tb ≠ mb := fun e => hK.ne_cells h.tbox e.symm
 have n3 : qb ≠ mb := fun e => hK.ne_cells h.qbox e.symm
 obtain ⟨qv, qb', hlk, hqt, hqf⟩ := costLookT hK x
 clear h hK hKH hx hv h0
 go_enter Tryz.func58, Tryz.ntmps58
 cases qb' with
 | true =>
  have he := HKH.out x qv (hqt rfl)
  subst he
  clear hqt hqf
  go_wp2_with fail
  go_ret
  exact ⟨rfl, HH.out, Keeps.refl _ _⟩
 | false =>
  clear hqt hqf
  have KD := (Keeps.refl (fun _ => False) W).drew
  have HD := Lib.hid (HH.out.keeps KD (fun h => h) (fun h => h) (fun h => h) (fun h => h) (fun _ h => h.elim))
  have KDD := Lib.hid KD
  obtain ⟨t0, t1, t2, t3, tl⟩ := quad_cells HD.out.tbox
  have q0 : W.drew.cell? ⟨qb, 0, none⟩ = some (.int .i64 kind) := (cell_of_blk HD.out.qbox).trans rfl
  have ql := lt_of_heap HD.out.qbox
  clear KD
  go_wp2_with fail
  go_region_held3 (fun w' => w'.cell? ⟨tb, 0, none⟩ = some (.int .i64 t.n) ∧ w'.cell? ⟨tb, 1, none⟩ = some (.slice ai t.init.length ci) ∧ w'.cell? ⟨tb, 2, none⟩ = some (.slice ag t.goal.length cg) ∧ w'.cell? ⟨tb, 3, none⟩ = some (.slice ao t.ops.length co) ∧ w'.cell? ⟨qb, 0, none⟩ = some (.int .i64 kind))
   (go_keep)
   (first
    | (go_at_call 60; refine (facts_any _ x).mono ?_; rintro en wa ⟨vx, rfl, hrow, hka, _⟩; have hia := Ints.of_own hrow; have HIA := Lib.hid hia; have ha0 := hka.cell t0 (fun h => h); have ha1 := hka.cell t1 (fun h => h); have ha2 := hka.cell t2 (fun h => h); have ha3 := hka.cell t3 (fun h => h); have ha4 := hka.cell q0 (fun h => h); have KA := Lib.hid (KDD.out.trans hka); clear hrow hka hia)
    | (go_at_call 59; refine (HV.out _ _ _ _ _ x (H0.out.keeps0 (HH.out.task.trans KA.out)) HX.out HIA.out).mono ?_; rintro en wb ⟨rfl, hkb⟩; have hb0 := hkb.cell ha0 (fun h => h); have hb1 := hkb.cell ha1 (fun h => h); have hb2 := hkb.cell ha2 (fun h => h); have hb3 := hkb.cell ha3 (fun h => h); have hb4 := hkb.cell ha4 (fun h => h); have KB := Lib.hid (KA.out.trans hkb); clear hkb))
  all_goals
   have HB := Lib.hid (HH.out.keeps KB.out (fun h => h) (fun h => h) (fun h => h) (fun h => h) (fun _ h => h.elim))
   have hKb := HK.out.keeps KB.out (fun h => h)
   obtain ⟨wc, hrc, hmc, hkc⟩ := hKb.put (P := Tryz.prog) Tryz.underlying88 Tryz.underlying66 x (H x)
   unfold intV at hrc
   have k1c : wb.cell? ⟨kb, 0, none⟩ = some (.map (some mb)) := (cell_of_blk HB.out.kbox).trans rfl
   have k1l := lt_of_heap HB.out.kbox
   have HC := Lib.hid (show HeurM t kind H w0 kb tb qb mb _ _ _ wc ∧ Keeps (fun k => k = mb) W wc from ⟨⟨hkc.heap HB.out.kbox n1, hkc.heap HB.out.tbox n2, hkc.heap HB.out.qbox n3, ⟨_, hmc, fun y v hy => by
    unfold putP at hy
    split at hy
    ·rename_i e; cases hy; rw [e]
    ·exact HKH.out y v hy⟩, HB.out.task.trans' hkc (fun i hi => .inr (by rw [hi]; exact hmb))⟩, (KB.out.mono (fun _ _ h => h.elim)).trans hkc⟩)
   clear hmc hkc hKb
   go_wp2_with fail
   go_ret
   exact ⟨rfl, HC.out.1, HC.out.2⟩

/-- The function value keeps the contract of a heuristic. -/
theorem heur_is (t : Tsk) (kind : Int) (L : List Nat) (H : Nat → Int) (hv : ValC t kind L H) (w0 : World) (kb tb qb mb n0 B : Nat) (vi vg vo : Value) (h0 : TaskAt w0 vi vg vo t) (hmb : w0.heap.size ≤ mb) (hn : n0 ≤ mb) (b1 : kb < B) (b2 : tb < B) (b3 : qb < B) (b4 : mb < B) :
  Heur 58 #[] #[.pointer (some ⟨kb, 0, none⟩), .pointer (some ⟨tb, 0, none⟩), .pointer (some ⟨qb, 0, none⟩)] L H n0 B (fun k => k = mb) (HeurM t kind H w0 kb tb qb mb vi vg vo) := by
 refine ⟨enters_of Tryz.func58 (by kernel_rfl) rfl, fun W x hI hx => ?_, fun {S W W'} hI hk hS => ?_, fun {W k} hI hk => ?_, fun k hk => ?_⟩
 ·exact (heur1_any t kind L H hv w0 kb tb qb mb vi vg vo h0 hmb W x hI hx).mono fun e W' h => h
 ·exact hI.keeps hk (fun h => by have := hS _ h; omega) (fun h => by have := hS _ h; omega) (fun h => by have := hS _ h; omega) (fun h => by have := hS _ h; omega) (fun k h => by have := hS k h; omega)
 ·obtain ⟨K, h1, _⟩ := hI.known
  rw [hk]; exact h1.not_deferred
 ·rw [hk]; exact ⟨hn, b4⟩

end Go.Proofs.YtdokakhgflljgaaGreat

namespace Go.Proofs.YtdokakhgflljgaaGreat
open Go.RowKit Go.Shelf

def wtdH (f : Int) (H : Nat → Int) : Nat → Int := fun x => if 1000000000 ≤ H x then 1000000000 else f * H x
theorem run_in {ops : List Wop} {L : List Nat} (hsh : Shut ops L) : ∀ {p : List Nat} {x y : Nat}, x ∈ L → runOps ops x p = some y → y ∈ L
 | [], x, y, hx, h => by cases h; exact hx
 | a :: p, x, y, hx, h => by
  rw [runOps] at h
  cases ho : ops[a]? with
  | none => rw [ho] at h; cases h
  | some o =>
   rw [ho] at h; simp only at h
   by_cases hc : o.can x = true
   ·rw [if_pos hc] at h
    exact run_in hsh (hsh.2 x hx o (List.mem_of_getElem? ho) hc) h
   ·rw [if_neg hc] at h; cases h
theorem wtd_adm {ops : List Wop} {L : List Nat} {acc : Nat → Bool} {H : Nat → Int} {f : Int} (hsh : Shut ops L) (h0 : ∀ o ∈ ops, 0 ≤ o.cost ∧ o.cost ≤ 100) (hL : L.length ≤ 2000) (hf : 1 ≤ f ∧ f ≤ 10) (ad : Adm ops L acc H) : AdmF f ops L acc (wtdH f H) := by
 refine ⟨fun x hx => ?_, fun x hx p y hr hy => ?_⟩
 ·unfold wtdH
  split
  ·decide
  ·exact Int.mul_nonneg (by omega) (ad.lo x hx).1
 ·obtain ⟨q, h1, h2, h3⟩ := short_run h0 (fun p y h => run_in hsh hx h) p.length (Nat.le_refl _) hr
  have h4 := ad.low x hx q y h1 hy
  have h5 := (costN_bound h0 q).2
  have h6 := (ad.lo x hx).1
  have h7 := (ad.low x hx p y hr hy).1
  unfold wtdH
  rw [if_neg (by omega)]
  have h8 : f * H x ≤ 10 * H x := Int.mul_le_mul_of_nonneg_right hf.2 h6
  exact ⟨Int.mul_le_mul_of_nonneg_left h7 (by omega), by omega⟩

/-- Its own memory: the box of the function value and that of the factor, beside what the heuristic holds. -/
def WtdM (I : World → Prop) (hb fb : Nat) (fn : Value) (f : Int) (W : World) : Prop :=
 I W ∧ W.heap[hb]? = some (.cells #[fn] 67 (0, 0)) ∧ W.heap[fb]? = some (.cells #[.int .i64 f] 3 (0, 0))

set_option maxRecDepth 100000 in
set_option maxHeartbeats 2000000 in
theorem wtd1_any (L : List Nat) (H : Nat → Int) (f : Int) (gh n0 B : Nat) (pa cb : Array Value) (FH : Nat → Prop) (I : World → Prop) (hb fb : Nat) (hf : 1 ≤ f ∧ f ≤ 10) (hh : Heur gh pa cb L H n0 B FH I) (hH : ∀ x ∈ L, 0 ≤ H x) (nh : ¬ FH hb) (nf : ¬ FH fb)
  (W : World) (x : Nat) (h : WtdM I hb fb (.func (.func gh) pa cb) f W) (hx : x ∈ L) :
  Calls Tryz.prog 46 #[.int .u32 (x : Int), .pointer (some ⟨hb, 0, none⟩), .pointer (some ⟨fb, 0, none⟩)] W fun e W' => e = .returned (.int .i64 (wtdH f H x)) ∧ WtdM I hb fb (.func (.func gh) pa cb) f W' ∧ Keeps FH W W' := by
 have eg := hh.enters
 have hHx := hH x hx
 have HH := Lib.hid hh; have HM := Lib.hid h; have HX := Lib.hid hx
 have c1 : W.cell? ⟨hb, 0, none⟩ = some (.func (.func gh) pa cb) := (cell_of_blk h.2.1).trans rfl
 have l1 := lt_of_heap h.2.1
 clear h hh hH hx
 go_enter Tryz.func46, Tryz.ntmps46
 go_wp2_with fail
 refine (HH.out.answers _ x HM.out.1 HX.out).mono ?_; rintro en wa ⟨rfl, hIa, hka⟩
 have HMa := Lib.hid (show WtdM I hb fb (.func (.func gh) pa cb) f wa from ⟨hIa, hka.heap HM.out.2.1 nh, hka.heap HM.out.2.2 nf⟩)
 have HKA := Lib.hid hka
 clear hIa hka c1 l1
 by_cases hd : 1000000000 ≤ H x
 ·have hdd : decide (1000000000 ≤ H x) = true := by simpa using hd
  have he : wtdH f H x = 1000000000 := by unfold wtdH; rw [if_pos hd]
  have HE := Lib.hid he
  clear he
  go_wp2_with fail
  go_ret
  exact ⟨by rw [HE.out]; rfl, HMa.out, HKA.out⟩
 ·have hdd : decide (1000000000 ≤ H x) = false := by simpa using hd
  have he : wtdH f H x = f * H x := by unfold wtdH; rw [if_neg hd]
  have HE := Lib.hid he
  have h8 : f * H x ≤ 10 * H x := Int.mul_le_mul_of_nonneg_right hf.2 hHx
  have h9 : 0 ≤ f * H x := Int.mul_nonneg (by omega) hHx
  have hw : IntKind.i64.wrap (f * H x) = f * H x := IntWalk.i64_in _ (by omega)
  have KD := (Keeps.refl (fun _ => False) wa).drew
  have HID := Lib.hid (HH.out.steady HMa.out.1 KD (fun _ h => h.elim))
  have s1 : wa.drew.cell? ⟨hb, 0, none⟩ = some (.func (.func gh) pa cb) := (cell_of_blk (KD.heap HMa.out.2.1 (fun h => h))).trans rfl
  have s2 : wa.drew.cell? ⟨fb, 0, none⟩ = some (.int .i64 f) := (cell_of_blk (KD.heap HMa.out.2.2 (fun h => h))).trans rfl
  have l1 := lt_of_heap (KD.heap HMa.out.2.1 (fun h => h))
  have l2 := lt_of_heap (KD.heap HMa.out.2.2 (fun h => h))
  have HKD := Lib.hid (HKA.out.trans (KD.mono (S' := FH) (fun _ _ h => h.elim)))
  clear he KD h8 h9
  go_wp2_with fail
  go_region_held3 (fun w' => w'.cell? ⟨hb, 0, none⟩ = some (.func (.func gh) pa cb) ∧ w'.cell? ⟨fb, 0, none⟩ = some (.int .i64 f)) (go_keep)
   (first | (refine (HH.out.answers _ x HID.out HX.out).mono ?_; rintro en wb ⟨rfl, hIb, hkb⟩; have s1b := hkb.cell s1 nh; have s2b := hkb.cell s2 nf; have HKB := Lib.hid (HKD.out.trans hkb); have HIB := Lib.hid hIb; clear hIb hkb))
  all_goals
   go_wp2_with fail
   go_ret
   exact ⟨by rw [HE.out]; rfl, ⟨HIB.out, HKB.out.heap HM.out.2.1 nh, HKB.out.heap HM.out.2.2 nf⟩, HKB.out⟩

theorem wtd_is (L : List Nat) (H : Nat → Int) (f : Int) (gh n0 B B' : Nat) (pa cb : Array Value) (FH : Nat → Prop) (I : World → Prop) (hb fb : Nat) (hf : 1 ≤ f ∧ f ≤ 10) (hh : Heur gh pa cb L H n0 B FH I) (hH : ∀ x ∈ L, 0 ≤ H x) (nh : ¬ FH hb) (nf : ¬ FH fb) (hB : B ≤ B') (h1 : hb < B') (h2 : fb < B') :
  Heur 46 #[] #[.pointer (some ⟨hb, 0, none⟩), .pointer (some ⟨fb, 0, none⟩)] L (wtdH f H) n0 B' FH (WtdM I hb fb (.func (.func gh) pa cb) f) := by
 refine ⟨enters_of Tryz.func46 (by kernel_rfl) rfl, fun W x hI hx => ?_, fun {S W W'} hI hk hS => ?_, fun {W k} hI hk => hh.nd hI.1 hk, fun k hk => ?_⟩
 ·exact (wtd1_any L H f gh n0 B pa cb FH I hb fb hf hh hH nh nf W x hI hx).mono fun e W' h => h
 ·exact ⟨hh.steady hI.1 hk (fun k h => Nat.le_trans hB (hS k h)), hk.heap hI.2.1 (fun h => by have := hS _ h; omega), hk.heap hI.2.2 (fun h => by have := hS _ h; omega)⟩
 ·have := hh.lo k hk; omega

end Go.Proofs.YtdokakhgflljgaaGreat

namespace Go.Proofs.YtdokakhgflljgaaGreat

/-- A heuristic that says 'infinite' only where there is no plan. -/
structure Safe (ops : List Wop) (L : List Nat) (acc : Nat → Bool) (H : Nat → Int) : Prop where
 lo : ∀ x ∈ L, 0 ≤ H x
 low : ∀ x ∈ L, ∀ p y, runOps ops x p = some y → acc y = true → H x < 1000000000

/-- What stays of the search while the arcs of the state s are looked at: those in R are still to do. -/
structure GrI (ops : List Wop) (L : List Nat) (st : Nat) (acc : Nat → Bool) (H : Nat → Int) (D : Nat → Option Int) (par : Nat → Option SArc) (A : List (Int × Int)) (s : Nat) (R : List SArc) : Prop where
 dom : ∀ x d, D x = some d → x ∈ L
 start : D st = some 0 ∧ par st = none
 none_ : ∀ x, D x = none → par x = none
 from_ : ∀ x d, D x = some d → x ≠ st → ∃ a, par x = some a ∧ (⟨a.op, a.price, x⟩ : SArc) ∈ nextG ops L a.to ∧ D a.to = some (d - 1)
 short : ∀ x d, D x = some d → 0 ≤ d ∧ d < (knownB L D : Int)
 key : ∀ z ∈ A, ∃ x : Nat, z = ((x : Int), H x) ∧ ∃ d, D x = some d
 pend : ∀ x d, D x = some d → H x < 1000000000 → ((x : Int), H x) ∈ A ∨ (acc x = false ∧ ∀ a ∈ liveG H (nextG ops L) x, (∃ d, D a.to = some d) ∨ (x = s ∧ a ∈ R))

section
variable {ops : List Wop} {L : List Nat} {st : Nat} {acc : Nat → Bool} {H : Nat → Int} {D : Nat → Option Int} {par : Nat → Option SArc} {A : List (Int × Int)} {s : Nat} {R R' : List SArc}

theorem GrI.init (hn : L.Nodup) (hst : st ∈ L) (acc : Nat → Bool) (A : List (Int × Int)) (hA : (H st < 1000000000 ∧ A = [((st : Int), H st)]) ∨ (¬ H st < 1000000000 ∧ A = [])) : GrI ops L st acc H (putP (fun _ => none) st 0) (fun _ => none) A 0 [] ∧ knownB L (putP (fun _ => none) st 0) = 1 := by
 have hk : knownB L (fun _ => (none : Option Int)) = 0 := by unfold knownB; simp
 have hk1 := knownB_put (L := L) (P := fun _ => (none : Option Int)) (x := st) (v := 0) hn hst rfl
 rw [hk] at hk1
 have only : ∀ x d, putP (fun _ => (none : Option Int)) st 0 x = some d → x = st ∧ d = 0 := fun x d h => by
  unfold putP at h
  split at h
  ·rename_i e; cases h; exact ⟨e, rfl⟩
  ·cases h
 refine ⟨⟨fun x d h => by rw [(only x d h).1]; exact hst, ⟨putP_same _ _ _, rfl⟩, fun _ _ => rfl, fun x d h hne => absurd (only x d h).1 hne, fun x d h => by rw [hk1, (only x d h).2]; decide, fun z hz => ?_, fun x d h hH => ?_⟩, hk1⟩
 ·rcases hA with ⟨_, rfl⟩ | ⟨_, rfl⟩
  ·rw [List.mem_singleton] at hz
   exact ⟨st, hz, 0, putP_same _ _ _⟩
  ·cases hz
 ·rw [(only x d h).1] at hH ⊢
  rcases hA with ⟨_, rfl⟩ | ⟨h1, _⟩
  ·exact .inl (by simp)
  ·exact absurd hH h1

theorem GrI.anyS {s' : Nat} (h : GrI ops L st acc H D par A s []) : GrI ops L st acc H D par A s' [] :=
 ⟨h.dom, h.start, h.none_, h.from_, h.short, h.key, fun x d hd hH => (h.pend x d hd hH).imp (fun h => h) (fun ⟨h1, h2⟩ => ⟨h1, fun a ha => (h2 a ha).imp (fun h => h) (fun h => by simp at h)⟩)⟩
theorem GrI.more (h : GrI ops L st acc H D par A s R) (hR : ∀ b ∈ R, b ∈ R') : GrI ops L st acc H D par A s R' :=
 ⟨h.dom, h.start, h.none_, h.from_, h.short, h.key, fun x d hd hH => (h.pend x d hd hH).imp (fun h => h) (fun ⟨h1, h2⟩ => ⟨h1, fun a ha => (h2 a ha).imp (fun h => h) (fun h => ⟨h.1, hR a h.2⟩)⟩)⟩
/-- The arc of y comes up. -/
theorem GrI.next (h : GrI ops L st acc H D par A s R) {l : List Stp} (ht : ToDo H ops s l R) (y : Stp) :
  ∃ R', GrI ops L st acc H D par A s (arcOf y :: R') ∧ ToDo H ops s (l ++ [y]) R' := by
 classical
 refine ⟨R.filter fun b => decide (b ≠ arcOf y), h.more (fun b hb => ?_), fun a ha => ?_⟩
 ·by_cases e : b = arcOf y
  ·rw [e]; simp
  ·exact List.mem_cons_of_mem _ (List.mem_filter.2 ⟨hb, by simpa using e⟩)
 ·obtain ⟨h1, h2⟩ := List.mem_filter.1 ha
  obtain ⟨g1, e, g2, g3, g4⟩ := ht a h1
  refine ⟨g1, e, g2, g3, fun hm => ?_⟩
  rcases List.mem_append.1 hm with hm | hm
  ·exact g4 hm
  ·rw [List.mem_singleton] at hm; subst hm
   have : a ≠ arcOf e := by simpa using h2
   exact this g3
/-- It leads to a state that was seen. -/
theorem GrI.skip {a : SArc} (h : GrI ops L st acc H D par A s (a :: R)) {q : Int} (hq : D a.to = some q) : GrI ops L st acc H D par A s R :=
 ⟨h.dom, h.start, h.none_, h.from_, h.short, h.key, fun x d hd hH => (h.pend x d hd hH).imp (fun h => h) (fun ⟨h1, h2⟩ => ⟨h1, fun b hb => by
  rcases h2 b hb with h3 | ⟨h3, h4⟩
  ·exact .inl h3
  ·rcases List.mem_cons.1 h4 with rfl | h4
   ·exact .inl ⟨q, hq⟩
   ·exact .inr ⟨h3, h4⟩⟩)⟩
/-- It leads to a new state. -/
theorem GrI.add {a : SArc} (h : GrI ops L st acc H D par A s (a :: R)) (hn : L.Nodup) (hsh : Shut ops L) (ha : a ∈ liveG H (nextG ops L) s) {d : Int} (hd : D s = some d) (hq : D a.to = none) :
  GrI ops L st acc H (putP D a.to (d + 1)) (putP par a.to ⟨a.op, a.price, s⟩) (putA A (a.to : Int) (H a.to)) s R ∧ knownB L (putP D a.to (d + 1)) = knownB L D + 1 := by
 have haL := live_in hsh _ _ ha
 have hk := knownB_put (v := d + 1) hn haL hq
 have hne : s ≠ a.to := fun e => by rw [← e, hd] at hq; cases hq
 have hst : st ≠ a.to := fun e => by rw [← e, h.start.1] at hq; cases hq
 have old : ∀ x d', D x = some d' → x ≠ a.to := fun x d' hx e => by rw [e, hq] at hx; cases hx
 have up : ∀ x d', D x = some d' → putP D a.to (d + 1) x = some d' := fun x d' hx => by rw [putP_other _ _ (old x d' hx)]; exact hx
 refine ⟨⟨fun x d' hx => ?_, ⟨up _ _ h.start.1, by rw [putP_other _ _ hst]; exact h.start.2⟩, fun x hx => ?_, fun x d' hx hxs => ?_, fun x d' hx => ?_, fun z hz => ?_, fun x d' hx hH => ?_⟩, hk⟩
 ·by_cases e : x = a.to
  ·rw [e]; exact haL
  ·rw [putP_other _ _ e] at hx; exact h.dom x d' hx
 ·by_cases e : x = a.to
  ·rw [e, putP_same] at hx; cases hx
  ·rw [putP_other _ _ e] at hx ⊢; exact h.none_ x hx
 ·by_cases e : x = a.to
  ·rw [e, putP_same] at hx; cases hx
   exact ⟨⟨a.op, a.price, s⟩, by rw [e, putP_same], by rw [e]; exact (List.mem_filter.1 ha).1, up _ _ (by rw [hd]; congr 1; omega)⟩
  ·rw [putP_other _ _ e] at hx ⊢
   obtain ⟨b, h1, h2, h3⟩ := h.from_ x d' hx hxs
   exact ⟨b, h1, h2, up _ _ h3⟩
 ·rw [hk]
  by_cases e : x = a.to
  ·rw [e, putP_same] at hx; cases hx
   have := h.short s d hd
   omega
  ·rw [putP_other _ _ e] at hx
   have := h.short x d' hx
   omega
 ·rcases mem_putA.1 hz with ⟨h1, _⟩ | h1
  ·obtain ⟨x, h2, d', h3⟩ := h.key z h1
   exact ⟨x, h2, d', up _ _ h3⟩
  ·exact ⟨a.to, h1, d + 1, putP_same _ _ _⟩
 ·by_cases e : x = a.to
  ·rw [e]; exact .inl (mem_putA.2 (.inr rfl))
  ·rw [putP_other _ _ e] at hx
   rcases h.pend x d' hx hH with h1 | ⟨h1, h2⟩
   ·exact .inl (mem_putA.2 (.inl ⟨h1, by simp; omega⟩))
   ·refine .inr ⟨h1, fun b hb => ?_⟩
    rcases h2 b hb with ⟨d2, h3⟩ | ⟨h3, h4⟩
    ·exact .inl ⟨d2, up _ _ h3⟩
    ·rcases List.mem_cons.1 h4 with rfl | h4
     ·exact .inl ⟨d + 1, putP_same _ _ _⟩
     ·exact .inr ⟨h3, h4⟩
/-- A state is taken that is no goal. -/
theorem GrI.take (h : GrI ops L st acc H D par A s []) {x : Nat} (ha : acc x = false) :
  GrI ops L st acc H D par (A.filter fun z => z.1 != (x : Int)) x (liveG H (nextG ops L) x) :=
 ⟨h.dom, h.start, h.none_, h.from_, h.short, fun z hz => h.key z (List.mem_filter.1 hz).1, fun y d hd hH => by
  by_cases e : y = x
  ·exact .inr ⟨by rw [e]; exact ha, fun a haa => .inr ⟨e, by rw [← e]; exact haa⟩⟩
  ·rcases h.pend y d hd hH with h1 | ⟨h1, h2⟩
   ·exact .inl (List.mem_filter.2 ⟨h1, by simp; omega⟩)
   ·exact .inr ⟨h1, fun a haa => (h2 a haa).imp (fun h => h) (fun h => by simp at h)⟩⟩
/-- Nothing waits any more: there is no plan. -/
theorem GrI.none (hsh : Shut ops L) (sf : Safe ops L acc H) (h : GrI ops L st acc H D par [] s []) : ∀ p y, runOps ops st p = some y → acc y = false := by
 have key : ∀ (p : List Nat) (x y : Nat) (d : Int), D x = some d → runOps ops x p = some y → acc y = true → False := by
  intro p
  induction p with
  | nil =>
   intro x y d hd hr hy
   cases hr
   rcases h.pend x d hd (sf.low x (h.dom x d hd) [] x rfl hy) with h1 | ⟨h1, _⟩
   ·cases h1
   ·rw [h1] at hy; cases hy
  | cons a p ih =>
   intro x y d hd hr hy
   have hxL := h.dom x d hd
   rcases h.pend x d hd (sf.low x hxL (a :: p) y hr hy) with h1 | ⟨_, h2⟩
   ·cases h1
   ·rw [runOps] at hr
    cases ho : ops[a]? with
    | none => rw [ho] at hr; cases hr
    | some o =>
     rw [ho] at hr; simp only at hr
     by_cases hc : o.can x = true
     ·rw [if_pos hc] at hr
      have hnL := hsh.2 x hxL o (List.mem_of_getElem? ho) hc
      have hlive := sf.low _ hnL p y hr hy
      rcases h2 _ (List.mem_filter.2 ⟨nextG_all x o a hxL ho hc, by simpa using hlive⟩) with ⟨d', h3⟩ | ⟨_, h3⟩
      ·exact ih _ y d' h3 hr hy
      ·cases h3
     ·rw [if_neg hc] at hr; cases hr
 intro p y hr
 cases hy : acc y with
 | false => rfl
 | true => exact (key p st y 0 h.start.1 hr hy).elim
/-- Every seen state has a way back to the start, which is a plan to it. -/
theorem GrI.back (h : GrI ops L st acc H D par A s R) : ∀ (n : Nat) (x : Nat) (d : Int), D x = some d → d = (n : Int) → ∃ out, Chain par x out st ∧ out.length = n ∧ runOps ops st out.reverse = some x
 | n, x, d, hd, hn => by
  by_cases e : x = st
  ·subst e
   rw [h.start.1] at hd; cases hd
   obtain rfl : n = 0 := by omega
   exact ⟨[], .nil h.start.2, rfl, rfl⟩
  ·obtain ⟨a, h1, h2, h3⟩ := h.from_ x d hd e
   have h0 := (h.short _ _ h3).1
   cases n with
   | zero => omega
   | succ n =>
    obtain ⟨out, g1, g2, g3⟩ := GrI.back h n a.to (d - 1) h3 (by omega)
    obtain ⟨o, k1, k2, k3, _⟩ := nextG_only _ _ h2
    refine ⟨a.op :: out, .cons h1 g1, by simp [g2], ?_⟩
    simp only at k1 k3
    rw [List.reverse_cons, runOps_append, g3]
    simp [runOps, k1, k2, k3]
theorem GrI.found (h : GrI ops L st acc H D par A s R) {x : Nat} {d : Int} (hd : D x = some d) : ∃ out, Chain par x out st ∧ out.length ≤ L.length ∧ runOps ops st out.reverse = some x := by
 have h0 := h.short x d hd
 obtain ⟨out, h1, h2, h3⟩ := h.back d.toNat x d hd (by omega)
 have := knownB_le L D
 exact ⟨out, h1, by omega, h3⟩
end

/-- What first hands back. -/
def GrPost (ops : List Wop) (L : List Nat) (st : Nat) (acc : Nat → Bool) (w : World) (FH : Nat → Prop) (e : Ending) (w' : World) : Prop := Keeps FH w w' ∧ ∃ n : Nat, n ≤ L.length ∧
 (((∀ p y, runOps ops st p = some y → acc y = false) ∧ e = .returned (.tuple #[.slice none 0 0, .int .i64 (n : Int), .bool false])) ∨
   (∃ (q : List Nat) (y : Nat) (v : Value), e = .returned (.tuple #[v, .int .i64 (n : Int), .bool true]) ∧ w'.ownsRow w.heap.size 3 1 v q.length ((intsP q).map (Value.int .i64)) ∧ q.length ≤ L.length ∧ runOps ops st q = some y ∧ acc y = true))

end Go.Proofs.YtdokakhgflljgaaGreat
