/- astar.Best: best-first search with a heuristic. No condition beyond what each theorem says. -/
import Derived.Test.YtkjmgafnaddhkaaGreatI6
import Derived.Sort.LoopGhostIn

namespace Go.Proofs.YtkjmgafnaddhkaaGreat
open Go.RowKit Go.Shelf
attribute [local go_sem] Oper.semAt_some

set_option maxRecDepth 100000 in
theorem aprice_any (w : World) (c : Int) (hc : 0 ≤ c ∧ c ≤ 1000000) : Calls Tryz.prog 98 #[.int .i64 c] w fun e w' => e = .returned (.int .i64 (4096 * c + 1)) ∧ w = w' := by
  go_enter Tryz.func98, Tryz.ntmps98
  go_wp2_with fail
  go_ret
  exact ⟨by simp [Int.mul_comm], rfl⟩

set_option maxRecDepth 100000 in
set_option maxHeartbeats 4000000 in
theorem abest_in (w00 w : World) (b st g0 base : Nat) (v : Value) (ops : List Wop) (L : List Nat) (H : Nat → Int) (gh : Nat) (pa cb : Array Value) (FH : Nat → Prop) (I : World → Prop)
    (hw : WordsAt w00 base b st g0 v ops) (k00 : Keeps (fun _ => False) w00 w) (hops : WopsOk ops) (hmany : ops.length ≤ 40) (hg0 : g0 < 4294967296) (hsh : Shut ops L) (hfew : L.length ≤ 2000) (hL32 : ∀ x ∈ L, x < 4294967296) (hcost : ∀ o ∈ ops, 0 ≤ o.cost ∧ o.cost ≤ 100) (hst : st ∈ L)
    (hh : Heur gh pa cb L H w00.heap.size w.heap.size FH I) (hI : I w) (ad : Adm ops L (goalB g0) H) :
    CallsIn Fence.wide 9 Tryz.prog 60 #[.iface 71 (.pointer (some ⟨b, 0, none⟩)), .func (.func gh) pa cb] w (AstPost ops L st (goalB g0) H w FH) := by
  have hmm := @run_makeMap Tryz.prog
  have mS := method_Start ⟨b, 0, none⟩
  have mT := method_Steps ⟨b, 0, none⟩
  have mG := method_Goal ⟨b, 0, none⟩
  have eg := hh.enters
  have HW := Lib.hid hw; have K00 := Lib.hid k00; have HSH := Lib.hid hsh; have HL32 := Lib.hid hL32; have HCO := Lib.hid hcost; have HST := Lib.hid hst; have HH := Lib.hid hh; have HI := Lib.hid hI; have AD := Lib.hid ad
  have hz00 := k00.size
  clear hw k00 hsh hL32 hcost hst hh hI ad
  refine callsIn_of_wp_marks Tryz.func60 rfl trivial ?_ rfl
  simp only [Tryz.ntmps60, List.size_toArray, List.length_cons, List.length_nil, Nat.reduceAdd, Nat.reduceSub, Array.replicate_succ, Array.replicate_zero, List.push_toArray, List.append_toArray, List.nil_append, List.cons_append]
  have kA := (Keeps.refl (fun _ => False) w).alloc (.cells #[.func (.func gh) pa cb] 77)
  have HI1 := Lib.hid (HH.out.steady HI.out kA (fun _ h => h.elim))
  have HX3 := Lib.hid (Boxed.new w 77 (.func (.func gh) pa cb))
  have KA := Lib.hid kA
  have h0 := (AD.out.lo st HST.out)
  clear kA
  gi_wp2
  refine ⟨trivial, ?_⟩
  refine (callsIn_wide.2 (start_any _ _ _ _ _ _ _ (HW.out.past (K00.out.trans KA.out)))).mono ?_; rintro e w1 ⟨rfl, rfl⟩
  have x3c : (w.alloc (.cells #[.func (.func gh) pa cb] 77)).cell? ⟨w.heap.size, 0, none⟩ = some (.func (.func gh) pa cb) := HX3.out.cell
  have x3l : w.heap.size < (w.alloc (.cells #[.func (.func gh) pa cb] 77)).heap.size := HX3.out.lt
  gi_wp2
  refine ⟨trivial, ?_⟩
  refine (callsIn_wide.2 (HH.out.answers _ st HI1.out HST.out)).mono ?_; rintro e w2 ⟨rfl, hI2, hk2⟩
  have no : ∀ k, w.heap.size ≤ k → ¬ FH k := fun k hk h => by have := (HH.out.lo k h).2; omega
  have X3 := Lib.hid (hk2.heap HX3.out (no _ (Nat.le_refl _)))
  have K2 := Lib.hid ((KA.out.mono (fun _ _ h => h.elim)).trans hk2)
  have HI2 := Lib.hid hI2
  have NO := Lib.hid no
  clear hI2 hk2 no x3c x3l HI1 HX3 KA
  by_cases hd : 1000000000 ≤ H st
  · have HD := Lib.hid (ast_dead AD.out HST.out hd)
    gi_wp2
    refine leaves_marks (Marks.nil w2 w.heap.size) (fun W' hk => ?_)
    exact ⟨.tuple #[.slice none 0 0, .int .i64 0, .bool false], by simp [results, Tryz.results60, go_sem], K2.out.trans' hk (fun i hi => .inr hi.1), 0, Nat.zero_le _, .inl ⟨HD.out, rfl⟩⟩
  · have m1 := FMap.made w2 intV
    obtain ⟨W4, hr4, hm4, hk4⟩ := m1.put (P := Tryz.prog) Tryz.underlying80 Tryz.underlying82 st 0
    have m2 := FMap.made (W4.alloc (.cells #[.map (some w2.heap.size)] 80)) backV
    rw [World.size_alloc] at m2
    obtain ⟨W5, hr5, hm5, hk5⟩ := m2.put (P := Tryz.prog) Tryz.underlying81 Tryz.underlying82 st ⟨0, 0, st⟩
    unfold intV at hr4
    replace hr5 : (Instr.mapUpdate 81 (.map (some (W4.heap.size + 1))) (.int .u32 (st : Int)) (.agg #[.int .u32 (st : Int), .int .i64 0])).run Tryz.prog ((W4.alloc (.cells #[.map (some w2.heap.size)] 80)).alloc (.map #[] 0)) = .ok () W5 := hr5
    have HP1 := Lib.hid (And.intro hm4 (And.intro hk4 (And.intro hm5 hk5)))
    clear m1 m2 hm4 hk4 hm5 hk5
    gi_wp2
    refine ⟨trivial, ?_⟩
    refine (callsIn_wide.2 (U.new_any _)).mono ?_; rintro e w7 ⟨rfl, hq7, hk7⟩
    obtain ⟨hm4, hk4, hm5, hk5⟩ := HP1.out
    have z4 := hk4.size
    rw [World.size_alloc] at z4
    have z5 := hk5.size
    rw [World.size_alloc, World.size_alloc] at z5
    have kB := (Keeps.refl (fun _ => False) W4).alloc (.cells #[.map (some w2.heap.size)] 80)
    have kC := (Keeps.refl (fun _ => False) (W4.alloc (.cells #[.map (some w2.heap.size)] 80))).alloc (.map #[] 0)
    have kD := (Keeps.refl (fun _ => False) W5).alloc (.cells #[.map (some (W4.heap.size + 1))] 81)
    have kD7 := kD.trans hk7
    have z7 := hk7.size
    rw [World.size_alloc] at z7
    rw [World.size_alloc] at hq7 ⊢
    have kE := (Keeps.refl (fun _ => False) w7).alloc (.cells #[.pointer (some ⟨W5.heap.size + 1 + 1, 0, none⟩)] 138)
    have k24 : Keeps (fun _ => False) w2 W4 := ((Keeps.refl (fun _ => False) w2).alloc (.map #[] 0)).trans' hk4 (fun i e => .inr (by omega))
    have k45 : Keeps (fun _ => False) W4 W5 := (kB.trans kC).trans' hk5 (fun i e => .inr (by omega))
    have k57 := kD7.trans kE
    have k27 := k24.trans (k45.trans k57)
    have hzw := K2.out.size
    have n8 : Boxed (W4.alloc (.cells #[.map (some w2.heap.size)] 80)) W4.heap.size 80 (.map (some w2.heap.size)) := Boxed.new W4 _ _
    have n8' := hk5.heap (kC.heap n8 (fun h => h)) (show ¬ W4.heap.size = W4.heap.size + 1 by omega)
    have HPR := Lib.hid (show PreM w FH I (.func (.func gh) pa cb) w.heap.size W4.heap.size W5.heap.size w7.heap.size w2.heap.size (W4.heap.size + 1) (W5.heap.size + 1 + 1) (startP [st]) (parF st (fun _ => none)) [] 0 (fun k => W5.heap.size + 1 ≤ k ∧ k < w7.heap.size) (w7.alloc (.cells #[.pointer (some ⟨W5.heap.size + 1 + 1, 0, none⟩)] 138)) from by
      have e1 : putP (fun _ => none) st (0 : Int) = startP [st] := by funext y; unfold putP startP; simp
      refine ⟨K2.out.trans (k27.mono (fun _ _ h => h.elim)), HH.out.steady HI2.out k27 (fun _ h => h.elim), ?_, ?_, (U.QRep.mono hq7 (fun k h1 h2 => ⟨h2, h1⟩)).keeps kE (fun _ _ h => h), k27.heap X3.out (fun h => h), k57.heap n8' (fun h => h), (hk7.trans kE).heap (Boxed.new W5 _ _) (fun h => h), Boxed.new w7 _ _, fun k hk => ?_, fun k hk => ?_, by omega, by omega, by omega, by omega, by omega, by omega, by omega⟩
      · rw [← e1]; exact (hm4.keeps k45 (fun h => h)).keeps k57 (fun h => h)
      · rw [← parF_start]; exact hm5.keeps k57 (fun h => h)
      · exact ⟨by omega, by simp; omega, by omega, by omega⟩
      · exact ⟨by omega, by omega, by omega, by omega⟩)
    clear hq7 hk7 hm4 hk4 hm5 hk5 z4 z5 kB kC kD kD7 kE k24 k45 k57 k27 n8 n8' HP1 K2 HI2 X3 hr4 hr5
    generalize w2.heap.size = mp at HPR hzw ⊢
    gi_wp2
    obtain ⟨F0, hF0⟩ : ∃ F0 : Nat → Prop, F0 = (fun k => W5.heap.size + 1 ≤ k ∧ k < w7.heap.size) := ⟨_, rfl⟩
    rw [← hF0] at HPR
    clear hF0
    generalize (w7.alloc (.cells #[.pointer (some ⟨W5.heap.size + 1 + 1, 0, none⟩)] 138)) = w8 at HPR ⊢
    generalize W5.heap.size + 1 + 1 = Q at HPR ⊢
    generalize W4.heap.size + 1 = mr at HPR ⊢
    generalize W4.heap.size = b8 at HPR ⊢
    generalize W5.heap.size = b9 at HPR ⊢
    generalize w7.heap.size = b10 at HPR ⊢
    have hmix : Tryz.prog.follows .mixedOrders = true := by kernel_rfl
    have HP9 := Lib.hid (HPR.out.keeps0 HH.out ((Keeps.refl (fun _ => False) w8).drew))
    have HS0 : Hid (w8.drew.cell? ⟨b10, 0, none⟩ = some (.pointer (some ⟨Q, 0, none⟩)) ∧ w8.drew.cell? ⟨w.heap.size, 0, none⟩ = some (.func (.func gh) pa cb)) := ⟨HP9.out.x10.cell, HP9.out.x3.cell⟩
    have h1m : H st < 1000000000 := by omega
    have hw0 : IntKind.i64.wrap (4096 * H st) = 4096 * H st := IntWalk.i64_in _ (by omega)
    clear HPR
    obtain ⟨s10, s3⟩ := HS0.out
    have l10 := HP9.out.x10.lt
    have l3 := HP9.out.x3.lt
    refine wpIn_wide.2 ?_
    go_region_held3 (fun W => W.cell? ⟨b10, 0, none⟩ = some (.pointer (some ⟨Q, 0, none⟩)) ∧ W.cell? ⟨w.heap.size, 0, none⟩ = some (.func (.func gh) pa cb)) (go_keep)
      (first
        | (refine (HH.out.answers _ st HP9.out.hI HST.out).mono ?_; rintro e w9 ⟨rfl, hI9, hk9⟩; have HP10 := Lib.hid (HP9.out.asked HH.out hk9 hI9); have s10b := HP10.out.x10.cell; have s3b := HP10.out.x3.cell; clear hI9 hk9)
        | (go_at_call 94; refine (U.set_both _ _ _ _ _ HP10.out.que (st : Int) (4096 * H st) (by omega) (by simp)).mono ?_; rintro e w11 ⟨rfl, F2, hq2, hF2, hk2⟩; have HP11 := Lib.hid (HP10.out.queued HH.out hk2 hq2 hF2); have s10c := HP11.out.x10.cell; have s3c := HP11.out.x3.cell; clear hq2 hF2 hk2))
    clear HS0 s10 s3 s10b s3b s10c s3c l10 l3 HP9 HP10
    gi_wp2
    have kM := (Keeps.refl (fun _ => False) w11).alloc (.map #[] 0)
    have HB0 := Lib.hid ((HP11.out.made HH.out).live)
    have hlift : putA [] (st : Int) (4096 * H st) = liftA H (startA [st]) := by
      have h1 : startA [st] = putA [] (st : Int) 0 := rfl
      rw [h1, liftA_put, Int.zero_add]; rfl
    rw [hlift] at HB0
    have HA0 := Lib.hid (AstI.start (ops := ops) (H := H) HST.out (goalB g0))
    have hw1 := startW L [st] 1000000000
    generalize w11.heap.size = md at HB0 ⊢
    generalize (w11.alloc (.map #[] 0)) = w12 at HB0 ⊢
    clear kM hlift HP11 hw0 h1m
    refine wpIn_loop_ghost (fun n a' wr => ∃ (ds : List Deferred) (P : Nat → Option Int) (par : Nat → Option SArc) (dn : Nat → Option Unit) (A : List (Int × Int)) (t : Int) (F : Nat → Prop), BestM w FH I (.func (.func gh) pa cb) w.heap.size b8 b9 b10 mp mr md Q P (parF st par) dn (liftA H A) t F wr ∧ AstI ops L st (goalB g0) H P par A 0 [] dn ∧ (∀ x u, dn x = some u → x ∈ L) ∧
        0 ≤ t ∧ t + (weightB L 1000000000 P : Int) ≤ 2000000002000 ∧ n = 2 * weightB L 1000000000 P + A.length ∧ (∀ k, F k → wr.heap[k]? ≠ some (.deferred (some []))) ∧ Marks ds wr w.heap.size ∧
        ∃ u : Nat → Value, a' = { tmps := #[.iface 71 (.pointer (some ⟨b, 0, none⟩)), .func (.func gh) pa cb, u 2, .pointer (some ⟨w.heap.size, 0, none⟩), .slice none 0 0, .int .i64 0, .bool false, .int .u32 (st : Int), .pointer (some ⟨b8, 0, none⟩), .pointer (some ⟨b9, 0, none⟩), .pointer (some ⟨b10, 0, none⟩), .map (some md), u 12, u 13, u 14, u 15, u 16, u 17, u 18, u 19, u 20, u 21, u 22, u 23, u 24, u 25, u 26, u 27, u 28, u 29, u 30, u 31, u 32, u 33, u 34, u 35, u 36, u 37, u 38, u 39, u 40, u 41, u 42, u 43, u 44, u 45, u 46, u 47, u 48, u 49, u 50, u 51, u 52, u 53, u 54, u 55, u 56, u 57, u 58, u 59, u 60, u 61, u 62, u 63, u 64, u 65, u 66, u 67, u 68, u 69, u 70, u 71, u 72, u 73, u 74, u 75, u 76, u 77, u 78, u 79, u 80, u 81, u 82, u 83, u 84, u 85, u 86, u 87, u 88, u 89, u 90, u 91, u 92, u 93, u 94, u 95, u 96, u 97, u 98, u 99, u 100, u 101, u 102, u 103, u 104, u 105, u 106, u 107, u 108, u 109, u 110, u 111, u 112, u 113, u 114, u 115, u 116, u 117], defers := ds }) (2 * weightB L 1000000000 (startP [st]) + (startA [st]).length) ?start2 ?round2
    case start2 => exact ⟨[], startP [st], fun _ => none, fun _ => none, startA [st], _, _, HB0.out, HA0.out, (by intro x u h; cases h), by omega, by omega, rfl, fun k hk => hk.2.2, Marks.nil _ _, ex_fnD rfl⟩
    case round2 =>
      rintro n a wr ⟨ds, P, par, dn, A, t, F, hm, ha, hdn, ht0, htw, hn, hnd, hmk, u, rfl⟩
      have HM := Lib.hid hm; have HA := Lib.hid ha; have HDN := Lib.hid hdn; have HND := Lib.hid hnd; have HMK := Lib.hid hmk
      clear hm ha hdn hnd hmk HB0 HA0 hw1
      have x10c := HM.out.x10.cell
      have x10l := HM.out.x10.lt
      gi_wp2
      refine ⟨trivial, ?_⟩
      refine (callsIn_wide.2 (U.qlen_any wr Q (liftA H A) t F HM.out.m.q)).mono ?_; rintro e w2 ⟨rfl, rfl⟩
      rw [liftA_len]
      obtain ⟨nd, hnl, hlen⟩ := HM.out.m.done.len HDN.out (P := Tryz.prog) Tryz.underlying154 3
      by_cases hA : A = []
      · subst hA
        have HE := Lib.hid (ast_none HSH.out AD.out HA.out)
        gi_wp2
        refine leaves_marks HMK.out (fun W' hk => ?_)
        exact ⟨.tuple #[.slice none 0 0, .int .i64 (nd : Int), .bool false], by simp [results, Tryz.results60, go_sem], HM.out.keep.trans' hk (fun i hi => .inr hi.1), nd, hnl, .inl ⟨HE.out, rfl⟩⟩
      · have hpos : 0 < A.length := List.length_pos_iff.2 hA
        have hposi : (0 : Int) < (A.length : Int) := by omega
        cases hfm : U.firstMin (liftA H A) with
        | none =>
          have := U.firstMin_none.1 hfm
          have := congrArg List.length this
          rw [liftA_len] at this
          simp at this; exact absurd this hA
        | some z =>
          obtain ⟨⟨s', p⟩, hzA, hz⟩ := List.mem_map.1 (U.firstMin_mem hfm)
          obtain ⟨s, hs', hps⟩ := HA.out.i.key _ hzA
          simp only at hs' hps
          subst hs'
          simp only [Int.toNat_natCast] at hz
          subst hz
          have hsL := HA.out.i.dom s p hps
          have HFM := Lib.hid hfm; have HPS := Lib.hid hps; have HSL := Lib.hid hsL; have HZA := Lib.hid hzA
          clear hA hfm hps hsL hzA
          gi_wp2
          refine ⟨trivial, ?_⟩
          refine (callsIn_wide.2 (U.take_some wr Q (liftA H A) t F HM.out.m.q (s : Int) (p + 4096 * H s) HFM.out)).mono ?_; rintro e w3 ⟨rfl, hq3, hk3⟩
          have hm3 := (HM.out.queued HH.out hk3 hq3 (fun k h => .inl h)).clean
          rw [← liftA_drop] at hm3
          have hkd3 := HMK.out.keeps (KeepsD.of hk3 (fun k hk => HND.out k hk))
          obtain ⟨F3, hF3⟩ : ∃ F3 : Nat → Prop, F3 = (fun k => (F k ∧ k < w3.heap.size) ∧ k < w3.heap.size ∧ Clean w3 k) := ⟨_, rfl⟩
          have hnd3 : ∀ k, F3 k → Clean w3 k := fun k hk => by rw [hF3] at hk; exact hk.2.2
          rw [← hF3] at hm3
          have kS := (Keeps.refl (fun _ => False) w3).alloc (.cells #[.int .u32 (s : Int)] 82)
          have HM4 := Lib.hid (hm3.keeps0 HH.out kS)
          have HMK4 := Lib.hid (hkd3.keeps (KeepsD.of0 kS))
          have HND4 := Lib.hid (show ∀ k, F3 k → Clean (w3.alloc (.cells #[.int .u32 (s : Int)] 82)) k from fun k hk => (hnd3 k hk).keeps kS (hm3.m.lF k hk).2.1 (fun h => h))
          have HBX := Lib.hid (heap_alloc_new w3 (.cells #[.int .u32 (s : Int)] 82))
          have hb12 : w.heap.size ≤ w3.heap.size := hm3.keep.size
          have HFX := Lib.hid (show ∀ k, F3 k → k < w3.heap.size from fun k hk => (hm3.m.lF k hk).2.1)
          have h3b := hm3.x3.lt; have h8b := hm3.x8.lt; have h9b := hm3.x9.lt; have h10b := hm3.x10.lt
          have hpb := hm3.m.price.lt; have hrb := hm3.m.par_.lt; have hdb := hm3.m.done.lt
          clear hq3 hk3 hm3 hkd3 hF3 hnd3 kS hlen HM HMK HND
          clear x10c x10l
          gi_wp2
          refine ⟨trivial, ?_⟩
          have k04 : Keeps (fun _ => False) w00 (w3.alloc (.cells #[.int .u32 (s : Int)] 82)) := K00.out.trans' HM4.out.keep (fun i hi => .inr (HH.out.lo i hi).1)
          refine (callsIn_wide.2 (goal_any _ _ _ _ _ _ _ _ (HW.out.past k04))).mono ?_; rintro e w5 ⟨rfl, nq, rfl⟩
          rw [goal_bits (HL32.out s HSL.out) hg0]
          have kq := (Keeps.refl (fun _ => False) (w3.alloc (.cells #[.int .u32 (s : Int)] 82))).drewN nq
          have HM5 := Lib.hid (HM4.out.keeps0 HH.out kq); have HMK5 := Lib.hid (HMK4.out.keeps (KeepsD.of0 kq)); have HBX5 := Lib.hid (kq.heap HBX.out (fun h => h))
          have HND5 := Lib.hid (show ∀ k, F3 k → Clean ((w3.alloc (.cells #[.int .u32 (s : Int)] 82)).drewN nq) k from HND4.out)
          have hz5 : w3.heap.size < ((w3.alloc (.cells #[.int .u32 (s : Int)] 82)).drewN nq).heap.size := by
            have := kq.size
            rw [World.size_alloc] at this; omega
          have K05 := Lib.hid (k04.trans kq)
          clear kq HM4 HMK4 HBX HND4 k04
          generalize (w3.alloc (.cells #[.int .u32 (s : Int)] 82)).drewN nq = w5 at HM5 HMK5 HBX5 HND5 hz5 K05 ⊢
          generalize w3.heap.size = b12 at HBX5 HFX hb12 h3b h8b h9b h10b hpb hrb hdb hz5 ⊢
          have x9c := HM5.out.x9.cell
          have x12c : w5.cell? ⟨b12, 0, none⟩ = some (.int .u32 (s : Int)) := by rw [cell_of_blk HBX5.out]; rfl
          have x9l := HM5.out.x9.lt
          obtain ⟨nd5, hnl5, hlen5⟩ := HM5.out.m.done.len HDN.out (P := Tryz.prog) Tryz.underlying154 3
          cases hacc : goalB g0 s with
          | true =>
            obtain ⟨p', out, hp', hch, hol, hrun, hwn, hle⟩ := ast_found HSH.out HCO.out AD.out HA.out HFM.out hacc
            have hps0 := (HA.out.i.start st (List.mem_singleton.2 rfl)).2
            have HRS := Lib.hid (And.intro hrun (And.intro hwn hle))
            have hp0 := (HA.out.i.lo s p' hp').1
            have HEX := Lib.hid (exp_found HSH.out HCO.out AD.out HA.out HFM.out hacc hp' (by have h1 := (HA.out.i.lo s p' hp').2; have h2 := knownB_le L P; omega) hrun hacc hwn)
            have HCH := Lib.hid hch
            clear hch hrun hwn hle hp' hlen5
            gi_wp2
            refine ⟨trivial, ?_⟩
            refine (callsIn_wide.2 (pathC_any w5 mr st s par (parF st par) out HM5.out.m.par_ (parF_of hps0) hps0 HCH.out (by omega))).mono ?_; rintro e w8 ⟨v8, rfl, hown8, hk8⟩
            have HM8 := Lib.hid (HM5.out.keeps0 HH.out hk8)
            have hlen8 := HM8.out.m.done.lenN HSH.out.1 HDN.out (P := Tryz.prog) Tryz.underlying154 3
            obtain ⟨nd8, hnd8⟩ : ∃ nd8, (L.filter fun x => (dn x).isSome).length = nd8 := ⟨_, rfl⟩
            rw [hnd8] at hlen8
            have HN8 := Lib.hid hnd8
            have hnl8 : nd8 ≤ L.length := by rw [← hnd8]; exact List.length_filter_le _ _
            clear hnd8
            have HO8 := Lib.hid hown8
            have HMK8 := Lib.hid (HMK5.out.keeps (KeepsD.of0 hk8))
            clear hown8 hk8 x9c x12c
            gi_wp2
            refine leaves_marks HMK8.out (fun W' hk => ?_)
            exact ⟨.tuple #[v8, .int .i64 (nd8 : Int), .bool true], by simp [results, Tryz.results60, go_sem], HM8.out.keep.trans' hk (fun i hi => .inr hi.1), nd8, hnl8, .inr ⟨out.reverse, s, p', v8, rfl, by
              rw [List.length_reverse]
              exact ownsRow_mono (hk.ownsRow HO8.out (fun k hk' hs => row_not_deferred HO8.out k hk' hs.2)) HM5.out.keep.size, by rw [List.length_reverse]; exact hol, HRS.out.1, hacc, HRS.out.2.1, hp0, HRS.out.2.2, fun x => (dn x).isSome, HN8.out.symm, HEX.out⟩⟩
          | false =>
            obtain ⟨W6, hr6, hd6, hk6⟩ := HM5.out.m.done.put (P := Tryz.prog) Tryz.underlying154 Tryz.underlying82 s ()
            unfold unitV at hr6
            have HM6 := Lib.hid (HM5.out.doned HH.out hk6 hd6)
            have hmd := HM5.out.nd.2.2
            have HMK6 := Lib.hid (HMK5.out.keeps (KeepsD.of hk6 (fun k hk => by rw [hk]; exact hmd)))
            have hneb : b12 ≠ md := fun e => HM5.out.m.done.ne_cells HBX5.out e.symm
            have HBX6 := Lib.hid (hk6.heap HBX5.out (fun h => hneb h))
            have HND6 := Lib.hid (show ∀ k, F3 k → Clean W6 k from fun k hk => (HND5.out k hk).keeps hk6 (HM5.out.m.lF k hk).2.1 (HM5.out.m.lF k hk).2.2.2.2)
            have x12d : W6.cell? ⟨b12, 0, none⟩ = some (.int .u32 (s : Int)) := by rw [cell_of_blk HBX6.out]; rfl
            have hz6 := hk6.size
            have K06 := Lib.hid (K05.out.trans' hk6 (fun i hi => .inr (by have h1 := HM5.out.m.ld; have h2 := K00.out.size; rw [hi]; omega)))
            have HA6 := Lib.hid (HA.out.take HSH.out HCO.out AD.out HFM.out HPS.out hacc)
            clear hd6 hk6 hmd hneb HM5 HMK5 HBX5 HND5 K05 HA hlen5 HFM x9c x9l
            gi_wp2
            refine ⟨trivial, ?_⟩
            refine (callsIn_wide.2 (steps_any W6 b s)).mono ?_; rintro en w9 ⟨rfl, rfl⟩
            gi_wp2
            obtain ⟨W9, hW9⟩ : ∃ W9, ((W6.alloc (.cells #[.pointer (some ⟨b, 0, none⟩)] 71)).alloc (.cells #[.int .u32 (s : Int)] 82)) = W9 := ⟨_, rfl⟩
            have hz9 : W9.heap.size = W6.heap.size + 1 + 1 := by rw [← hW9]; simp
            have k9 : Keeps (fun _ => False) W6 W9 := by rw [← hW9]; exact ((Keeps.refl _ _).alloc _).alloc _
            have hBw : W9.cell? ⟨W6.heap.size, 0, none⟩ = some (.pointer (some ⟨b, 0, none⟩)) := by
              rw [← hW9]; exact ((Boxed.new W6 _ _).alloc _).cell
            have hBs : W9.heap[W6.heap.size + 1]? = some (.cells #[.int .u32 (s : Int)] 82 (0, 0)) := by
              rw [← hW9]
              have := heap_alloc_new (W6.alloc (.cells #[.pointer (some ⟨b, 0, none⟩)] 71)) (.cells #[.int .u32 (s : Int)] 82)
              rwa [World.size_alloc] at this
            have hBsc : W9.cell? ⟨W6.heap.size + 1, 0, none⟩ = some (.int .u32 (s : Int)) := by rw [cell_of_blk hBs]; rfl
            rw [hW9]
            have HM9 := Lib.hid (HM6.out.keeps0 HH.out k9); have HMK9 := Lib.hid (HMK6.out.keeps (KeepsD.of0 k9)); have HBX9 := Lib.hid (k9.heap HBX6.out (fun h => h))
            have K09 := K06.out.trans k9
            have HWW := Lib.hid (show ∃ w0 : World, WordsAt w0 base b st g0 v ops ∧ w0.heap.size ≤ w00.heap.size ∧ Below w00.heap.size w0 W9 from ⟨w00, HW.out, Nat.le_refl _, K09.below⟩)
            have hlow6 : w.heap.size ≤ W6.heap.size := HM6.out.keep.size
            have HWL := Lib.hid (show (wsteps ops s).length ≤ 40 from Nat.le_trans (wsteps_le ops s) hmany)
            have hs32 := HL32.out s HSL.out
            have HBS := Lib.hid hBs
            have HF9 := Lib.hid (show ∀ k, F3 k → (k < W9.heap.size ∨ ∃ cs T fr, W9.heap[k]? = some (.cells cs T fr)) ∧ k ≠ W6.heap.size + 1 ∧ k ≠ b12 ∧ Clean W9 k from fun k hk => by
              have h1 := HFX.out k hk
              exact ⟨.inl (by omega), by omega, by omega, (HND6.out k hk).keeps k9 (by omega) (fun h => h)⟩)
            have hT0 : t + (weightB L 1000000000 P : Int) ≤ t + (weightB L 1000000000 P : Int) := Int.le_refl _
            have hM0 : 2 * weightB L 1000000000 P + (A.filter fun z => z.1 != (s : Int)).length < 2 * weightB L 1000000000 P + A.length := by
              have := dropA_len HZA.out
              unfold dropA at this; omega
            have HTD := Lib.hid (ToDo.start H ops L s)
            have HDN2 := Lib.hid (show ∀ x u, putP dn s () x = some u → x ∈ L from fun x u hx => by
              unfold putP at hx
              split at hx
              · rename_i e; rw [e]; exact HSL.out
              · exact HDN.out x u hx)
            generalize putP dn s () = dnN at HM9 HDN2 HA6
            clear hW9 k9 K09 HM6 HMK6 HBX6 HND6 K06 hr6 x12d hBs HZA HFX
            generalize hT : t + (weightB L 1000000000 P : Int) = T0 at htw hT0
            generalize hM : 2 * weightB L 1000000000 P + A.length = M0 at hn hM0
            refine wpIn_rangeFunc_ownH (α := StpOf ops s) rfl (by omega) (gf := 121) (lb := #[.pointer (some ⟨W6.heap.size, 0, none⟩), .pointer (some ⟨W6.heap.size + 1, 0, none⟩)]) rfl trivial (enters_of Tryz.func121 (by kernel_rfl) rfl)
              (steps_stops Fence.wide 8 trivial rfl (by omega) W6.heap.size (W6.heap.size + 1) w00.heap.size base b st g0 s v ops hops (by omega) hs32 W9 (by omega) hBw hBsc (by omega) (by omega) HWW.out)
              KpS.trans (kpS_b (by omega) (by omega)) (Below.refl _ _) (fun _ => rfl)
              (fun pre W => AstBI ops L st (goalB g0) H w FH I (.func (.func gh) pa cb) b8 b9 b10 mp mr md Q dnN s p T0 M0 ds (W6.heap.size + 1) b12 W9.heap.size (pre.map fun y => y.1) W)
              (fun _ _ _ => False) ?_ (fun _ _ _ _ _ hs _ _ => hs) ?_
              (fun (y : StpOf ops s) (a' : Act) (W : World) => ∃ Bx : Nat, w.heap.size ≤ Bx ∧ W.heap[Bx]? = some (Obj.cells #[.int .i64 (y.1.op : Int), .int .i64 y.1.cost, .int .u32 (y.1.to : Int)] 145 (0, 0)) ∧ ∃ u : Nat → Value, a' = { tmps := #[.iface 71 (.pointer (some ⟨b, 0, none⟩)), .func (.func gh) pa cb, u 2, .pointer (some ⟨w.heap.size, 0, none⟩), .slice none 0 0, .int .i64 0, .bool false, .int .u32 (st : Int), .pointer (some ⟨b8, 0, none⟩), .pointer (some ⟨b9, 0, none⟩), .pointer (some ⟨b10, 0, none⟩), .map (some md), .pointer (some ⟨b12, 0, none⟩), u 13, u 14, .pointer (some ⟨Bx, 0, none⟩), u 16, u 17, u 18, u 19, u 20, u 21, u 22, u 23, u 24, u 25, u 26, u 27, u 28, u 29, u 30, u 31, u 32, u 33, u 34, u 35, u 36, u 37, u 38, u 39, u 40, u 41, u 42, u 43, u 44, u 45, u 46, u 47, u 48, u 49, u 50, u 51, u 52, u 53, u 54, u 55, u 56, u 57, u 58, u 59, u 60, u 61, u 62, u 63, u 64, u 65, u 66, u 67, u 68, u 69, u 70, u 71, u 72, u 73, u 74, u 75, u 76, u 77, u 78, u 79, u 80, u 81, u 82, u 83, u 84, u 85, u 86, u 87, u 88, u 89, u 90, u 91, u 92, u 93, u 94, u 95, u 96, u 97, u 98, u 99, u 100, u 101, u 102, u 103, u 104, u 105, u 106, u 107, u 108, u 109, u 110, u 111, u 112, u 113, u 114, u 115, u 116, u 117], defers := [] }) ?_ ?_ ?_ ?_ ?_
            · rintro l W W' row ⟨P, par, A, t, F, R, h1, h2, h3, h4, g1, g2, g3, h5, h6, h7, h8⟩ hg hr
              have hF : ∀ k, F k → k < W9.heap.size ∨ ∃ cs T fr, W.heap[k]? = some (.cells cs T fr) := fun k hk => (h8 k hk).1
              refine ⟨P, par, A, t, F, R, h1.steady HH.out hg hr (by omega) (by omega) (by omega) (by omega) hF, h2, h3, h4, g1, g2, g3, Marks.steady HMK9.out h5 hg hr, steady_heap hg (fun r e => (hr r e).2) h6, steady_heap hg (fun r e => (hr r e).2) h7, fun k hk => ⟨(hF k hk).imp (fun h => h) (fun ⟨cs, T, fr, hc⟩ => ⟨cs, T, fr, steady_heap hg (fun r e => (hr r e).2) hc⟩), (h8 k hk).2.1, (h8 k hk).2.2.1, (h8 k hk).2.2.2.keeps (steady_keeps hg) (h1.m.lF k hk).2.1 (fun e => ?_)⟩⟩
              obtain ⟨g4, o, ho, hno⟩ := hr k e
              rcases hF k hk with h | ⟨cs, T, fr, hc⟩
              · omega
              · rw [hc] at ho; cases ho; cases hno
            · exact ⟨P, par, _, t, F3, _, HM9.out, HA6.out, HTD.out, HPS.out, ht0, by omega, by omega, HMK9.out, HBS.out, HBX9.out, HF9.out⟩
            · intro y a' _ W W' row hs hg hr
              obtain ⟨Bx, h0, h1, h2⟩ := hs
              exact ⟨Bx, h0, steady_heap hg (fun r e => (hr r e).2) h1, h2⟩
            · intro l pre y W K hi hK
              simp only [Stp.val]
              gi_wp2
              obtain ⟨P, par, A, t, F, R, h1, h2, h3, h4, g1, g2, g3, h5, h6, h7, h8⟩ := hi
              have kx := (Keeps.refl (fun _ => False) W).alloc (.cells #[.int .i64 (y.1.op : Int), .int .i64 y.1.cost, .int .u32 (y.1.to : Int)] 145)
              exact hK _ _ ((KeepsOthers.alloc _ _).from _) ((KpS.refl _ _ W).alloc (Nat.le_trans hz00 h1.keep.size) (lt_of_heap h6) _) ⟨P, par, A, t, F, R, h1.keeps0 HH.out kx, h2, h3, h4, g1, g2, g3, h5.keeps (KeepsD.of0 kx), kx.heap h6 (fun h => h), kx.heap h7 (fun h => h), fun k hk => ⟨(h8 k hk).1.imp (fun h => h) (fun ⟨cs, T, fr, hc⟩ => ⟨cs, T, fr, kx.heap hc (fun h => h)⟩), (h8 k hk).2.1, (h8 k hk).2.2.1, (h8 k hk).2.2.2.keeps kx (h1.m.lF k hk).2.1 (fun h => h)⟩⟩ ⟨W.heap.size, h1.keep.size, heap_alloc_new W _, ex_fnD rfl⟩
            · rintro l pre y a' W hl - ⟨P1, par1, A1, t1, F1, R1, h1, h2, h3, h4, g1, g2, g3, h5, h6, h7, h8⟩ ⟨Bx, hBl, hBx, u', rfl⟩ hlt2
              obtain ⟨o, hoi, hoc, hcc, hto⟩ := wsteps_mem.1 y.2
              have hcst := HCO.out o (List.mem_of_getElem? hoi)
              rw [← hcc] at hcst
              have hyL : y.1.to ∈ L := by rw [hto]; exact HSH.out.2 s HSL.out o (List.mem_of_getElem? hoi) hoc
              have hHy := AD.out.lo y.1.to hyL
              have hp0 := h2.i.lo s p h4
              have hkn := knownB_le L P1
              have hpn : IntKind.i64.wrap (p + (4096 * y.1.cost + 1)) = p + (4096 * y.1.cost + 1) := IntWalk.i64_in _ (by omega)
              have hlowW : w.heap.size ≤ W.heap.size := h1.keep.size
              have HNF := Lib.hid (show ¬ F1 Bx from fun h => (h8 Bx h).2.2.2.2 _ _ hBx)
              have HYL := Lib.hid hyL; have HPP := Lib.hid h4
              clear hoi hoc hcc hto hyL
              have KD := (Keeps.refl (fun _ => False) W).drew
              have H1 := Lib.hid (h1.keeps0 HH.out KD); have H2 := Lib.hid h2; have H3 := Lib.hid h3; have H5 := Lib.hid h5; have H6 := Lib.hid h6; have H7 := Lib.hid h7; have H8 := Lib.hid h8
              have H0 := Lib.hid h1
              have HBX := Lib.hid (KD.heap hBx (fun h => h)); have HB12 := Lib.hid (KD.heap h7 (fun h => h))
              clear h1 h2 h3 h4 h5 h6 h7 h8 hBx KD
              have HS0 : Hid (W.drew.cell? ⟨b8, 0, none⟩ = some (.map (some mp)) ∧ W.drew.cell? ⟨b12, 0, none⟩ = some (.int .u32 (s : Int)) ∧ W.drew.cell? ⟨Bx, 1, none⟩ = some (.int .i64 y.1.cost) ∧ FMap W.drew mp intV P1) :=
                ⟨H1.out.x8.cell, (cell_of_blk HB12.out).trans rfl, (cell_of_blk HBX.out).trans rfl, H1.out.m.price⟩
              gi_wp2
              refine wpIn_region_held (fun W => W.cell? ⟨b8, 0, none⟩ = some (.map (some mp)) ∧ W.cell? ⟨b12, 0, none⟩ = some (.int .u32 (s : Int)) ∧ W.cell? ⟨Bx, 1, none⟩ = some (.int .i64 y.1.cost) ∧ FMap W mp intV P1) (fun _ => false) hmix ?_
              refine wpAnyHIn_take (Wide.wide.inRound l) 0 (.map (some mp)) rfl (by kernel_rfl) (by kernel_rfl) (by kernel_rfl) (by kernel_rfl) (by kernel_rfl) (fun _ _ _ h => h) HS0.out ?_ rfl ?_
              · rintro W ⟨s1, s2, s3, s4⟩; go_simp
              refine wpAnyHIn_take (Wide.wide.inRound l) 1 (.int .u32 (s : Int)) rfl (by kernel_rfl) (by kernel_rfl) (by kernel_rfl) (by kernel_rfl) (by kernel_rfl) (fun _ _ _ h => h) HS0.out ?_ rfl ?_
              · rintro W ⟨s1, s2, s3, s4⟩; go_simp
              refine wpAnyHIn_take (Wide.wide.inRound l) 2 (.int .i64 p) rfl (by kernel_rfl) (by kernel_rfl) (by kernel_rfl) (by kernel_rfl) (by kernel_rfl) (fun _ _ _ h => h) HS0.out ?_ rfl ?_
              · rintro W ⟨s1, s2, s3, s4⟩; have sl := costLook s4 HPP.out; go_simp
              refine wpAnyHIn_take (Wide.wide.inRound l) 3 (.pointer (some ⟨Bx, 1, none⟩)) rfl (by kernel_rfl) (by kernel_rfl) (by kernel_rfl) (by kernel_rfl) (by kernel_rfl) (fun _ _ _ h => h) HS0.out ?_ rfl ?_
              · rintro W ⟨s1, s2, s3, s4⟩; go_simp
              refine wpAnyHIn_take (Wide.wide.inRound l) 4 (.int .i64 y.1.cost) rfl (by kernel_rfl) (by kernel_rfl) (by kernel_rfl) (by kernel_rfl) (by kernel_rfl) (fun _ _ _ h => h) HS0.out ?_ rfl ?_
              · rintro W ⟨s1, s2, s3, s4⟩; go_simp
              refine wpAnyHIn_one 5 rfl (by kernel_rfl) rfl (fun K hK => ?_)
              go_simp
              refine ⟨trivial, ?_⟩
              refine (CallsIn.inRound l (callsIn_wide.2 (aprice_any _ y.1.cost ⟨hcst.1, by omega⟩))).mono ?_; rintro en w7 ⟨rfl, rfl⟩
              refine hK _ _ (fun _ => HS0.out) ?_
              clear hK K
              refine wpAnyHIn_one 6 rfl (by kernel_rfl) rfl (fun K hK => ?_)
              go_simp
              refine hK _ _ (fun _ => HS0.out) ?_
              clear hK K
              refine wpAnyHIn_one 7 rfl (by kernel_rfl) rfl (fun K hK => ?_)
              go_simp
              refine hK _ _ (fun _ => HS0.out) ?_
              clear hK K
              refine wpAnyHIn_done (by kernel_rfl) ?_
              clear HS0
              have KD := Lib.hid ((Keeps.refl (fun _ => False) W).drew)
              generalize W.drew = Wd at H1 HBX HB12 KD ⊢
              have x8c := H1.out.x8.cell
              have x8l := H1.out.x8.lt
              have y2 : Wd.cell? ⟨Bx, 2, none⟩ = some (.int .u32 (y.1.to : Int)) := (cell_of_blk HBX.out).trans rfl
              have hBxl := lt_of_heap HBX.out
              obtain ⟨qv, qb, hlk, hqt, hqf⟩ := costLookT H1.out.m.price y.1.to
              have x3c := H1.out.x3.cell
              have x3l := H1.out.x3.lt
              cases qb with
              | true =>
                have hq := hqt rfl
                clear hqt hqf
                by_cases hle : qv ≤ p + (4096 * y.1.cost + 1)
                · obtain ⟨R2, ha2, ht2⟩ := H2.out.next H3.out y.1
                  have ha3 := ha2.skip HPP.out hq (show qv ≤ p + (arcOf y.1).price from hle)
                  have HA3 := Lib.hid ha3; have HT2 := Lib.hid ht2
                  clear ha2 ha3 ht2 hq
                  gi_wp2
                  refine ⟨(fun f h => by cases h), ?_⟩
                  gi_wp2
                  obtain ⟨c1, c2⟩ := close_of (B := W9.heap.size) (n0 := w00.heap.size) (Bs := W6.heap.size + 1) KD.out (fun _ h => h.elim) (by omega) (lt_of_heap H6.out)
                  exact ⟨c1, c2, P1, par1, A1, t1, F1, R2, H1.out, HA3.out, by rw [List.map_append]; exact HT2.out, HPP.out, g1, g2, g3, H5.out.keeps (KeepsD.of0 KD.out), KD.out.heap H6.out (fun h => h), KD.out.heap H7.out (fun h => h), f8_keeps H8.out KD.out (fun _ _ h => h) (fun k hk => (H0.out.m.lF k hk).2.1)⟩
                · have HLT := Lib.hid (show ∀ q, P1 y.1.to = some q → p + (4096 * y.1.cost + 1) < q from fun q h => by rw [hq] at h; cases h; omega)
                  clear hq
                  gi_wp2
                  refine ⟨trivial, ?_⟩
                  refine (CallsIn.inRound l (callsIn_wide.2 (HH.out.answers _ y.1.to H1.out.hI HYL.out))).mono ?_; rintro en wa ⟨rfl, hIa, hka⟩
                  have no : ∀ k, w.heap.size ≤ k → ¬ FH k := fun k hk h => by have := (HH.out.lo k h).2; omega
                  have HMa := Lib.hid (H1.out.asked HH.out hka hIa)
                  have HBXa := Lib.hid (hka.heap HBX.out (no _ hBl)); have HB12a := Lib.hid (hka.heap HB12.out (no _ hb12))
                  have HKA := Lib.hid ((KD.out.mono (S' := FH) (fun _ _ h => h.elim)).trans hka)
                  have NO := Lib.hid no
                  clear hIa hka no hlk x8c x8l y2 x3c x3l H1 HBX HB12 KD
                  by_cases hdead : 1000000000 ≤ H y.1.to
                  · gi_wp2
                    obtain ⟨c1, c2⟩ := close_of (B := W9.heap.size) (n0 := w00.heap.size) (Bs := W6.heap.size + 1) HKA.out (fun k h => by
                      have := HH.out.lo k h
                      exact ⟨this.1, .inl (by omega), by omega⟩) (by omega) (lt_of_heap H6.out)
                    have hT := H3.out.dead (y := y.1) (fun h : H y.1.to < 1000000000 => by omega)
                    exact ⟨c1, c2, P1, par1, A1, t1, F1, R1, HMa.out, H2.out, by rw [List.map_append]; exact hT, HPP.out, g1, g2, g3, H5.out.keeps (KeepsD.of HKA.out (fun k h => HH.out.nd H0.out.hI h)), HKA.out.heap H6.out (NO.out _ (by omega)), HKA.out.heap H7.out (NO.out _ hb12), f8_keeps H8.out HKA.out (fun k hk => NO.out k (H0.out.m.lF k hk).1) (fun k hk => (H0.out.m.lF k hk).2.1)⟩
                  · have hlive : H y.1.to < 1000000000 := by omega
                    obtain ⟨wb, hrb, hmb, hkb⟩ := HMa.out.m.price.put (P := Tryz.prog) Tryz.underlying80 Tryz.underlying82 y.1.to (p + (4096 * y.1.cost + 1))
                    unfold intV at hrb
                    have HMb := Lib.hid (HMa.out.priced HH.out hkb hmb)
                    obtain ⟨wc, hrc, hmc, hkc⟩ := HMb.out.m.par_.put (P := Tryz.prog) Tryz.underlying81 Tryz.underlying82 y.1.to ⟨y.1.op, 4096 * y.1.cost + 1, s⟩
                    replace hrc : (Instr.mapUpdate 81 (.map (some mr)) (.int .u32 (y.1.to : Int)) (.agg #[.int .u32 (s : Int), .int .i64 (y.1.op : Int)])).run Tryz.prog wb = .ok () wc := hrc
                    have hne : y.1.to ≠ st := fun e => by
                      have := HLT.out 0 (by rw [e]; exact (H2.out.i.start st (List.mem_singleton.2 rfl)).1)
                      omega
                    rw [parF_put hne] at hmc
                    have HMc := Lib.hid (HMb.out.pard HH.out hkc hmc)
                    have n1 : Bx ≠ mp := fun e => HMa.out.m.price.ne_cells HBXa.out e.symm
                    have n2 : b12 ≠ mp := fun e => HMa.out.m.price.ne_cells HB12a.out e.symm
                    have HBXb := Lib.hid (hkb.heap HBXa.out n1); have HB12b := Lib.hid (hkb.heap HB12a.out n2)
                    have n3 : Bx ≠ mr := fun e => HMb.out.m.par_.ne_cells HBXb.out e.symm
                    have HBXc := Lib.hid (hkc.heap HBXb.out n3)
                    have x8a := HMa.out.x8.cell
                    have y2a : wa.cell? ⟨Bx, 2, none⟩ = some (.int .u32 (y.1.to : Int)) := (cell_of_blk HBXa.out).trans rfl
                    have x9b := HMb.out.x9.cell
                    have y2b : wb.cell? ⟨Bx, 2, none⟩ = some (.int .u32 (y.1.to : Int)) := (cell_of_blk HBXb.out).trans rfl
                    have y0b : wb.cell? ⟨Bx, 0, none⟩ = some (.int .i64 (y.1.op : Int)) := (cell_of_blk HBXb.out).trans rfl
                    have x12b : wb.cell? ⟨b12, 0, none⟩ = some (.int .u32 (s : Int)) := (cell_of_blk HB12b.out).trans rfl
                    have hBxa := lt_of_heap HBXa.out; have hBxb := lt_of_heap HBXb.out; have hBxc := lt_of_heap HBXc.out
                    have x8al := HMa.out.x8.lt; have x9bl := HMb.out.x9.lt
                    have HKC := Lib.hid (show Keeps (fun k => FH k ∨ k = mp ∨ k = mr) W wc from ((HKA.out.mono (fun _ _ h => .inl h)).trans (hkb.mono (fun _ _ h => .inr (.inl h)))).trans (hkc.mono (fun _ _ h => .inr (.inr h))))
                    have HMDD := Lib.hid (And.intro HMa.out.nd.1 HMb.out.nd.2.1)
                    have hw1 : IntKind.i64.wrap (4096 * H y.1.to) = 4096 * H y.1.to := IntWalk.i64_in _ (by omega)
                    have hw2 : IntKind.i64.wrap (p + (4096 * y.1.cost + 1) + 4096 * H y.1.to) = p + (4096 * y.1.cost + 1) + 4096 * H y.1.to := IntWalk.i64_in _ (by omega)
                    clear hmb hkb hmc hkc n1 n2 n3
                    gi_wp2
                    have KD := (Keeps.refl (fun _ => False) wc).drew
                    have HMd := Lib.hid (HMc.out.keeps0 HH.out KD)
                    have HBXd := Lib.hid (KD.heap HBXc.out (fun h => h))
                    have HKD := Lib.hid (HKC.out.trans (KD.mono (fun _ _ h => h.elim)))
                    have HS1 : Hid (wc.drew.cell? ⟨b10, 0, none⟩ = some (.pointer (some ⟨Q, 0, none⟩)) ∧ wc.drew.cell? ⟨Bx, 2, none⟩ = some (.int .u32 (y.1.to : Int)) ∧ wc.drew.cell? ⟨w.heap.size, 0, none⟩ = some (.func (.func gh) pa cb)) :=
                      ⟨HMd.out.x10.cell, (cell_of_blk HBXd.out).trans rfl, HMd.out.x3.cell⟩
                    clear KD x8a y2a x9b y2b y0b x12b
                    refine wpIn_region_held (fun W => W.cell? ⟨b10, 0, none⟩ = some (.pointer (some ⟨Q, 0, none⟩)) ∧ W.cell? ⟨Bx, 2, none⟩ = some (.int .u32 (y.1.to : Int)) ∧ W.cell? ⟨w.heap.size, 0, none⟩ = some (.func (.func gh) pa cb)) (fun _ => false) hmix ?_
                    refine wpAnyHIn_take (Wide.wide.inRound l) 0 (.pointer (some ⟨Q, 0, none⟩)) rfl (by kernel_rfl) (by kernel_rfl) (by kernel_rfl) (by kernel_rfl) (by kernel_rfl) (fun _ _ _ h => h) HS1.out ?_ rfl ?_
                    · rintro W ⟨s1, s2, s3⟩; go_simp
                    refine wpAnyHIn_take (Wide.wide.inRound l) 1 (.pointer (some ⟨Bx, 2, none⟩)) rfl (by kernel_rfl) (by kernel_rfl) (by kernel_rfl) (by kernel_rfl) (by kernel_rfl) (fun _ _ _ h => h) HS1.out ?_ rfl ?_
                    · rintro W ⟨s1, s2, s3⟩; go_simp
                    refine wpAnyHIn_take (Wide.wide.inRound l) 2 (.int .u32 (y.1.to : Int)) rfl (by kernel_rfl) (by kernel_rfl) (by kernel_rfl) (by kernel_rfl) (by kernel_rfl) (fun _ _ _ h => h) HS1.out ?_ rfl ?_
                    · rintro W ⟨s1, s2, s3⟩; go_simp
                    refine wpAnyHIn_take (Wide.wide.inRound l) 3 (.int .i64 (p + (4096 * y.1.cost + 1))) rfl (by kernel_rfl) (by kernel_rfl) (by kernel_rfl) (by kernel_rfl) (by kernel_rfl) (fun _ _ _ h => h) HS1.out ?_ rfl ?_
                    · rintro W ⟨s1, s2, s3⟩; go_simp
                    refine wpAnyHIn_take (Wide.wide.inRound l) 4 (.func (.func gh) pa cb) rfl (by kernel_rfl) (by kernel_rfl) (by kernel_rfl) (by kernel_rfl) (by kernel_rfl) (fun _ _ _ h => h) HS1.out ?_ rfl ?_
                    · rintro W ⟨s1, s2, s3⟩; go_simp
                    refine wpAnyHIn_take (Wide.wide.inRound l) 5 (.pointer (some ⟨Bx, 2, none⟩)) rfl (by kernel_rfl) (by kernel_rfl) (by kernel_rfl) (by kernel_rfl) (by kernel_rfl) (fun _ _ _ h => h) HS1.out ?_ rfl ?_
                    · rintro W ⟨s1, s2, s3⟩; go_simp
                    refine wpAnyHIn_take (Wide.wide.inRound l) 6 (.int .u32 (y.1.to : Int)) rfl (by kernel_rfl) (by kernel_rfl) (by kernel_rfl) (by kernel_rfl) (by kernel_rfl) (fun _ _ _ h => h) HS1.out ?_ rfl ?_
                    · rintro W ⟨s1, s2, s3⟩; go_simp
                    refine wpAnyHIn_one 7 rfl (by kernel_rfl) rfl (fun K hK => ?_)
                    go_simp
                    refine ⟨trivial, ?_⟩
                    refine (CallsIn.inRound l (callsIn_wide.2 (HH.out.answers _ y.1.to HMd.out.hI HYL.out))).mono ?_; rintro en we ⟨rfl, hIe, hke⟩
                    have HMe := Lib.hid (HMd.out.asked HH.out hke hIe)
                    have HKE := Lib.hid (HKD.out.trans (hke.mono (fun _ _ h => .inl h)))
                    have HBXe := Lib.hid (hke.heap HBXd.out (NO.out _ hBl))
                    have HS2 : Hid (we.cell? ⟨b10, 0, none⟩ = some (.pointer (some ⟨Q, 0, none⟩)) ∧ we.cell? ⟨Bx, 2, none⟩ = some (.int .u32 (y.1.to : Int)) ∧ we.cell? ⟨w.heap.size, 0, none⟩ = some (.func (.func gh) pa cb)) :=
                      ⟨HMe.out.x10.cell, (cell_of_blk HBXe.out).trans rfl, HMe.out.x3.cell⟩
                    clear hIe hke HS1 HMd
                    refine hK _ _ (fun _ => HS2.out) ?_
                    clear hK K
                    refine wpAnyHIn_one 8 rfl (by kernel_rfl) rfl (fun K hK => ?_)
                    go_simp
                    refine hK _ _ (fun _ => HS2.out) ?_
                    clear hK K
                    refine wpAnyHIn_one 9 rfl (by kernel_rfl) rfl (fun K hK => ?_)
                    go_simp
                    refine hK _ _ (fun _ => HS2.out) ?_
                    clear hK K
                    refine wpAnyHIn_one 10 rfl (by kernel_rfl) rfl (fun K hK => ?_)
                    go_simp
                    refine ⟨trivial, ?_⟩
                    have hAl : (liftA H A1).length ≤ 999999 := by
                      obtain ⟨_, _, _, _, _, hqr⟩ := HMe.out.m.q
                      have h1 := hqr.ndA
                      have h2 : (liftA H A1).map Prod.fst = A1.map Prod.fst := by unfold liftA; rw [List.map_map]; rfl
                      rw [h2] at h1
                      have := H2.out.i.few h1
                      rw [liftA_len]; omega
                    refine (CallsIn.inRound l (callsIn_wide.2 (U.set_both2 _ _ _ _ _ HMe.out.m.q (y.1.to : Int) (p + (4096 * y.1.cost + 1) + 4096 * H y.1.to) ⟨g1, by omega⟩ hAl))).mono ?_; rintro en wf ⟨rfl, F2, hq2, hF2, hk2⟩
                    have x10f := HMe.out.queued HH.out hk2 hq2 (fun k h => (hF2 k h).imp (fun h => h.1) (fun h => h.1))
                    refine hK _ _ (fun _ => ⟨x10f.x10.cell, (cell_of_blk (hk2.heap HBXe.out HNF.out)).trans rfl, x10f.x3.cell⟩) ?_
                    clear hK K x10f
                    refine wpAnyHIn_done (by kernel_rfl) ?_
                    gi_wp2
                    rw [← liftA_put] at hq2
                    have HMf := Lib.hid ((HMe.out.queued HH.out hk2 hq2 (fun k h => (hF2 k h).imp (fun h => h.1) (fun h => h.1))).clean)
                    have KT : Keeps (fun k => (FH k ∨ k = mp ∨ k = mr) ∨ F1 k) W wf := (HKE.out.mono (fun _ _ h => .inl h)).trans (hk2.mono (fun _ _ h => .inr h))
                    have hzwe := HKE.out.size
                    have hBsl := lt_of_heap H6.out
                    have hb12l := lt_of_heap H7.out
                    have hlp := H0.out.m.lp
                    have hlr := H0.out.m.lr
                    obtain ⟨c1, c2⟩ := close_of (B := W9.heap.size) (n0 := w00.heap.size) (Bs := W6.heap.size + 1) KT (fun k h => by
                      rcases h with (h | h | h) | h
                      · have := HH.out.lo k h
                        exact ⟨this.1, .inl (by omega), by omega⟩
                      · exact ⟨by omega, .inl (by omega), by omega⟩
                      · exact ⟨by omega, .inl (by omega), by omega⟩
                      · exact ⟨by have := (H0.out.m.lF k h).1; omega, (H8.out k h).1, (H8.out k h).2.1⟩) (by omega) hBsl
                    obtain ⟨R2, ha2, ht2⟩ := H2.out.next H3.out y.1
                    have hfall := ha2.fall HSH.out.1 HSH.out HCO.out (live_step HSL.out y.2 hlive) HPP.out HLT.out
                    have hsy : s ≠ y.1.to := fun e => by
                      have := HLT.out p (by rw [← e]; exact HPP.out)
                      omega
                    have hwt := weightB_put (L := L) (m := 1000000000) (P := P1) (x := y.1.to) (v := p + (4096 * y.1.cost + 1)) (by omega) HYL.out (fun q hq => by have := HLT.out q hq; omega)
                    have hpl := putA_len A1 (y.1.to : Int) (p + (4096 * y.1.cost + 1))
                    have nS : ∀ k, w.heap.size ≤ k → k ≠ mp → k ≠ mr → ¬ F1 k → ¬ ((FH k ∨ k = mp ∨ k = mr) ∨ F1 k) := fun k h1 h2 h3 h4 h => by
                      rcases h with (h | h | h) | h
                      · exact NO.out k h1 h
                      · exact h2 h
                      · exact h3 h
                      · exact h4 h
                    exact ⟨c1, c2, _, _, _, _, _, R2, HMf.out, hfall, by rw [List.map_append]; exact ht2, (show putP P1 y.1.to (p + (4096 * y.1.cost + 1)) s = some p from by rw [putP_other _ _ hsy]; exact HPP.out), by omega,
                      (show t1 + 1 + (weightB L 1000000000 (putP P1 y.1.to (p + (4096 * y.1.cost + 1))) : Int) ≤ T0 by omega), (show 2 * weightB L 1000000000 (putP P1 y.1.to (p + (4096 * y.1.cost + 1))) + (putA A1 (y.1.to : Int) (p + (4096 * y.1.cost + 1))).length < M0 by omega),
                      H5.out.keeps (KeepsD.of KT (fun k h => by
                        rcases h with (h | h | h) | h
                        · exact HH.out.nd H0.out.hI h
                        · rw [h]; exact H0.out.nd.1
                        · rw [h]; exact H0.out.nd.2.1
                        · exact (H8.out k h).2.2.2.1)),
                      KT.heap H6.out (nS _ (by omega) (by omega) (by omega) (fun h => (H8.out _ h).2.1 rfl)), KT.heap H7.out (nS _ hb12 (by omega) (by omega) (fun h => (H8.out _ h).2.2.1 rfl)),
                      fun k hk => by
                        rcases hF2 k hk.1.1 with ⟨h1, h2⟩ | ⟨h1, h2⟩
                        · refine ⟨(H8.out k h1).1.imp (fun h => h) (fun ⟨cs, T, fr, hc⟩ => ?_), (H8.out k h1).2.1, (H8.out k h1).2.2.1, hk.2.2⟩
                          rcases h2 with h2 | ⟨es, c, h2⟩
                          · exact h2
                          · have h3 := HKE.out.heap hc (fun h => by
                              have hl := H0.out.m.lF k h1
                              rcases h with h | h | h
                              · exact NO.out k hl.1 h
                              · exact hl.2.2.1 h
                              · exact hl.2.2.2.1 h)
                            rw [h3] at h2; cases h2
                        · exact ⟨.inr h2, by omega, by omega, hk.2.2⟩⟩
              | false =>
                have HLT := Lib.hid (show ∀ q, P1 y.1.to = some q → p + (4096 * y.1.cost + 1) < q from fun q h => by rw [hqf rfl] at h; cases h)
                clear hqt hqf
                gi_wp2
                refine ⟨trivial, ?_⟩
                refine (CallsIn.inRound l (callsIn_wide.2 (HH.out.answers _ y.1.to H1.out.hI HYL.out))).mono ?_; rintro en wa ⟨rfl, hIa, hka⟩
                have no : ∀ k, w.heap.size ≤ k → ¬ FH k := fun k hk h => by have := (HH.out.lo k h).2; omega
                have HMa := Lib.hid (H1.out.asked HH.out hka hIa)
                have HBXa := Lib.hid (hka.heap HBX.out (no _ hBl)); have HB12a := Lib.hid (hka.heap HB12.out (no _ hb12))
                have HKA := Lib.hid ((KD.out.mono (S' := FH) (fun _ _ h => h.elim)).trans hka)
                have NO := Lib.hid no
                clear hIa hka no hlk x8c x8l y2 x3c x3l H1 HBX HB12 KD
                by_cases hdead : 1000000000 ≤ H y.1.to
                · gi_wp2
                  obtain ⟨c1, c2⟩ := close_of (B := W9.heap.size) (n0 := w00.heap.size) (Bs := W6.heap.size + 1) HKA.out (fun k h => by
                    have := HH.out.lo k h
                    exact ⟨this.1, .inl (by omega), by omega⟩) (by omega) (lt_of_heap H6.out)
                  have hT := H3.out.dead (y := y.1) (fun h : H y.1.to < 1000000000 => by omega)
                  exact ⟨c1, c2, P1, par1, A1, t1, F1, R1, HMa.out, H2.out, by rw [List.map_append]; exact hT, HPP.out, g1, g2, g3, H5.out.keeps (KeepsD.of HKA.out (fun k h => HH.out.nd H0.out.hI h)), HKA.out.heap H6.out (NO.out _ (by omega)), HKA.out.heap H7.out (NO.out _ hb12), f8_keeps H8.out HKA.out (fun k hk => NO.out k (H0.out.m.lF k hk).1) (fun k hk => (H0.out.m.lF k hk).2.1)⟩
                · have hlive : H y.1.to < 1000000000 := by omega
                  obtain ⟨wb, hrb, hmb, hkb⟩ := HMa.out.m.price.put (P := Tryz.prog) Tryz.underlying80 Tryz.underlying82 y.1.to (p + (4096 * y.1.cost + 1))
                  unfold intV at hrb
                  have HMb := Lib.hid (HMa.out.priced HH.out hkb hmb)
                  obtain ⟨wc, hrc, hmc, hkc⟩ := HMb.out.m.par_.put (P := Tryz.prog) Tryz.underlying81 Tryz.underlying82 y.1.to ⟨y.1.op, 4096 * y.1.cost + 1, s⟩
                  replace hrc : (Instr.mapUpdate 81 (.map (some mr)) (.int .u32 (y.1.to : Int)) (.agg #[.int .u32 (s : Int), .int .i64 (y.1.op : Int)])).run Tryz.prog wb = .ok () wc := hrc
                  have hne : y.1.to ≠ st := fun e => by
                    have := HLT.out 0 (by rw [e]; exact (H2.out.i.start st (List.mem_singleton.2 rfl)).1)
                    omega
                  rw [parF_put hne] at hmc
                  have HMc := Lib.hid (HMb.out.pard HH.out hkc hmc)
                  have n1 : Bx ≠ mp := fun e => HMa.out.m.price.ne_cells HBXa.out e.symm
                  have n2 : b12 ≠ mp := fun e => HMa.out.m.price.ne_cells HB12a.out e.symm
                  have HBXb := Lib.hid (hkb.heap HBXa.out n1); have HB12b := Lib.hid (hkb.heap HB12a.out n2)
                  have n3 : Bx ≠ mr := fun e => HMb.out.m.par_.ne_cells HBXb.out e.symm
                  have HBXc := Lib.hid (hkc.heap HBXb.out n3)
                  have x8a := HMa.out.x8.cell
                  have y2a : wa.cell? ⟨Bx, 2, none⟩ = some (.int .u32 (y.1.to : Int)) := (cell_of_blk HBXa.out).trans rfl
                  have x9b := HMb.out.x9.cell
                  have y2b : wb.cell? ⟨Bx, 2, none⟩ = some (.int .u32 (y.1.to : Int)) := (cell_of_blk HBXb.out).trans rfl
                  have y0b : wb.cell? ⟨Bx, 0, none⟩ = some (.int .i64 (y.1.op : Int)) := (cell_of_blk HBXb.out).trans rfl
                  have x12b : wb.cell? ⟨b12, 0, none⟩ = some (.int .u32 (s : Int)) := (cell_of_blk HB12b.out).trans rfl
                  have hBxa := lt_of_heap HBXa.out; have hBxb := lt_of_heap HBXb.out; have hBxc := lt_of_heap HBXc.out
                  have x8al := HMa.out.x8.lt; have x9bl := HMb.out.x9.lt
                  have HKC := Lib.hid (show Keeps (fun k => FH k ∨ k = mp ∨ k = mr) W wc from ((HKA.out.mono (fun _ _ h => .inl h)).trans (hkb.mono (fun _ _ h => .inr (.inl h)))).trans (hkc.mono (fun _ _ h => .inr (.inr h))))
                  have HMDD := Lib.hid (And.intro HMa.out.nd.1 HMb.out.nd.2.1)
                  have hw1 : IntKind.i64.wrap (4096 * H y.1.to) = 4096 * H y.1.to := IntWalk.i64_in _ (by omega)
                  have hw2 : IntKind.i64.wrap (p + (4096 * y.1.cost + 1) + 4096 * H y.1.to) = p + (4096 * y.1.cost + 1) + 4096 * H y.1.to := IntWalk.i64_in _ (by omega)
                  clear hmb hkb hmc hkc n1 n2 n3
                  gi_wp2
                  have KD := (Keeps.refl (fun _ => False) wc).drew
                  have HMd := Lib.hid (HMc.out.keeps0 HH.out KD)
                  have HBXd := Lib.hid (KD.heap HBXc.out (fun h => h))
                  have HKD := Lib.hid (HKC.out.trans (KD.mono (fun _ _ h => h.elim)))
                  have HS1 : Hid (wc.drew.cell? ⟨b10, 0, none⟩ = some (.pointer (some ⟨Q, 0, none⟩)) ∧ wc.drew.cell? ⟨Bx, 2, none⟩ = some (.int .u32 (y.1.to : Int)) ∧ wc.drew.cell? ⟨w.heap.size, 0, none⟩ = some (.func (.func gh) pa cb)) :=
                    ⟨HMd.out.x10.cell, (cell_of_blk HBXd.out).trans rfl, HMd.out.x3.cell⟩
                  clear KD x8a y2a x9b y2b y0b x12b
                  refine wpIn_region_held (fun W => W.cell? ⟨b10, 0, none⟩ = some (.pointer (some ⟨Q, 0, none⟩)) ∧ W.cell? ⟨Bx, 2, none⟩ = some (.int .u32 (y.1.to : Int)) ∧ W.cell? ⟨w.heap.size, 0, none⟩ = some (.func (.func gh) pa cb)) (fun _ => false) hmix ?_
                  refine wpAnyHIn_take (Wide.wide.inRound l) 0 (.pointer (some ⟨Q, 0, none⟩)) rfl (by kernel_rfl) (by kernel_rfl) (by kernel_rfl) (by kernel_rfl) (by kernel_rfl) (fun _ _ _ h => h) HS1.out ?_ rfl ?_
                  · rintro W ⟨s1, s2, s3⟩; go_simp
                  refine wpAnyHIn_take (Wide.wide.inRound l) 1 (.pointer (some ⟨Bx, 2, none⟩)) rfl (by kernel_rfl) (by kernel_rfl) (by kernel_rfl) (by kernel_rfl) (by kernel_rfl) (fun _ _ _ h => h) HS1.out ?_ rfl ?_
                  · rintro W ⟨s1, s2, s3⟩; go_simp
                  refine wpAnyHIn_take (Wide.wide.inRound l) 2 (.int .u32 (y.1.to : Int)) rfl (by kernel_rfl) (by kernel_rfl) (by kernel_rfl) (by kernel_rfl) (by kernel_rfl) (fun _ _ _ h => h) HS1.out ?_ rfl ?_
                  · rintro W ⟨s1, s2, s3⟩; go_simp
                  refine wpAnyHIn_take (Wide.wide.inRound l) 3 (.int .i64 (p + (4096 * y.1.cost + 1))) rfl (by kernel_rfl) (by kernel_rfl) (by kernel_rfl) (by kernel_rfl) (by kernel_rfl) (fun _ _ _ h => h) HS1.out ?_ rfl ?_
                  · rintro W ⟨s1, s2, s3⟩; go_simp
                  refine wpAnyHIn_take (Wide.wide.inRound l) 4 (.func (.func gh) pa cb) rfl (by kernel_rfl) (by kernel_rfl) (by kernel_rfl) (by kernel_rfl) (by kernel_rfl) (fun _ _ _ h => h) HS1.out ?_ rfl ?_
                  · rintro W ⟨s1, s2, s3⟩; go_simp
                  refine wpAnyHIn_take (Wide.wide.inRound l) 5 (.pointer (some ⟨Bx, 2, none⟩)) rfl (by kernel_rfl) (by kernel_rfl) (by kernel_rfl) (by kernel_rfl) (by kernel_rfl) (fun _ _ _ h => h) HS1.out ?_ rfl ?_
                  · rintro W ⟨s1, s2, s3⟩; go_simp
                  refine wpAnyHIn_take (Wide.wide.inRound l) 6 (.int .u32 (y.1.to : Int)) rfl (by kernel_rfl) (by kernel_rfl) (by kernel_rfl) (by kernel_rfl) (by kernel_rfl) (fun _ _ _ h => h) HS1.out ?_ rfl ?_
                  · rintro W ⟨s1, s2, s3⟩; go_simp
                  refine wpAnyHIn_one 7 rfl (by kernel_rfl) rfl (fun K hK => ?_)
                  go_simp
                  refine ⟨trivial, ?_⟩
                  refine (CallsIn.inRound l (callsIn_wide.2 (HH.out.answers _ y.1.to HMd.out.hI HYL.out))).mono ?_; rintro en we ⟨rfl, hIe, hke⟩
                  have HMe := Lib.hid (HMd.out.asked HH.out hke hIe)
                  have HKE := Lib.hid (HKD.out.trans (hke.mono (fun _ _ h => .inl h)))
                  have HBXe := Lib.hid (hke.heap HBXd.out (NO.out _ hBl))
                  have HS2 : Hid (we.cell? ⟨b10, 0, none⟩ = some (.pointer (some ⟨Q, 0, none⟩)) ∧ we.cell? ⟨Bx, 2, none⟩ = some (.int .u32 (y.1.to : Int)) ∧ we.cell? ⟨w.heap.size, 0, none⟩ = some (.func (.func gh) pa cb)) :=
                    ⟨HMe.out.x10.cell, (cell_of_blk HBXe.out).trans rfl, HMe.out.x3.cell⟩
                  clear hIe hke HS1 HMd
                  refine hK _ _ (fun _ => HS2.out) ?_
                  clear hK K
                  refine wpAnyHIn_one 8 rfl (by kernel_rfl) rfl (fun K hK => ?_)
                  go_simp
                  refine hK _ _ (fun _ => HS2.out) ?_
                  clear hK K
                  refine wpAnyHIn_one 9 rfl (by kernel_rfl) rfl (fun K hK => ?_)
                  go_simp
                  refine hK _ _ (fun _ => HS2.out) ?_
                  clear hK K
                  refine wpAnyHIn_one 10 rfl (by kernel_rfl) rfl (fun K hK => ?_)
                  go_simp
                  refine ⟨trivial, ?_⟩
                  have hAl : (liftA H A1).length ≤ 999999 := by
                    obtain ⟨_, _, _, _, _, hqr⟩ := HMe.out.m.q
                    have h1 := hqr.ndA
                    have h2 : (liftA H A1).map Prod.fst = A1.map Prod.fst := by unfold liftA; rw [List.map_map]; rfl
                    rw [h2] at h1
                    have := H2.out.i.few h1
                    rw [liftA_len]; omega
                  refine (CallsIn.inRound l (callsIn_wide.2 (U.set_both2 _ _ _ _ _ HMe.out.m.q (y.1.to : Int) (p + (4096 * y.1.cost + 1) + 4096 * H y.1.to) ⟨g1, by omega⟩ hAl))).mono ?_; rintro en wf ⟨rfl, F2, hq2, hF2, hk2⟩
                  have x10f := HMe.out.queued HH.out hk2 hq2 (fun k h => (hF2 k h).imp (fun h => h.1) (fun h => h.1))
                  refine hK _ _ (fun _ => ⟨x10f.x10.cell, (cell_of_blk (hk2.heap HBXe.out HNF.out)).trans rfl, x10f.x3.cell⟩) ?_
                  clear hK K x10f
                  refine wpAnyHIn_done (by kernel_rfl) ?_
                  gi_wp2
                  rw [← liftA_put] at hq2
                  have HMf := Lib.hid ((HMe.out.queued HH.out hk2 hq2 (fun k h => (hF2 k h).imp (fun h => h.1) (fun h => h.1))).clean)
                  have KT : Keeps (fun k => (FH k ∨ k = mp ∨ k = mr) ∨ F1 k) W wf := (HKE.out.mono (fun _ _ h => .inl h)).trans (hk2.mono (fun _ _ h => .inr h))
                  have hzwe := HKE.out.size
                  have hBsl := lt_of_heap H6.out
                  have hb12l := lt_of_heap H7.out
                  have hlp := H0.out.m.lp
                  have hlr := H0.out.m.lr
                  obtain ⟨c1, c2⟩ := close_of (B := W9.heap.size) (n0 := w00.heap.size) (Bs := W6.heap.size + 1) KT (fun k h => by
                    rcases h with (h | h | h) | h
                    · have := HH.out.lo k h
                      exact ⟨this.1, .inl (by omega), by omega⟩
                    · exact ⟨by omega, .inl (by omega), by omega⟩
                    · exact ⟨by omega, .inl (by omega), by omega⟩
                    · exact ⟨by have := (H0.out.m.lF k h).1; omega, (H8.out k h).1, (H8.out k h).2.1⟩) (by omega) hBsl
                  obtain ⟨R2, ha2, ht2⟩ := H2.out.next H3.out y.1
                  have hfall := ha2.fall HSH.out.1 HSH.out HCO.out (live_step HSL.out y.2 hlive) HPP.out HLT.out
                  have hsy : s ≠ y.1.to := fun e => by
                    have := HLT.out p (by rw [← e]; exact HPP.out)
                    omega
                  have hwt := weightB_put (L := L) (m := 1000000000) (P := P1) (x := y.1.to) (v := p + (4096 * y.1.cost + 1)) (by omega) HYL.out (fun q hq => by have := HLT.out q hq; omega)
                  have hpl := putA_len A1 (y.1.to : Int) (p + (4096 * y.1.cost + 1))
                  have nS : ∀ k, w.heap.size ≤ k → k ≠ mp → k ≠ mr → ¬ F1 k → ¬ ((FH k ∨ k = mp ∨ k = mr) ∨ F1 k) := fun k h1 h2 h3 h4 h => by
                    rcases h with (h | h | h) | h
                    · exact NO.out k h1 h
                    · exact h2 h
                    · exact h3 h
                    · exact h4 h
                  exact ⟨c1, c2, _, _, _, _, _, R2, HMf.out, hfall, by rw [List.map_append]; exact ht2, (show putP P1 y.1.to (p + (4096 * y.1.cost + 1)) s = some p from by rw [putP_other _ _ hsy]; exact HPP.out), by omega,
                    (show t1 + 1 + (weightB L 1000000000 (putP P1 y.1.to (p + (4096 * y.1.cost + 1))) : Int) ≤ T0 by omega), (show 2 * weightB L 1000000000 (putP P1 y.1.to (p + (4096 * y.1.cost + 1))) + (putA A1 (y.1.to : Int) (p + (4096 * y.1.cost + 1))).length < M0 by omega),
                    H5.out.keeps (KeepsD.of KT (fun k h => by
                      rcases h with (h | h | h) | h
                      · exact HH.out.nd H0.out.hI h
                      · rw [h]; exact H0.out.nd.1
                      · rw [h]; exact H0.out.nd.2.1
                      · exact (H8.out k h).2.2.2.1)),
                    KT.heap H6.out (nS _ (by omega) (by omega) (by omega) (fun h => (H8.out _ h).2.1 rfl)), KT.heap H7.out (nS _ hb12 (by omega) (by omega) (fun h => (H8.out _ h).2.2.1 rfl)),
                    fun k hk => by
                      rcases hF2 k hk.1.1 with ⟨h1, h2⟩ | ⟨h1, h2⟩
                      · refine ⟨(H8.out k h1).1.imp (fun h => h) (fun ⟨cs, T, fr, hc⟩ => ?_), (H8.out k h1).2.1, (H8.out k h1).2.2.1, hk.2.2⟩
                        rcases h2 with h2 | ⟨es, c, h2⟩
                        · exact h2
                        · have h3 := HKE.out.heap hc (fun h => by
                            have hl := H0.out.m.lF k h1
                            rcases h with h | h | h
                            · exact NO.out k hl.1 h
                            · exact hl.2.2.1 h
                            · exact hl.2.2.2.1 h)
                          rw [h3] at h2; cases h2
                      · exact ⟨.inr h2, by omega, by omega, hk.2.2⟩⟩
            · rintro D ys W hD hys ⟨P1, par1, A1, t1, F1, R1, h1, h2, h3, h4, g1, g2, g3, h5, h6, h7, h8⟩ hd
              have hys' : (ys.map fun y => y.1) = wsteps ops s := hys
              rw [hys'] at h3
              have hR := h3.done
              subst hR
              have HM7 := Lib.hid (HMK9.out.cons h5 hD (by omega) hd)
              have H1 := Lib.hid h1; have H2 := Lib.hid h2; have H8 := Lib.hid h8
              clear h1 h2 h3 h5 h6 h7 h8 hd hys hys'
              gi_wp2
              exact ⟨_, by omega, mark D :: ds, P1, par1, dnN, A1, t1, F1, H1.out, H2.out.anyS, HDN2.out, g1, by omega, rfl, fun k hk => (H8.out k hk).2.2.2.1, HM7.out, ex_fnD rfl⟩
            · exact fun _ _ _ _ _ _ h _ => h.elim

theorem abest_any (w00 w : World) (b st g0 base : Nat) (v : Value) (ops : List Wop) (L : List Nat) (H : Nat → Int) (gh : Nat) (pa cb : Array Value) (FH : Nat → Prop) (I : World → Prop)
    (hw : WordsAt w00 base b st g0 v ops) (k00 : Keeps (fun _ => False) w00 w) (hops : WopsOk ops) (hmany : ops.length ≤ 40) (hg0 : g0 < 4294967296) (hsh : Shut ops L) (hfew : L.length ≤ 2000) (hL32 : ∀ x ∈ L, x < 4294967296) (hcost : ∀ o ∈ ops, 0 ≤ o.cost ∧ o.cost ≤ 100) (hst : st ∈ L)
    (hh : Heur gh pa cb L H w00.heap.size w.heap.size FH I) (hI : I w) (ad : Adm ops L (goalB g0) H) :
    Calls Tryz.prog 60 #[.iface 71 (.pointer (some ⟨b, 0, none⟩)), .func (.func gh) pa cb] w (AstPost ops L st (goalB g0) H w FH) :=
  callsIn_wide.1 (abest_in w00 w b st g0 base v ops L H gh pa cb FH I hw k00 hops hmany hg0 hsh hfew hL32 hcost hst hh hI ad)

end Go.Proofs.YtkjmgafnaddhkaaGreat
