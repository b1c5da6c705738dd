/- space.Costs. The reference's Less and States; the laws' lists. strips.StateFault, breadth.Reach. The example task of the laws; breadth's example. breadth: the law that Plan is the reference's. space.Distances, space.Optimal. strips: sets, states and plans in plain words. Plans and the table of costs, in plain words. The least price of a plan, in plain Lean: what a search for best plans must find. A search from both ends, in plain Lean: what its two sides know, and that they have met on a best way when it ends. A map with words as keys, as a function that is not defined everywhere. A search from both ends, in plain Lean: the way back from a state, the measure of the search, its start, and the best plan at its end. bothends: a side in memory, and (*side).back. bothends: the closure that notes where the sides meet (meet$1). bothends: newSide. space.Path along a chain of parents that may have changed on the way. A search from both ends, in plain Lean: the state in the middle, and the costs of both parts. A search from both ends, in plain Lean: the arcs of both sides. The queue's First: the least key, and whether there is one. No condition beyond what each theorem says. -/
import Derived.Test.YtdokakhgflljgaaGreatL5
import Derived.Sort.LoopGhostIn
import Derived.Test.YtdokakhgflljgaaGreatL3
import Derived.IntWalk
import Derived.Test.YtdokakhgflljgaaGreatL4
import Derived.Lib.SlicesCompact

namespace Go.Proofs.YtdokakhgflljgaaGreat
open Go.RowKit Go.Shelf
attribute [local go_sem] Oper.semAt_some

def CostsPost (ops : List Wop) (L : List Nat) (acc : Nat → Bool) (w : World) (e : Ending) (w' : World) : Prop := Keeps (fun _ => False) w w' ∧
  ∃ (bo : Nat) (D : Nat → Int), e = .returned (.map (some bo)) ∧ w.heap.size ≤ bo ∧ IMap w' bo .u32 (outV L D) ∧ CostOk (arcs ops L) (L.map acc) (L.map D)

def CSx (w0 : World) (b5 mb bo Q : Nat) (f : Nat → List (Nat × Int)) (L : List Nat) (D : Nat → Int) (A : List (Int × Int)) (t : Int) (G : Nat → Prop) (W : World) : Prop := ∃ F, CSt w0 b5 mb bo Q f L D A t F G W

def CS3 (ops : List Wop) (L : List Nat) (g0 : Nat) (w : World) (b5 mb bo Q : Nat) (G : Nat → Prop) (s : Nat) (d : Int) (M0 : Nat) (va : Value) (nb : Nat) (ds : List Deferred) (k : Nat) (wx : World) : Prop :=
  ∃ (D' : Nat → Int) (A' : List (Int × Int)) (t' : Int), CSx w b5 mb bo Q (backF ops L) L D' A' t' G wx ∧ LInv ops L (goalB g0) D' A' s ((backF ops L s).drop k) ∧ D' s = d ∧ 0 ≤ t' ∧ t' + (weightC (L.map D') : Int) ≤ 2000000002000 ∧
    2 * weightC (L.map D') + A'.length < M0 ∧ Marks ds wx w.heap.size ∧ wx.ownsRow w.heap.size 130 2 va nb ((backF ops L s).flatMap arcC)

set_option maxRecDepth 100000 in
def Fr3 (b : Nat) (av : Option Addr) (L : List Nat) (cv b5 bo Q s : Nat) (d : Int) (ab : Option Addr) (nb cb k : Nat) (ds : List Deferred) (a' : Act) : Prop := ∃ u : Nat → Value, a' = { tmps := #[.pointer (some ⟨b, 0, none⟩), .slice av L.length cv, undef, undef, .map none, .pointer (some ⟨b5, 0, none⟩), .map (some bo), .pointer (some ⟨Q, 0, none⟩), u 8, u 9, u 10, .int .u32 (s : Int), .int .i64 d, u 13, u 14, u 15, u 16, u 17, u 18, u 19, u 20, u 21, u 22, u 23, u 24, u 25, u 26, u 27, u 28, u 29, u 30, u 31, u 32, u 33, u 34, u 35, u 36, u 37, u 38, u 39, u 40, u 41, u 42, u 43, u 44, u 45, u 46, u 47, u 48, u 49, u 50, u 51, u 52, u 53, u 54, u 55, u 56, u 57, u 58, u 59, u 60, u 61, u 62, u 63, .slice ab nb cb, .int .i64 (nb : Int), .int .i64 (k : Int), u 67, u 68, u 69, u 70, u 71, u 72, u 73, u 74, u 75, u 76, u 77, u 78, u 79, u 80, u 81, u 82, u 83, u 84, u 85, u 86, u 87, u 88, u 89, u 90, u 91, u 92, u 93, u 94, u 95], defers := ds }

set_option maxRecDepth 100000 in
set_option maxHeartbeats 4000000 in
theorem costs_in (w : World) (b st g0 base : Nat) (v vl : Value) (ops : List Wop) (L : List Nat) (hw : WordsAt w base b st g0 v ops) (hops : WopsOk ops) (hmany : ops.length ≤ 40) (hg0 : g0 < 4294967296) (hsh : Shut ops L) (hfew : L.length ≤ 2000)
    (hL32 : ∀ x ∈ L, x < 4294967296) (hcost : ∀ o ∈ ops, 0 ≤ o.cost ∧ o.cost ≤ 1000000) (hvl : Sl w vl L.length (L.map encW)) :
    CallsIn Fence.wide 9 Tryz.prog 51 #[.pointer (some ⟨b, 0, none⟩), vl] w (CostsPost ops L (goalB g0) w) := by
  have hmm := @run_makeMap Tryz.prog
  obtain ⟨av, cv, hav, hmv⟩ := Sl.formN hvl
  subst hav
  have HW := Lib.hid hw; have HV := Lib.hid hvl; have HSH := Lib.hid hsh; have HL32 := Lib.hid hL32; have HCO := Lib.hid hcost
  clear hw hvl hsh hL32 hcost
  refine callsIn_of_wp_marks Tryz.func51 rfl trivial ?_ rfl
  simp only [Tryz.ntmps51, List.size_toArray, List.length_cons, List.length_nil, Nat.reduceAdd, Nat.reduceSub, Array.replicate_succ, Array.replicate_zero, List.push_toArray, List.append_toArray, List.nil_append, List.cons_append]
  gi_wp2
  have M1 := GMap.made w w.heap.size 130 2 arcC
  obtain ⟨W3, hW3⟩ : ∃ W3, ((w.alloc (.map #[] 0)).alloc (.cells #[.map (some w.heap.size)] 127)).alloc (.map #[] 0) = W3 := ⟨_, rfl⟩
  have hz3 : W3.heap.size = w.heap.size + 1 + 1 + 1 := by rw [← hW3]; simp
  have k1 : Keeps (fun _ => False) (w.alloc (.map #[] 0)) W3 := by rw [← hW3]; exact ((Keeps.refl _ _).alloc _).alloc _
  have k0 : Keeps (fun _ => False) w W3 := by rw [← hW3]; exact (((Keeps.refl _ _).alloc _).alloc _).alloc _
  have x5 : Boxed W3 (w.heap.size + 1) 127 (.map (some w.heap.size)) := by
    rw [← hW3]
    have h := Boxed.new (w.alloc (.map #[] 0)) 127 (.map (some w.heap.size))
    rw [World.size_alloc] at h
    exact ((Keeps.refl (fun _ => False) _).alloc (.map #[] 0)).heap h (fun h => h)
  have o3 : IMap W3 (w.heap.size + 1 + 1) .u32 (outV [] (start0 (goalB g0))) := by
    rw [← hW3]
    have h := IMap.made ((w.alloc (.map #[] 0)).alloc (.cells #[.map (some w.heap.size)] 127)) .u32
    rw [World.size_alloc, World.size_alloc] at h
    exact h
  rw [hW3]
  clear hW3
  refine ⟨trivial, ?_⟩
  refine (callsIn_wide.2 (U.new_any _)).mono ?_; rintro e w4 ⟨rfl, hq, hk⟩
  have HST := Lib.hid (show CSt w (w.heap.size + 1) w.heap.size (w.heap.size + 1 + 1) (W3.heap.size + 1) (backF ops (L.take 0)) (L.take 0) (start0 (goalB g0)) (queue0 (goalB g0) (L.take 0)) 0 (fun b => W3.heap.size ≤ b ∧ b < w4.heap.size ∧ w4.heap[b]? ≠ some (.deferred (some []))) (fun b => b = w.heap.size) w4 from
    ⟨k0.trans hk, hk.heap x5 (fun h => h), by rw [List.take_zero]; exact o3.keeps hk (fun h => h), by rw [List.take_zero, backF_nil]; exact (M1.keeps k1 (fun _ _ h => h)).keeps hk (fun _ _ h => h), hq.live, by omega, by omega,
     fun k hF => ⟨by omega, hF.2.1, by omega, by omega, by omega⟩, fun k hG => by subst hG; exact ⟨Nat.le_refl _, by have := hk.size; omega, by omega, by omega⟩, fun k hF => hF.2.2⟩)
  clear M1 k1 k0 x5 o3 hq hk
  generalize W3.heap.size + 1 = Q at HST ⊢
  generalize (fun b => W3.heap.size ≤ b ∧ b < w4.heap.size ∧ w4.heap[b]? ≠ some (.deferred (some []))) = F0 at HST
  generalize (fun b => b = w.heap.size) = G0 at HST
  generalize w.heap.size + 1 + 1 = bo at HST ⊢
  generalize w.heap.size + 1 = b5 at HST ⊢
  obtain ⟨mb, hmb⟩ : ∃ mb, w.heap.size = mb := ⟨_, rfl⟩
  have HST1 : Hid (CSt w b5 mb bo Q (backF ops (L.take 0)) (L.take 0) (start0 (goalB g0)) (queue0 (goalB g0) (L.take 0)) 0 F0 G0 w4) := by rw [← hmb]; exact HST
  rw [hmb]
  clear HST hmb hz3
  obtain ⟨i0, hi0, hz0, hz1, hz2⟩ := info_parts Tryz.info_sarc
  have hmix : Tryz.prog.follows .mixedOrders = true := by kernel_rfl
  gi_wp2
  refine wpIn_loop (fun a' wr => ∃ (ds : List Deferred) (i : Nat), CLoop ops (goalB g0) L w b5 mb bo Q i ds wr ∧ i ≤ L.length ∧
      ∃ u : Nat → Value, a' = { tmps := #[.pointer (some ⟨b, 0, none⟩), .slice av L.length cv, undef, undef, .map none, .pointer (some ⟨b5, 0, none⟩), .map (some bo), .pointer (some ⟨Q, 0, none⟩), u 8, u 9, u 10, u 11, u 12, u 13, u 14, u 15, u 16, u 17, u 18, .slice av L.length cv, .int .i64 (L.length : Int), .int .i64 (i : Int), u 22, u 23, u 24, u 25, u 26, u 27, u 28, u 29, u 30, u 31, u 32, u 33, u 34, u 35, u 36, u 37, u 38, u 39, u 40, u 41, u 42, u 43, u 44, u 45, u 46, u 47, u 48, u 49, u 50, u 51, u 52, u 53, u 54, u 55, u 56, u 57, u 58, u 59, u 60, u 61, u 62, u 63, u 64, u 65, u 66, u 67, u 68, u 69, u 70, u 71, u 72, u 73, u 74, u 75, u 76, u 77, u 78, u 79, u 80, u 81, u 82, u 83, u 84, u 85, u 86, u 87, u 88, u 89, u 90, u 91, u 92, u 93, u 94, u 95], defers := ds })
    (fun a' _ => L.length - (intOf (a'.tmps.getD 21 undef)).toNat) ?start ?round
  case start => exact ⟨[], 0, ⟨⟨0, F0, G0, HST1.out, Int.le_refl _, by omega⟩, Marks.nil _ _⟩, Nat.zero_le _, ex_fnD rfl⟩
  case round =>
    rintro a wo ⟨ds, i, hL, hil, u, rfl⟩
    have HL := Lib.hid hL
    clear hL HST1
    obtain ⟨t, F, G, hst, ht0, ht1⟩ := HL.out.st
    have hlow : w.heap.size ≤ wo.heap.size := hst.keep.size
    by_cases hlt : i < L.length
    · obtain ⟨bl, ol, rfl, hx'⟩ := Sl.cellN HV.out rfl (by omega)
      obtain ⟨s, hs⟩ : ∃ s, L[i]? = some s := ⟨_, List.getElem?_eq_getElem hlt⟩
      have hu := hst.keep.cell (hx' i (.int .u32 (s : Int)) (by rw [List.getElem?_map, hs]; rfl)) (fun h => h)
      have hs32 : s < 4294967296 := HL32.out s (List.mem_of_getElem? hs)
      have hnotin : s ∉ L.take i := fun h => by
        obtain ⟨j, hj⟩ := List.mem_iff_getElem?.1 h
        have hjl := (List.getElem?_eq_some_iff.1 hj).1
        rw [List.length_take] at hjl
        rw [List.getElem?_take_of_lt (by omega)] at hj
        have := nodup_ix HSH.out.1 hj hs
        omega
      have htk : L.take (i + 1) = L.take i ++ [s] := take_getS hs
      have hin : s ∈ L.take (i + 1) := by rw [htk]; simp
      have hnd : (L.take (i + 1)).Nodup := HSH.out.1.sublist (List.take_sublist _ _)
      have kA := (Keeps.refl (fun _ => False) wo).alloc (.cells #[.int .u32 (s : Int)] 66)
      have hsA := hst.keeps0 kA
      have hb9 := heap_alloc_new wo (.cells #[.int .u32 (s : Int)] 66)
      obtain ⟨W2, hrun, hI2, hk2⟩ := hsA.out.run_update_new (P := Tryz.prog) Tryz.underlying88 Tryz.underlying66 (outV_miss _ hnotin) (.int .i64 1000000000)
      have e1 : outV (L.take i) (start0 (goalB g0)) ++ [((s : Int), Value.int .i64 1000000000)] = outV (L.take (i + 1)) (upd (start0 (goalB g0)) s bigC) := by
        rw [htk, outV_snoc, upd_same, outV_congr (D := start0 (goalB g0)) (D' := upd (start0 (goalB g0)) s bigC) (fun x hx => (upd_ne _ _ (fun e => hnotin (by rw [← e]; exact hx))).symm)]
        rfl
      rw [e1] at hI2
      have hs2 := hsA.outed hI2 hk2
      have hbo : ¬ wo.heap.size = bo := by have := hst.out.lt; omega
      have hb92 : W2.heap[wo.heap.size]? = some (.cells #[.int .u32 (s : Int)] 66 (0, 0)) := hk2.heap hb9 hbo
      have c9 : W2.cell? ⟨wo.heap.size, 0, none⟩ = some (.int .u32 (s : Int)) := by rw [cell_of_blk hb92]; rfl
      have hb9l : wo.heap.size < W2.heap.size := lt_of_heap hb92
      have hm2 : Marks ds W2 w.heap.size := (HL.out.marks.keeps (KeepsD.of0 kA)).keeps (KeepsD.of hk2 (fun k hk => by subst hk; exact map_not_deferred hsA.out))
      have HS2 := Lib.hid hs2; have HB9 := Lib.hid hb92; have HM2 := Lib.hid hm2; have HTK := Lib.hid htk; have HIN := Lib.hid hin; have HND := Lib.hid hnd; have HNI := Lib.hid hnotin; have HSI := Lib.hid hs
      have HG9 := Lib.hid (show ∀ k, G k → k ≠ wo.heap.size from fun k hG => by have := (hst.lG k hG).2.1; omega)
      have HF9 := Lib.hid (show ∀ k, F k → k ≠ wo.heap.size from fun k hF => by have := (hst.lF k hF).2.1; omega)
      clear hx' hs hnotin htk hin hnd kA hsA hb9 hI2 hk2 e1 hs2 hb92 hm2 hst
      gi_wp2
      refine ⟨trivial, ?_⟩
      refine (callsIn_wide.2 (goal_any W2 base b st g0 s v ops (HW.out.keeps0 HS2.out.keep))).mono ?_; rintro e w3 ⟨rfl, q, rfl⟩
      rw [goal_bits hs32 hg0]
      have kq := (Keeps.refl (fun _ => False) W2).drewN q
      have HS3 := Lib.hid (HS2.out.keeps0 kq); have HB3 := Lib.hid (kq.heap HB9.out (fun h => h)); have HM3 := Lib.hid (HM2.out.keeps (KeepsD.of0 kq))
      have hb9q : wo.heap.size < (W2.drewN q).heap.size := hb9l
      clear kq HS2 HB9 HM2 c9 hb9l hrun hu
      generalize W2.drewN q = W3 at HS3 HB3 HM3 hb9q ⊢
      generalize hbb : wo.heap.size = b9 at HB3 HG9 HF9 hb9q hbo ⊢
      have c9 : W3.cell? ⟨b9, 0, none⟩ = some (.int .u32 (s : Int)) := by rw [cell_of_blk HB3.out]; rfl
      clear hbb
      have hTi : (L.take (i + 1))[i]? = some s := by rw [List.getElem?_take_of_lt (by omega)]; exact HSI.out
      have hbo' : ¬ b9 = bo := hbo
      cases hacc : goalB g0 s
      case' true =>
        have hst0 : start0 (goalB g0) s = 0 := by unfold start0; rw [if_pos hacc]
        obtain ⟨W4, hrun, hI4, hk4⟩ := HS3.out.out.run_update_old (P := Tryz.prog) Tryz.underlying88 Tryz.underlying66 (outV_nodup HND.out _) (outV_get _ hTi) (.int .i64 0)
        rw [outV_set HND.out _ hTi] at hI4
        have HS4 := Lib.hid ((HS3.out.outed hI4 hk4).congr (D' := start0 (goalB g0)) (fun x hx => by
          by_cases e : x = s
          · rw [e, upd_same, hst0]
          · rw [upd_ne _ _ e, upd_ne _ _ e]))
        have HM4 := Lib.hid (HM3.out.keeps (KeepsD.of hk4 (fun k hk => by subst hk; exact map_not_deferred HS3.out.out)))
        have HB4 := Lib.hid (hk4.heap HB3.out hbo')
        have c9' : W4.cell? ⟨b9, 0, none⟩ = some (.int .u32 (s : Int)) := by rw [cell_of_blk HB4.out]; rfl
        have hlen0 : (queue0 (goalB g0) (L.take i)).length ≤ 999999 := by have h1 := queue0_len (goalB g0) (L.take i); rw [List.length_take] at h1; omega
        clear hI4
        gi_wp2
        refine ⟨trivial, ?_⟩
        refine (callsIn_wide.2 (U.set_new W4 Q (queue0 (goalB g0) (L.take i)) t F HS4.out.q (s : Int) 0 (queue0_miss _ HNI.out) ⟨by omega, by omega⟩ hlen0)).mono ?_; rintro e W5 ⟨rfl, hq5, hk5⟩
        have hs5 := HS4.out.queued hq5 (fun k h => h) hk5
        rw [U.setA_new (queue0_miss _ HNI.out), show queue0 (goalB g0) (L.take i) ++ [((s : Int), (0 : Int))] = queue0 (goalB g0) (L.take (i + 1)) by rw [HTK.out, queue0_snoc, if_pos hacc]] at hs5
        have HSN : Hid (∃ (t' : Int) (F' : Nat → Prop), CSt w b5 mb bo Q (backF ops (L.take i)) (L.take (i + 1)) (start0 (goalB g0)) (queue0 (goalB g0) (L.take (i + 1))) t' F' G W5 ∧ 0 ≤ t' ∧ t' ≤ ((i + 1 : Nat) : Int)) := ⟨t + 1, _, hs5, by omega, by omega⟩
        have HMN := Lib.hid (HM4.out.keeps (HS4.out.kd hk5))
        have HBN := Lib.hid (hk5.heap HB4.out (fun e => HF9.out _ e rfl))
        clear hs5 hq5 hk5 HS4 HM4 HB4 HS3 HM3 HB3 hk4 hrun c9 c9' hst0
        generalize W5 = Wn at HSN HMN HBN ⊢
      case' false =>
        have hst0 : start0 (goalB g0) s = bigC := by unfold start0; rw [if_neg (by rw [hacc]; simp)]
        have HSN : Hid (∃ (t' : Int) (F' : Nat → Prop), CSt w b5 mb bo Q (backF ops (L.take i)) (L.take (i + 1)) (start0 (goalB g0)) (queue0 (goalB g0) (L.take (i + 1))) t' F' G W3 ∧ 0 ≤ t' ∧ t' ≤ ((i + 1 : Nat) : Int)) := by
          have h := HS3.out.congr (D' := start0 (goalB g0)) (fun x hx => by
            by_cases e : x = s
            · rw [e, upd_same, hst0]
            · rw [upd_ne _ _ e])
          rw [show queue0 (goalB g0) (L.take i) = queue0 (goalB g0) (L.take (i + 1)) by rw [HTK.out, queue0_snoc, if_neg (by rw [hacc]; simp), List.append_nil]] at h
          exact ⟨t, F, h, by omega, by omega⟩
        have HMN := HM3
        have HBN := HB3
        clear hst0 c9 HS3 HM3 HB3
        generalize W3 = Wn at HSN HMN HBN ⊢
      all_goals
        obtain ⟨t', F', hs5, ht0', ht1'⟩ := HSN.out
        have x5c := hs5.x5.cell
        have c9 : Wn.cell? ⟨b9, 0, none⟩ = some (.int .u32 (s : Int)) := by rw [cell_of_blk HBN.out]; rfl
        have hb9n := lt_of_heap HBN.out
        have HS5 := Lib.hid hs5
        clear hs5 HSN
        gi_wp2
        refine ⟨trivial, ?_⟩
        refine (callsIn_wide.2 (steps_any Wn b s)).mono ?_; rintro en w5 ⟨rfl, rfl⟩
        gi_wp2
        obtain ⟨W6, hW6⟩ : ∃ W6, ((Wn.alloc (.cells #[.pointer (some ⟨b, 0, none⟩)] 60)).alloc (.cells #[.int .u32 (s : Int)] 66)) = W6 := ⟨_, rfl⟩
        have hz6 : W6.heap.size = Wn.heap.size + 1 + 1 := by rw [← hW6]; simp
        have k6 : Keeps (fun _ => False) Wn W6 := by rw [← hW6]; exact ((Keeps.refl _ _).alloc _).alloc _
        have hBw : W6.cell? ⟨Wn.heap.size, 0, none⟩ = some (.pointer (some ⟨b, 0, none⟩)) := by
          rw [← hW6]; exact ((Boxed.new Wn _ _).alloc _).cell
        have hBs : W6.heap[Wn.heap.size + 1]? = some (.cells #[.int .u32 (s : Int)] 66 (0, 0)) := by
          rw [← hW6]
          have := heap_alloc_new (Wn.alloc (.cells #[.pointer (some ⟨b, 0, none⟩)] 60)) (.cells #[.int .u32 (s : Int)] 66)
          rwa [World.size_alloc] at this
        have hBsc : W6.cell? ⟨Wn.heap.size + 1, 0, none⟩ = some (.int .u32 (s : Int)) := by rw [cell_of_blk hBs]; rfl
        rw [hW6]
        have hlow4 : w.heap.size ≤ Wn.heap.size := HS5.out.keep.size
        have HG0 := Lib.hid (show ∀ k, G k → k ≠ Wn.heap.size + 1 from fun k hk => by have := (HS5.out.lG k hk).2.1; omega)
        have HF6 := Lib.hid (show ∀ k, F' k → k < W6.heap.size from fun k hk => by have := (HS5.out.lF k hk).2.1; omega)
        have HA6 := Lib.hid (HS5.out.keeps0 k6)
        have HM6 := Lib.hid (HMN.out.keeps (KeepsD.of0 k6))
        have HB96 := Lib.hid (k6.heap HBN.out (fun h => h))
        have HWW := Lib.hid (show ∃ w0 : World, WordsAt w0 base b st g0 v ops ∧ w0.heap.size ≤ w.heap.size ∧ Below w.heap.size w0 W6 from ⟨w, HW.out, Nat.le_refl _, HA6.out.keep.below⟩)
        have HBS := Lib.hid hBs
        have HWL := Lib.hid (show (wsteps ops s).length ≤ 40 from Nat.le_trans (wsteps_le ops s) hmany)
        have hb6 : w.heap.size ≤ W6.heap.size := by omega
        have hb96 : b9 < W6.heap.size := by omega
        have hbo6 : bo < W6.heap.size := HA6.out.out.lt
        have hmb6 : mb < W6.heap.size := HA6.out.back.lt
        have hbl : ∀ y, (backF ops (L.take i) y).length ≤ 80000 := fun y => by
          have h1 := backF_len hmany (L.take i) y
          rw [List.length_take] at h1; omega
        have HBL := Lib.hid hbl
        clear hBs HMN HBN HS5 x5c c9 hbl
        refine wpIn_rangeFunc_ownH (α := StpOf ops s) rfl (by omega) (gf := 88) (lb := #[.pointer (some ⟨Wn.heap.size, 0, none⟩), .pointer (some ⟨Wn.heap.size + 1, 0, none⟩)]) rfl trivial (enters_of Tryz.func88 (by kernel_rfl) rfl)
          (steps_stops Fence.wide 8 trivial rfl (by omega) Wn.heap.size (Wn.heap.size + 1) w.heap.size base b st g0 s v ops hops (by omega) hs32 W6 (by omega) hBw hBsc (by omega) (by omega) HWW.out)
          KpS.trans (kpS_b (by omega) (by omega)) (Below.refl _ _) (fun _ => rfl)
          (fun pre W => CI w b5 mb bo Q (backF ops (L.take i)) (L.take (i + 1)) (start0 (goalB g0)) (queue0 (goalB g0) (L.take (i + 1))) t' F' s ds (Wn.heap.size + 1) b9 (pre.map fun y => y.1) W)
          (fun _ _ _ => False) ?_ (fun _ _ _ _ _ hs _ _ => hs) ?_
          (fun (y : StpOf ops s) (a' : Act) (W : World) => ∃ Bx : Nat, W.heap[Bx]? = some (Obj.cells #[.int .i64 (y.1.op : Int), .int .i64 y.1.cost, .int .u32 (y.1.to : Int)] 107 (0, 0)) ∧ ∃ u : Nat → Value, a' = { tmps := #[.pointer (some ⟨b, 0, none⟩), .slice (some ⟨bl, ol, none⟩) L.length cv, undef, undef, .map none, .pointer (some ⟨b5, 0, none⟩), .map (some bo), .pointer (some ⟨Q, 0, none⟩), u 8, .pointer (some ⟨b9, 0, none⟩), .pointer (some ⟨Bx, 0, none⟩), u 11, u 12, u 13, u 14, u 15, u 16, u 17, u 18, u 19, u 20, u 21, u 22, u 23, u 24, u 25, u 26, u 27, u 28, u 29, u 30, u 31, u 32, u 33, u 34, u 35, u 36, u 37, u 38, u 39, u 40, u 41, u 42, u 43, u 44, u 45, u 46, u 47, u 48, u 49, u 50, u 51, u 52, u 53, u 54, u 55, u 56, u 57, u 58, u 59, u 60, u 61, u 62, u 63, u 64, u 65, u 66, u 67, u 68, u 69, u 70, u 71, u 72, u 73, u 74, u 75, u 76, u 77, u 78, u 79, u 80, u 81, u 82, u 83, u 84, u 85, u 86, u 87, u 88, u 89, u 90, u 91, u 92, u 93, u 94, u 95], defers := [] }) ?_ ?_ ?_ ?_ ?_
        · intro l W W' row hs hg hr
          obtain ⟨G', h1, h2, h3, h4, h5⟩ := hs
          exact ⟨G', h1.steady hg hr hb6 hbo6 hmb6 HF6.out, Marks.steady HM6.out h2 hg hr, steady_heap hg (fun r e => (hr r e).2) h3, steady_heap hg (fun r e => (hr r e).2) h4, h5⟩
        · exact ⟨G, by simpa [addB_nil] using HA6.out, HM6.out, HBS.out, HB96.out, fun k hk => ⟨HG0.out k hk, HG9.out k hk⟩⟩
        · intro y a' _ W W' row hs hg hr
          obtain ⟨Bx, h1, h2⟩ := hs
          exact ⟨Bx, steady_heap hg (fun r e => (hr r e).2) h1, h2⟩
        · intro l pre y W K hi hK
          simp only [Stp.val]
          gi_wp2
          obtain ⟨G', h1, h2, h3, h4, h5⟩ := hi
          exact hK _ _ ((KeepsOthers.alloc _ _).from _) ((KpS.refl _ _ W).alloc h1.keep.size (lt_of_heap h3) _) ⟨G', h1.keeps0 ((Keeps.refl _ _).alloc _), h2.keeps (KeepsD.of0 ((Keeps.refl _ _).alloc _)), ((Keeps.refl (fun _ => False) W).alloc _).heap h3 (fun h => h), ((Keeps.refl (fun _ => False) W).alloc _).heap h4 (fun h => h), h5⟩ ⟨W.heap.size, heap_alloc_new W _, ex_fnD rfl⟩
        · rintro l pre y a' W hl - ⟨G', h1, h2, h3, h4, h5⟩ ⟨Bx, hBx, u', rfl⟩ hlt2
          have x5c := h1.x5.cell
          have x5l := h1.x5.lt
          have c9 : W.cell? ⟨b9, 0, none⟩ = some (.int .u32 (s : Int)) := by rw [cell_of_blk h4]; rfl
          have y1 : W.cell? ⟨Bx, 1, none⟩ = some (.int .i64 y.1.cost) := by rw [cell_of_blk hBx]; rfl
          have y2 : W.cell? ⟨Bx, 2, none⟩ = some (.int .u32 (y.1.to : Int)) := by rw [cell_of_blk hBx]; rfl
          have hBxl := lt_of_heap hBx
          have l9 := lt_of_heap h4
          have KD := (Keeps.refl (fun _ => False) W).drew
          obtain ⟨va, ⟨ml, hml, hlk⟩, hown, hvG, hturn⟩ := (h1.keeps0 KD).back.turn (P := Tryz.prog) Tryz.underlying127 Tryz.underlying66 (show (zeroValue 128).run Tryz.prog W.drew = .ok (.slice none 0 0) W.drew by kernel_rfl) y.1.to
          have hlk2 : ∀ W', IMap W' mb .u32 ml → (Instr.lookup 127 (.map (some mb)) (.int .u32 (y.1.to : Int)) false).run Tryz.prog W' = .ok va W' := fun W' h => hlk W' h (by kernel_rfl)
          have hnb : (addB (backF ops (L.take i)) s (pre.map fun y => y.1) y.1.to).length ≤ 80040 := by
            have e1 := addB_len (backF ops (L.take i)) s (pre.map fun y => y.1) y.1.to
            have e2 := HBL.out y.1.to
            have e3 := HWL.out
            rw [List.length_map] at e1
            omega
          have hsn := addB_snoc (backF ops (L.take i)) s (pre.map fun y => y.1) y.1
          have hrowa := World.ownsRow.alloc (hown) (.cells #[.int .u32 (s : Int), .int .i64 y.1.cost] 130)
          have hbase := h1.keep.size
          have hvx : ∀ k, va.ownBlock = some k → k ≠ Bx := fun k hk e => by
            subst e
            rcases hown.2 with ⟨e', _⟩ | ⟨g, cap, cur, e', _, hg, _⟩
            · rw [e'] at hk; simp [Value.ownBlock] at hk
            · rw [e'] at hk; simp [Value.ownBlock] at hk
              subst hk
              have h := (show W.drew.heap[g]? = _ from hg).symm.trans (show W.drew.heap[g]? = _ from KD.heap hBx (fun h => h))
              simp at h
          have x5k : ¬ va.ownBlock = some b5 := fun e => (h1.lG _ (hvG _ e).1).2.2.1 rfl
          have H1 := Lib.hid h1; have H2 := Lib.hid h2; have H3 := Lib.hid h3; have H4 := Lib.hid h4; have H5 := Lib.hid h5; have HSN := Lib.hid hsn; have HT := Lib.hid hturn; have HVG := Lib.hid hvG; have HOW := Lib.hid hown; have HROW := Lib.hid hrowa; have HVX := Lib.hid hvx; have HML := Lib.hid hml; have HLK := Lib.hid hlk2
          clear h1 h2 h3 h4 h5 hsn hturn hvG hown hrowa hBx hlk hlk2 hml hvx
          generalize hnn : (addB (backF ops (L.take i)) s (pre.map fun y => y.1) y.1.to).length = nb at hnb HROW HOW HT
          generalize hxx : (addB (backF ops (L.take i)) s (pre.map fun y => y.1) y.1.to).flatMap arcC = xs at HROW HOW HT
          gi_wp2
          refine wpIn_region_held (fun W => W.cell? ⟨b5, 0, none⟩ = some (.map (some mb)) ∧ W.cell? ⟨b9, 0, none⟩ = some (.int .u32 (s : Int)) ∧ W.cell? ⟨Bx, 1, none⟩ = some (.int .i64 y.1.cost) ∧ W.cell? ⟨Bx, 2, none⟩ = some (.int .u32 (y.1.to : Int)) ∧ IMap W mb .u32 ml) (fun j => decide (13 ≤ j)) hmix ?_
          have HS0 : Hid (W.drew.cell? ⟨b5, 0, none⟩ = some (.map (some mb)) ∧ W.drew.cell? ⟨b9, 0, none⟩ = some (.int .u32 (s : Int)) ∧ W.drew.cell? ⟨Bx, 1, none⟩ = some (.int .i64 y.1.cost) ∧ W.drew.cell? ⟨Bx, 2, none⟩ = some (.int .u32 (y.1.to : Int)) ∧ IMap W.drew mb .u32 ml) := ⟨x5c, c9, y1, y2, HML.out⟩
          refine wpAnyHIn_take (Wide.wide.inRound l) 0 (.map (some mb)) rfl (by kernel_rfl) (by kernel_rfl) (by kernel_rfl) (by kernel_rfl) (by kernel_rfl) (fun _ _ _ h => h) HS0.out ?_ rfl ?_
          · rintro W ⟨s1, s2, s3, s4, s5⟩; go_simp
          refine wpAnyHIn_take (Wide.wide.inRound l) 1 (.pointer (some ⟨Bx, 2, none⟩)) rfl (by kernel_rfl) (by kernel_rfl) (by kernel_rfl) (by kernel_rfl) (by kernel_rfl) (fun _ _ _ h => h) HS0.out ?_ rfl ?_
          · rintro W ⟨s1, s2, s3, s4, s5⟩; go_simp
          refine wpAnyHIn_take (Wide.wide.inRound l) 2 (.int .u32 (y.1.to : Int)) rfl (by kernel_rfl) (by kernel_rfl) (by kernel_rfl) (by kernel_rfl) (by kernel_rfl) (fun _ _ _ h => h) HS0.out ?_ rfl ?_
          · rintro W ⟨s1, s2, s3, s4, s5⟩; go_simp
          refine wpAnyHIn_take (Wide.wide.inRound l) 3 (.map (some mb)) rfl (by kernel_rfl) (by kernel_rfl) (by kernel_rfl) (by kernel_rfl) (by kernel_rfl) (fun _ _ _ h => h) HS0.out ?_ rfl ?_
          · rintro W ⟨s1, s2, s3, s4, s5⟩; go_simp
          refine wpAnyHIn_take (Wide.wide.inRound l) 4 (.pointer (some ⟨Bx, 2, none⟩)) rfl (by kernel_rfl) (by kernel_rfl) (by kernel_rfl) (by kernel_rfl) (by kernel_rfl) (fun _ _ _ h => h) HS0.out ?_ rfl ?_
          · rintro W ⟨s1, s2, s3, s4, s5⟩; go_simp
          refine wpAnyHIn_take (Wide.wide.inRound l) 5 (.int .u32 (y.1.to : Int)) rfl (by kernel_rfl) (by kernel_rfl) (by kernel_rfl) (by kernel_rfl) (by kernel_rfl) (fun _ _ _ h => h) HS0.out ?_ rfl ?_
          · rintro W ⟨s1, s2, s3, s4, s5⟩; go_simp
          refine wpAnyHIn_take (Wide.wide.inRound l) 6 (va) rfl (by kernel_rfl) (by kernel_rfl) (by kernel_rfl) (by kernel_rfl) (by kernel_rfl) (fun _ _ _ h => h) HS0.out ?_ rfl ?_
          · rintro W ⟨s1, s2, s3, s4, s5⟩; have s6 := HLK.out W s5; go_simp
          refine wpAnyHIn_take (Wide.wide.inRound l) 7 (.int .u32 (s : Int)) rfl (by kernel_rfl) (by kernel_rfl) (by kernel_rfl) (by kernel_rfl) (by kernel_rfl) (fun _ _ _ h => h) HS0.out ?_ rfl ?_
          · rintro W ⟨s1, s2, s3, s4, s5⟩; go_simp
          refine wpAnyHIn_take (Wide.wide.inRound l) 8 (.pointer (some ⟨Bx, 1, none⟩)) rfl (by kernel_rfl) (by kernel_rfl) (by kernel_rfl) (by kernel_rfl) (by kernel_rfl) (fun _ _ _ h => h) HS0.out ?_ rfl ?_
          · rintro W ⟨s1, s2, s3, s4, s5⟩; go_simp
          refine wpAnyHIn_take (Wide.wide.inRound l) 9 (.int .i64 y.1.cost) rfl (by kernel_rfl) (by kernel_rfl) (by kernel_rfl) (by kernel_rfl) (by kernel_rfl) (fun _ _ _ h => h) HS0.out ?_ rfl ?_
          · rintro W ⟨s1, s2, s3, s4, s5⟩; go_simp
          refine wpAnyHIn_take (Wide.wide.inRound l) 10 (.agg #[.int .u32 (s : Int), .int .i64 y.1.cost]) rfl (by kernel_rfl) (by kernel_rfl) (by kernel_rfl) (by kernel_rfl) (by kernel_rfl) (fun _ _ _ h => h) HS0.out ?_ rfl ?_
          · rintro W ⟨s1, s2, s3, s4, s5⟩; go_simp
          have KA := (Keeps.refl (fun _ => False) W.drew).alloc (.cells #[.int .u32 (s : Int), .int .i64 y.1.cost] 130)
          have HS1 : Hid ((W.drew.alloc (.cells #[.int .u32 (s : Int), .int .i64 y.1.cost] 130)).cell? ⟨b5, 0, none⟩ = some (.map (some mb)) ∧ (W.drew.alloc (.cells #[.int .u32 (s : Int), .int .i64 y.1.cost] 130)).cell? ⟨b9, 0, none⟩ = some (.int .u32 (s : Int)) ∧ (W.drew.alloc (.cells #[.int .u32 (s : Int), .int .i64 y.1.cost] 130)).cell? ⟨Bx, 1, none⟩ = some (.int .i64 y.1.cost) ∧ (W.drew.alloc (.cells #[.int .u32 (s : Int), .int .i64 y.1.cost] 130)).cell? ⟨Bx, 2, none⟩ = some (.int .u32 (y.1.to : Int)) ∧ IMap (W.drew.alloc (.cells #[.int .u32 (s : Int), .int .i64 y.1.cost] 130)) mb .u32 ml) := by
            obtain ⟨s1, s2, s3, s4, s5⟩ := HS0.out
            exact ⟨KA.cell s1 (fun h => h), KA.cell s2 (fun h => h), KA.cell s3 (fun h => h), KA.cell s4 (fun h => h), s5.keeps KA (fun h => h)⟩
          clear x5c c9 y1 y2
          refine wpAnyHIn_one 11 rfl (by kernel_rfl) rfl (fun K hK => ?_)
          go_simp
          refine hK _ _ (fun _ => HS1.out) ?_
          clear hK K
          refine wpAnyHIn_one 12 rfl (by kernel_rfl) rfl (fun K hK => ?_)
          refine Oper.wpIn_append_lies _ (.tmp 45) (.tmp 50) 128 rfl w.heap.size 130 i0 _ 2 16 Tryz.underlying128 hi0 hz0 hz1 hz2 rfl (by omega) va nb xs rfl HROW.out ⟨W.heap.size, 0, none⟩ 1 1 [.int .u32 (s : Int), .int .i64 y.1.cost] rfl rfl ?hnews ?hone (by omega) (by unfold maxLen; omega) (by omega) (by simp; omega) (W.heap.size + 1) (by simp) ?_
          case hnews => exact World.news_of_block (cs := #[.int .u32 (s : Int), .int .i64 y.1.cost]) (t := 130) (fr := (0, 0)) (heap_alloc_new W.drew _)
          case hone => simp [Value.oneCell']
          intro g4 cap4 W3 hown2 hgrow2 hat2 hlt4
          obtain ⟨W4, hrunU, hG4, hk4⟩ := HT.out (W.drew.alloc (.cells #[.int .u32 (s : Int), .int .i64 y.1.cost] 130)) W3 _ (s, y.1.cost) ((Keeps.refl _ _).alloc _) hgrow2 hown2 (fun g hg => by
            simp [Value.ownBlock] at hg
            subst hg
            rcases hat2 with h | h
            · exact .inl h
            · exact .inr (by simp; omega))
          have k3 : Keeps (fun k => va.ownBlock = some k) (W.drew.alloc (.cells #[.int .u32 (s : Int), .int .i64 y.1.cost] 130)) W3 := (Keeps.refl _ _).grown hgrow2 (fun k hk => .inl hk)
          have n9 : ¬ va.ownBlock = some b9 := fun e => (H5.out _ (HVG.out _ e).1).2 rfl
          have nx : ¬ va.ownBlock = some Bx := fun e => HVX.out _ e rfl
          have nm : ¬ va.ownBlock = some mb := fun e => (HVG.out _ e).2 rfl
          have HS3 : Hid (W3.cell? ⟨b5, 0, none⟩ = some (.map (some mb)) ∧ W3.cell? ⟨b9, 0, none⟩ = some (.int .u32 (s : Int)) ∧ W3.cell? ⟨Bx, 1, none⟩ = some (.int .i64 y.1.cost) ∧ W3.cell? ⟨Bx, 2, none⟩ = some (.int .u32 (y.1.to : Int)) ∧ IMap W3 mb .u32 ml) := by
            obtain ⟨s1, s2, s3, s4, s5⟩ := HS1.out
            exact ⟨k3.cell s1 x5k, k3.cell s2 n9, k3.cell s3 nx, k3.cell s4 nx, s5.keeps k3 nm⟩
          have HKF := Lib.hid (show Keeps (fun k => va.ownBlock = some k ∨ k = mb) W W4 from ((KD.mono (fun _ _ h => h.elim)).trans (KA.mono (fun _ _ h => h.elim))).trans ((k3.mono (fun _ _ h => .inl h)).trans (hk4.mono (fun _ _ h => .inr h))))
          have HG4 := Lib.hid hG4; have HRU := Lib.hid hrunU
          clear hown2 hgrow2 hat2 hlt4 hG4 k3 n9 nx nm KA HS1 hk4 hrunU
          refine hK _ _ (fun _ => HS3.out) ?_
          clear hK K
          have hrunU := HRU.out
          refine wpAnyHIn_one 13 rfl (by kernel_rfl) rfl (fun K hK => ?_)
          go_simp
          refine hK _ _ (fun h => by simp at h) ?_
          clear hK K
          refine wpAnyHIn_done (by kernel_rfl) ?_
          gi_wp2
          have hSG : ∀ k, (va.ownBlock = some k ∨ k = mb) → G' k := fun k hs => by
            rcases hs with h | rfl
            · exact (HVG.out k h).1
            · exact H1.out.back.fmap
          have hSD : ∀ k, (va.ownBlock = some k ∨ k = mb) → W.heap[k]? ≠ some (.deferred (some [])) := fun k hs => by
            rcases hs with h | rfl
            · exact (show W.drew.heap[k]? ≠ _ from row_not_deferred HOW.out k h)
            · exact (show W.drew.heap[k]? ≠ _ from map_not_deferred HML.out)
          have e1 : addB (backF ops (L.take i)) s ((pre ++ [y]).map fun y => y.1) = fun z => if z = y.1.to then addB (backF ops (L.take i)) s (pre.map fun y => y.1) y.1.to ++ [(s, y.1.cost)] else addB (backF ops (L.take i)) s (pre.map fun y => y.1) z := by rw [List.map_append]; exact HSN.out
          refine ⟨⟨HKF.out.size, fun k o hB hk0 hc => ?_⟩, KpS.ofKeeps HKF.out H1.out.keep.size (fun k hlt hs => by have := (H1.out.lG k (hSG k hs)).1; omega) (lt_of_heap H3.out) (fun hs => (H5.out _ (hSG _ hs)).1 rfl), ⟨fun k => k < W4.heap.size ∧ (G' k ∨ W.drew.heap.size ≤ k), ?_, H2.out.keeps (KeepsD.of HKF.out hSD), HKF.out.heap H3.out (fun hs => (H5.out _ (hSG _ hs)).1 rfl), HKF.out.heap H4.out (fun hs => (H5.out _ (hSG _ hs)).2 rfl), fun k hk => ?_⟩⟩
          · refine HKF.out.heap hk0 (fun hs => ?_)
            rcases hs with h | rfl
            · rcases HOW.out.2 with ⟨e', _⟩ | ⟨g, cap, cur, e', _, hg, _⟩
              · rw [e'] at h; simp [Value.ownBlock] at h
              · rw [e'] at h; simp [Value.ownBlock] at h
                subst h
                rw [show W.heap[g]? = _ from hg] at hk0; cases hk0; cases hc
            · omega
          · rw [e1]
            exact H1.out.backed HG4.out (fun k h => h) HKF.out hSG
          · rcases hk.2 with h | h
            · exact H5.out k h
            · have h1 := lt_of_heap H3.out
              have h2 := lt_of_heap H4.out
              have h3 : W.heap.size ≤ k := h
              exact ⟨by omega, by omega⟩
        · rintro D ys W hD hys ⟨G', h1, h2, h3, h4, h5⟩ hd
          have hys' : (ys.map fun y => y.1) = wsteps ops s := hys
          rw [hys', ← backF_snoc, ← HTK.out] at h1
          have HM7 := Lib.hid (HM6.out.cons h2 hD (by omega) hd)
          have HST := Lib.hid (show CLoop ops (goalB g0) L w b5 mb bo Q (i + 1) (mark D :: ds) W from ⟨⟨t', F', G', h1, ht0', ht1'⟩, HM7.out⟩)
          clear h1 h2 h3 h4 h5 hd hys hys'
          gi_wp2
          refine ⟨⟨mark D :: ds, i + 1, HST.out, by omega, ex_fnD rfl⟩, ?_⟩
          show L.length - (intOf (.int .i64 (((i + 1 : Nat) : Int)))).toNat < L.length - (intOf (.int .i64 (i : Int))).toNat
          simp only [intOf]; omega
        · exact fun _ _ _ _ _ _ h _ => h.elim
    · have hie : i = L.length := by omega
      subst hie
      rw [List.take_length] at hst
      have HST := Lib.hid hst; have HMK := Lib.hid HL.out.marks
      have hl0 := (LInv.start HSH.out (goalB g0) 0)
      have hw0 := weightC_bound (d := L.map (start0 (goalB g0))) (fun x hx => by
        obtain ⟨y, _, rfl⟩ := List.mem_map.1 hx
        unfold start0; split <;> decide)
      rw [List.length_map] at hw0
      have hbig : bigC = 1000000000 := rfl
      rw [hbig] at hw0
      have HL0 := Lib.hid hl0
      have hq0 := queue0_len (goalB g0) L
      have HW0 := Lib.hid hw0
      clear hst HL hl0 hw0 hq0
      gi_wp2
      refine wpIn_loop_ghost (fun n a' wr => ∃ (D : Nat → Int) (A : List (Int × Int)) (t : Int) (F G : Nat → Prop), CSt w b5 mb bo Q (backF ops L) L D A t F G wr ∧ LInv ops L (goalB g0) D A 0 [] ∧ 0 ≤ t ∧ t + (weightC (L.map D) : Int) ≤ 2000000002000 ∧ n = 2 * weightC (L.map D) + A.length ∧ Marks ds wr w.heap.size ∧
          ∃ u : Nat → Value, a' = { tmps := #[.pointer (some ⟨b, 0, none⟩), .slice av L.length cv, undef, undef, .map none, .pointer (some ⟨b5, 0, none⟩), .map (some bo), .pointer (some ⟨Q, 0, none⟩), u 8, u 9, u 10, u 11, u 12, u 13, u 14, u 15, u 16, u 17, u 18, u 19, u 20, u 21, u 22, u 23, u 24, u 25, u 26, u 27, u 28, u 29, u 30, u 31, u 32, u 33, u 34, u 35, u 36, u 37, u 38, u 39, u 40, u 41, u 42, u 43, u 44, u 45, u 46, u 47, u 48, u 49, u 50, u 51, u 52, u 53, u 54, u 55, u 56, u 57, u 58, u 59, u 60, u 61, u 62, u 63, u 64, u 65, u 66, u 67, u 68, u 69, u 70, u 71, u 72, u 73, u 74, u 75, u 76, u 77, u 78, u 79, u 80, u 81, u 82, u 83, u 84, u 85, u 86, u 87, u 88, u 89, u 90, u 91, u 92, u 93, u 94, u 95], defers := ds })
        (2 * weightC (L.map (start0 (goalB g0))) + (queue0 (goalB g0) L).length) ?start2 ?round2
      case start2 => exact ⟨_, _, t, F, G, HST.out, HL0.out, ht0, by have := HW0.out; omega, rfl, HMK.out, ex_fnD rfl⟩
      case round2 =>
        rintro n a wr ⟨D, A, t, F, G, hst, hli, ht0, htw, rfl, hmk, u, rfl⟩
        have HS := Lib.hid hst; have HLI := Lib.hid hli; have HMR := Lib.hid hmk
        clear hst hli hmk HST HL0 HMK HW0
        gi_wp2
        refine ⟨trivial, ?_⟩
        refine (callsIn_wide.2 (U.qlen_any wr Q A t F HS.out.q)).mono ?_; rintro e w2 ⟨rfl, rfl⟩
        by_cases hA : A = []
        · subst hA
          gi_wp2
          refine leaves_marks HMR.out (fun W' hk => ?_)
          exact ⟨.map (some bo), by simp [results, Tryz.results51, go_sem], HS.out.keep.trans' hk (fun i hi => .inr hi.1), bo, D, rfl, HS.out.lo, HS.out.out.keeps hk (fun hs => map_not_deferred HS.out.out hs.2), HLI.out.done⟩
        · cases hfm : U.firstMin A with
          | none => exact absurd (U.firstMin_none.1 hfm) hA
          | some q =>
            obtain ⟨s, hsL, rfl, hsb⟩ := HLI.out.key q (U.firstMin_mem hfm)
            have hpos : 0 < A.length := List.length_pos_iff.2 hA
            have hposi : (0 : Int) < (A.length : Int) := by omega
            have HFM := Lib.hid hfm
            clear hA hfm
            gi_wp2
            refine ⟨trivial, ?_⟩
            refine (callsIn_wide.2 (U.take_some wr Q A t F HS.out.q (s : Int) (D s) HFM.out)).mono ?_; rintro e W2 ⟨rfl, hq2, hk2⟩
            have hs2 : CSt w b5 mb bo Q (backF ops L) L D (dropA A s) t (fun k => F k ∧ k < W2.heap.size ∧ W2.heap[k]? ≠ some (.deferred (some []))) G W2 := HS.out.queued hq2 (fun k h => .inl h) hk2
            have hmk2 := HMR.out.keeps (HS.out.kd hk2)
            have hli2 : LInv ops L (goalB g0) D (dropA A s) s (backF ops L s) := HLI.out.take (fun x hx o ho hc hn => backF_mem hx ho hc hn)
            have hdl := dropA_len (U.firstMin_mem HFM.out)
            have hnb : (backF ops L s).length ≤ 80000 := by have h1 := backF_len hmany L s; omega
            obtain ⟨va, hlk, hown, hvG⟩ := hs2.back.look (P := Tryz.prog) Tryz.underlying127 Tryz.underlying66 (show (zeroValue 128).run Tryz.prog W2 = .ok (.slice none 0 0) W2 by kernel_rfl) s
            obtain ⟨ab, cb, hav⟩ := ownsRow_formN hown
            subst hav
            have x5c := hs2.x5.cell
            have x5l := hs2.x5.lt
            generalize (fun k => F k ∧ k < W2.heap.size ∧ W2.heap[k]? ≠ some (.deferred (some []))) = F2 at hs2
            have HS2 := Lib.hid hs2; have HM2 := Lib.hid hmk2; have HLI2 := Lib.hid hli2; have HRW := Lib.hid hown
            have HVG := Lib.hid (show ∀ k, (Value.slice ab (backF ops L s).length cb).ownBlock = some k → G k from fun k hk => (hvG k hk).1)
            have hM : 2 * weightC (L.map D) + (dropA A s).length < 2 * weightC (L.map D) + A.length := by omega
            clear hs2 hmk2 hli2 hown hvG hq2 hk2 HS HMR HLI HFM hpos hdl
            generalize hnn : (backF ops L s).length = nb at hnb HRW HVG hlk ⊢
            generalize hMM : 2 * weightC (L.map D) + A.length = M0 at hM ⊢
            generalize hdd : D s = d at hsb ⊢
            have HNN := Lib.hid hnn
            have HMM := Lib.hid hMM
            clear hnn hMM hposi
            gi_wp2
            have hdl2 : D s = d := hdd
            refine wpIn_loop (fun a' wx => ∃ k : Nat, CS3 ops L g0 w b5 mb bo Q G s d M0 (.slice ab nb cb) nb ds k wx ∧ k ≤ nb ∧ Fr3 b av L cv b5 bo Q s d ab nb cb k ds a')
              (fun a' _ => nb - (intOf (a'.tmps.getD 66 undef)).toNat) ?start3 ?round3
            case start3 => exact ⟨0, ⟨D, dropA A s, t, ⟨F2, HS2.out⟩, HLI2.out, hdd, ht0, htw, hM, HM2.out, HRW.out⟩, Nat.zero_le _, ex_fnD rfl⟩
            case round3 =>
              rintro a wx ⟨k, ⟨D', A', t', ⟨F', hst⟩, hli, hds, ht0, htw, hM, hmk, hrow⟩, hk, u, rfl⟩
              clear HS2 HLI2 HM2 HRW x5c x5l hlk
              by_cases hlt : k < nb
              · obtain ⟨⟨x, c⟩, hp⟩ : ∃ p, (backF ops L s)[k]? = some p := ⟨_, List.getElem?_eq_getElem (by rw [HNN.out]; exact hlt)⟩
                obtain ⟨hxL, o, ho, hoc, hon, hcost⟩ := backF_spec (List.mem_of_getElem? hp)
                obtain ⟨gg, cap, hv, hgl, e0, e1⟩ := arow_at (by rw [HNN.out]; exact hrow) hp
                simp only [Value.slice.injEq] at hv
                obtain ⟨rfl, hmid, rfl⟩ := hv
                clear hmid
                simp only at hxL hoc hon hcost e0 e1
                have hc0 := HCO.out o ho
                rw [hcost] at hc0
                have hdrop := drop_getS hp
                rw [hdrop] at hli
                have hdlo : 0 ≤ d := by rw [← hds]; exact (hli.inv.lo (D' s) (List.mem_map.2 ⟨s, hsL, rfl⟩)).1
                have hxlo := hli.inv.lo (D' x) (List.mem_map.2 ⟨x, hxL, rfl⟩)
                have hbig2 : bigC = 1000000000 := rfl
                rw [hbig2] at hxlo hsb
                have hql : A'.length ≤ 2000 := by
                  obtain ⟨_, _, _, _, _, hqr⟩ := hst.q
                  have := hli.few hqr.ndA; omega
                have KA := (Keeps.refl (fun _ => False) wx).alloc (.cells #[.int .u32 (x : Int), .int .i64 c] 130)
                have hsA := hst.keeps0 KA
                have hb15 := heap_alloc_new wx (.cells #[.int .u32 (x : Int), .int .i64 c] 130)
                have hlko := (hsA.out.run_lookup_hit (P := Tryz.prog) Tryz.underlying88 Tryz.underlying66 (outV_nodup HSH.out.1 D') (outV_mem D' hxL)).2
                have hrA := KA.ownsRow hrow (fun _ _ h => h)
                have hmA := hmk.keeps (KeepsD.of0 KA)
                have HSA := Lib.hid hsA; have HLI := Lib.hid hli; have HMA := Lib.hid hmA; have HRA := Lib.hid hrA; have HB15 := Lib.hid hb15
                clear hst hli hmk hrow hp hdrop hsA hmA hrA KA hb15
                by_cases hlow : d + c < D' x
                · obtain ⟨ix, hix⟩ := List.mem_iff_getElem?.1 hxL
                  obtain ⟨W4, hrunU, hI4, hk4⟩ := HSA.out.out.run_update_old (P := Tryz.prog) Tryz.underlying88 Tryz.underlying66 (outV_nodup HSH.out.1 D') (outV_get D' hix) (.int .i64 (d + c))
                  rw [outV_set HSH.out.1 D' hix] at hI4
                  have hbo15 : ¬ wx.heap.size = bo := fun e => by
                    obtain ⟨es, cc, hb, _⟩ := HSA.out.out
                    rw [← e, HB15.out] at hb; cases hb
                  have hb4 := hk4.heap HB15.out hbo15
                  have c150 : W4.cell? ⟨wx.heap.size, 0, none⟩ = some (.int .u32 (x : Int)) := by rw [cell_of_blk hb4]; rfl
                  have c151 : W4.cell? ⟨wx.heap.size, 1, none⟩ = some (.int .i64 c) := by rw [cell_of_blk hb4]; rfl
                  have hb4l := lt_of_heap hb4
                  have HS4 := Lib.hid (HSA.out.outed hI4 hk4)
                  have HM4 := Lib.hid (HMA.out.keeps (KeepsD.of hk4 (fun k hk => by subst hk; exact map_not_deferred HSA.out.out)))
                  have HR4 := Lib.hid (hk4.ownsRow HRA.out (fun k hk e => by subst e; exact (HSA.out.lG _ (HVG.out _ hk)).2.2.2 rfl))
                  clear hI4 hk4 hb4
                  gi_wp2
                  refine ⟨trivial, ?_⟩
                  refine (callsIn_wide.2 (U.set_both W4 Q A' t' F' HS4.out.q (x : Int) (d + c) ⟨ht0, by omega⟩ (by omega))).mono ?_; rintro e W5 ⟨rfl, F5, hq5, hF5, hk5⟩
                  have HS5 := Lib.hid (HS4.out.queued hq5 hF5 hk5)
                  have HM5 := Lib.hid (HM4.out.keeps (HS4.out.kd hk5))
                  have HR5 := Lib.hid (hk5.ownsRow HR4.out (fun k hk hF => (HS4.out.lF k hF).2.2.2.2 (HVG.out k hk)))
                  have hturn := HLI.out.turn HSH.out.1 hsL hxL ho hoc hon hcost hc0.1 (by rw [hds]; exact hsb) (by rw [hds]; exact hlow)
                  rw [hds] at hturn
                  obtain ⟨t1, t2, t3, t4⟩ := hturn
                  have hpl := putA_len A' (x : Int) (d + c)
                  have HT1 := Lib.hid t1
                  clear t1 hq5 hF5 hk5 HS4 HM4 HR4 HSA HLI HMA HRA HB15 hrunU hlko c150 c151
                  gi_wp2
                  refine ⟨⟨k + 1, ⟨upd D' x (d + c), putA A' (x : Int) (d + c), t' + 1, ⟨_, HS5.out⟩, HT1.out, t3, by omega, by omega, by omega, HM5.out, HR5.out⟩, by omega, ex_fnD rfl⟩, ?_⟩
                  show nb - (intOf (.int .i64 (((k + 1 : Nat) : Int)))).toNat < nb - (intOf (.int .i64 (k : Int))).toNat
                  simp only [intOf]; omega
                · have HT1 := Lib.hid (HLI.out.skip (by rw [hds]; omega))
                  gi_wp2
                  refine ⟨⟨k + 1, ⟨D', A', t', ⟨F', HSA.out⟩, HT1.out, hds, ht0, htw, hM, HMA.out, HRA.out⟩, by omega, ex_fnD rfl⟩, ?_⟩
                  show nb - (intOf (.int .i64 (((k + 1 : Nat) : Int)))).toNat < nb - (intOf (.int .i64 (k : Int))).toNat
                  simp only [intOf]; omega
              · have hke : k = nb := by omega
                subst hke
                rw [List.drop_of_length_le (by rw [HNN.out]; exact Nat.le_refl _)] at hli
                have HSX := Lib.hid hst; have HLX := Lib.hid (hli.anyS (s' := 0)); have HMX := Lib.hid hmk
                clear hst hli hmk hrow
                gi_wp2
                exact ⟨_, by rw [HMM.out]; exact hM, D', A', t', F', G, HSX.out, HLX.out, ht0, htw, rfl, HMX.out, ex_fnD rfl⟩

theorem costs_any (w : World) (b st g0 base : Nat) (v vl : Value) (ops : List Wop) (L : List Nat) (hw : WordsAt w base b st g0 v ops) (hops : WopsOk ops) (hmany : ops.length ≤ 40) (hg0 : g0 < 4294967296) (hsh : Shut ops L) (hfew : L.length ≤ 2000)
    (hL32 : ∀ x ∈ L, x < 4294967296) (hcost : ∀ o ∈ ops, 0 ≤ o.cost ∧ o.cost ≤ 1000000) (hvl : Sl w vl L.length (L.map encW)) :
    Calls Tryz.prog 51 #[.pointer (some ⟨b, 0, none⟩), vl] w (CostsPost ops L (goalB g0) w) := callsIn_wide.1 (costs_in w b st g0 base v vl ops L hw hops hmany hg0 hsh hfew hL32 hcost hvl)

end Go.Proofs.YtdokakhgflljgaaGreat

namespace Go.Proofs.YtdokakhgflljgaaGreat
open Go.RowKit

/-! ### lists -/
/-! ### States -/
/-- The words in increasing order (by their lists of facts). -/
def ordW (a b : Nat) : Prop := ¬ cmpW b a < 0

end Go.Proofs.YtdokakhgflljgaaGreat

namespace Go.Proofs.YtdokakhgflljgaaGreat
open Go.RowKit

def stateFault (t : Tsk) (s : List Int) : Int × Int := if (taskFault t).1 = 0 then (if isSetB s t.n = true then (0, 0) else (5, -4)) else taskFault t

set_option maxHeartbeats 1000000 in
theorem stateFault_any (w : World) (vi vg vo vs : Value) (t : Tsk) (s : List Int) (h : TaskAt w vi vg vo t) (hs : Ints w vs s) :
    Calls Tryz.prog 94 #[.agg #[.int .i64 t.n, vi, vg, vo], vs] w fun e w' => e = .returned (.agg #[.int .i64 (stateFault t s).1, .int .i64 (stateFault t s).2]) ∧ Keeps (fun _ => False) w w' := by
  obtain ⟨ai, ci, h1, _⟩ := h.init.form
  obtain ⟨ag, cg, h2, _⟩ := h.goal.form
  obtain ⟨ao, co, h3, hmo⟩ := h.ops.form
  obtain ⟨aa, cs, h4, _⟩ := hs.form
  subst h1 h2 h3 h4
  have K1 := (Keeps.refl (fun _ => False) w).alloc (.cells #[.int .i64 t.n, .slice ai t.init.length ci, .slice ag t.goal.length cg, .slice ao t.ops.length co] 25)
  have HT := h.keeps0 (K1.alloc (.cells #[.int .i64 0, .int .i64 0] 31))
  have HSS : Ints _ _ s := hs.keeps0 (K1.alloc (.cells #[.int .i64 0, .int .i64 0] 31))
  have HB := (Four.new w (.int .i64 t.n) (.slice ai t.init.length ci) (.slice ag t.goal.length cg) (.slice ao t.ops.length co) 25).keeps0 ((Keeps.refl _ _).alloc (.cells #[.int .i64 0, .int .i64 0] 31))
  have HF : Flt w ((w.alloc (.cells #[.int .i64 t.n, .slice ai t.init.length ci, .slice ag t.goal.length cg, .slice ao t.ops.length co] 25)).alloc (.cells #[.int .i64 0, .int .i64 0] 31)) (w.heap.size + 1) 31 :=
    ⟨by have := heap_alloc_new (w.alloc (.cells #[.int .i64 t.n, .slice ai t.init.length ci, .slice ag t.goal.length cg, .slice ao t.ops.length co] 25)) (.cells #[.int .i64 0, .int .i64 0] 31); rwa [World.size_alloc] at this, by omega, K1.alloc _⟩
  replace HT := Lib.hid HT; replace HB := Lib.hid HB; replace HF := Lib.hid HF; replace HSS := Lib.hid HSS
  clear h hs K1
  go_enter Tryz.func94, Tryz.ntmps94
  go_upto_region 1 with fail
  generalize ((w.alloc (.cells #[.int .i64 t.n, .slice ai t.init.length ci, .slice ag t.goal.length cg, .slice ao t.ops.length co] 25)).alloc (.cells #[.int .i64 0, .int .i64 0] 31)) = w1 at HT HB HF HSS ⊢
  have hbx := HB.out.lt
  obtain ⟨d0, d1, d2, d3⟩ := HB.out
  go_wp2_with fail
  refine (validate_any _ _ _ _ t HT.out).mono ?_; rintro e w2 ⟨rfl, hk⟩
  have HF2 := Lib.hid (HF.out.keeps0 hk)
  have HB2 := HB.out.keeps0 hk
  have hbx2 := HB2.lt
  have KA := (Keeps.refl (fun _ => False) w2).alloc (.cells #[.int .i64 (taskFault t).1, .int .i64 (taskFault t).2] 31)
  have HF3 := Lib.hid (HF2.out.keeps0 KA)
  have HS3 := Lib.hid ((HSS.out.keeps0 hk : Ints w2 _ s).keeps0 KA)
  clear d0 d1 d2 d3 hk
  obtain ⟨d0, d1, d2, d3⟩ := HB2.keeps0 KA
  obtain ⟨e0, e1, z0, z1, hF⟩ := HF3.out.cells
  clear KA HB2
  by_cases hc : (taskFault t).1 = 0
  · have hok := taskFault_zero.1 hc
    have hft := taskFault_ok hok
    rw [hft] at HF3 HS3 d0 d1 d2 d3 e0 e1 z0 z1 hF ⊢
    cases b1 : isSetB s t.n with
    | true =>
      have HP : Hid (stateFault t s = (0, 0)) := by unfold Hid stateFault; rw [if_pos hc, if_pos b1]
      have B1 := Lib.hid b1
      clear hc hft hok b1
      go_wp2_with fail
      refine (sIsSet_val HS3.out B1.out).mono ?_; rintro e w5 ⟨rfl, rfl⟩
      go_wp2_with fail
      refine bodyPost_ret (results_cell_row rfl _ _ (w.heap.size + 1) 31 _ (0, 0) _ rfl (HF3.out.set (.int .i64 0) (.int .i64 0)).1 Tryz.underlying31 rfl (by kernel_rfl)) rfl ?_
      exact ⟨by rw [HP.out], (HF3.out.set _ _).2⟩
    | false =>
      have HP : Hid (stateFault t s = (5, -4)) := by unfold Hid stateFault; rw [if_pos hc, if_neg (by simp [b1])]
      have B1 := Lib.hid b1
      clear hc hft hok b1
      go_wp2_with fail
      refine (sIsSet_val HS3.out B1.out).mono ?_; rintro e w5 ⟨rfl, rfl⟩
      go_wp2_with fail
      refine bodyPost_ret (results_cell_row rfl _ _ (w.heap.size + 1) 31 _ (0, 0) _ rfl (HF3.out.set (.int .i64 5) (.int .i64 (-4))).1 Tryz.underlying31 rfl (by kernel_rfl)) rfl ?_
      exact ⟨by rw [HP.out], (HF3.out.set _ _).2⟩
  · have HP : Hid (stateFault t s = taskFault t) := by unfold Hid stateFault; rw [if_neg hc]
    have hc2 : ((taskFault t).1 == 0) = false := by simpa using hc
    clear hc
    generalize hfe : taskFault t = f at hc2 HP HF3 HS3 d0 d1 d2 d3 e0 e1 z0 z1 hF ⊢
    clear hfe
    go_wp2_with fail
    refine bodyPost_ret (results_cell_row rfl _ _ (w.heap.size + 1) 31 _ (0, 0) _ rfl (HF3.out.set (.int .i64 f.1) (.int .i64 f.2)).1 Tryz.underlying31 rfl (by kernel_rfl)) rfl ?_
    exact ⟨by rw [HP.out], (HF3.out.set _ _).2⟩

/-! ### breadth.Reach -/
end Go.Proofs.YtdokakhgflljgaaGreat

namespace Go.Proofs.YtdokakhgflljgaaGreat
open Go.RowKit

def stepT : Tsk := ⟨1, [], [0], [⟨[], [0], [], 3⟩]⟩

theorem Ints.nil (w : World) : Ints w (.slice none 0 0) [] := ⟨none, 0, rfl, by simp, fun h => by simp at h⟩
theorem Ints.one {w : World} {b : Nat} {x : Int} {T : TypeId} (h : w.heap[b]? = some (.cells #[.int .i64 x] T (0, 0))) : Ints w (.slice (some ⟨b, 0, none⟩) 1 1) [x] := by
  refine ⟨_, _, rfl, by simp [maxLen], fun _ => ⟨b, 0, rfl, fun j y hj => ?_⟩⟩
  rw [Nat.zero_add, cell_of_blk h]
  cases j with
  | zero => simpa using hj
  | succ j => simp at hj

set_option maxRecDepth 100000 in
theorem step_any (w : World) : Calls Tryz.prog 27 #[] w fun e w' => ∃ vi vg vo, e = .returned (.agg #[.int .i64 1, vi, vg, vo]) ∧ TaskAt w' vi vg vo stepT ∧ Keeps (fun _ => False) w w' := by
  go_enter Tryz.func27, Tryz.ntmps27
  go_wp2_with fail
  generalize hw1 : w.alloc (Obj.cells #[.int .i64 1, .slice none 0 0, .slice (some ⟨w.heap.size + 1, 0, none⟩) 1 1, .slice (some ⟨w.heap.size + 1 + 1 + 1, 0, none⟩) 1 1] 25) = w1
  have s1 : w1.heap.size = w.heap.size + 1 := by rw [← hw1]; simp
  have k1 : Keeps (fun _ => False) w w1 := by rw [← hw1]; exact (Keeps.refl _ _).alloc _
  have b1 : w1.heap[w.heap.size]? = some (.cells #[.int .i64 1, .slice none 0 0, .slice (some ⟨w.heap.size + 1, 0, none⟩) 1 1, .slice (some ⟨w.heap.size + 1 + 1 + 1, 0, none⟩) 1 1] 25 (0, 0)) := by rw [← hw1]; exact heap_alloc_new _ _
  clear hw1
  have b2 := heap_alloc_new w1 (.cells #[.int .i64 0] 3)
  have k2 := (Keeps.refl (fun _ => False) w1).alloc (.cells #[.int .i64 0] 3)
  have s2 : (w1.alloc (.cells #[.int .i64 0] 3)).heap.size = w1.heap.size + 1 := by simp
  generalize w1.alloc (.cells #[.int .i64 0] 3) = w2 at b2 k2 s2 ⊢
  have b3 := heap_alloc_new w2 (.cells #[.int .i64 0] 3)
  have k3 := (Keeps.refl (fun _ => False) w2).alloc (.cells #[.int .i64 0] 3)
  have s3 : (w2.alloc (.cells #[.int .i64 0] 3)).heap.size = w2.heap.size + 1 := by simp
  generalize w2.alloc (.cells #[.int .i64 0] 3) = w3 at b3 k3 s3 ⊢
  have b4 := heap_alloc_new w3 (.cells #[.slice none 0 0, .slice (some ⟨w.heap.size + 1 + 1, 0, none⟩) 1 1, .slice none 0 0, .int .i64 3] 80)
  have k4 := (Keeps.refl (fun _ => False) w3).alloc (.cells #[.slice none 0 0, .slice (some ⟨w.heap.size + 1 + 1, 0, none⟩) 1 1, .slice none 0 0, .int .i64 3] 80)
  generalize w3.alloc (.cells #[.slice none 0 0, .slice (some ⟨w.heap.size + 1 + 1, 0, none⟩) 1 1, .slice none 0 0, .int .i64 3] 80) = w4 at b4 k4 ⊢
  have k14 := k2.trans (k3.trans k4)
  refine bodyPost_ret (results_cell_row rfl _ _ w.heap.size 25 _ (0, 0) _ rfl (k14.heap b1 (fun h => h)) Tryz.underlying25 rfl (by kernel_rfl)) rfl ?_
  have e1 : w1.heap.size = w.heap.size + 1 := s1
  have e2 : w2.heap.size = w.heap.size + 1 + 1 := by omega
  have e3 : w3.heap.size = w.heap.size + 1 + 1 + 1 := by omega
  rw [e1] at b2; rw [e2] at b3; rw [e3] at b4
  refine ⟨_, _, _, rfl, ⟨Ints.nil _, Ints.one ((k3.trans k4).heap b2 (fun h => h)), ⟨_, _, rfl, by simp [maxLen, stepT], fun _ => ⟨_, 0, rfl, fun i o ho => ?_⟩⟩⟩, k1.trans k14⟩
  cases i with
  | zero =>
    simp [stepT] at ho; subst ho
    refine ⟨.slice none 0 0, .slice (some ⟨w.heap.size + 1 + 1, 0, none⟩) 1 1, .slice none 0 0, ?_, ?_, ?_, ?_, Ints.nil _, Ints.one (k4.heap b3 (fun h => h)), Ints.nil _⟩
    all_goals (rw [cell_of_blk b4]; rfl)
  | succ i => simp [stepT] at ho

theorem stepT_ok : taskFault stepT = (0, 0) := by decide
theorem stepT_reached : explored stepT = some [0, 1] := reached_of_end (i := 2) (by decide) rfl
end Go.Proofs.YtdokakhgflljgaaGreat

namespace Go.Proofs.YtdokakhgflljgaaGreat
open Go.RowKit

theorem good_next_mem {t : Tsk} (ok : t.Ok) {x y : Nat} (hx : Good t.n x) (hy : y ∈ nexts (wordsOf t.ops) x) : Good t.n y := by
  unfold nexts at hy
  obtain ⟨wo, hwo, rfl⟩ := List.mem_map.1 hy
  have hm := (List.mem_filter.1 hwo).1
  unfold wordsOf at hm
  obtain ⟨o, ho, rfl⟩ := List.mem_map.1 hm
  exact (good_next (by have := ok.n1; omega) (ok.ops o ho) hx).2.2
theorem good_reach {t : Tsk} (ok : t.Ok) {s x : Nat} (hs : Good t.n s) (h : Reach (wordsOf t.ops) s x) : Good t.n x := by
  induction h with
  | refl => exact hs
  | step _ hy ih => exact good_next_mem ok ih hy
theorem good_explored {t : Tsk} (ok : t.Ok) {L : List Nat} (h : explored t = some L) : ∀ x ∈ L, Good t.n x := by
  intro x hx
  exact good_reach ok (good_wd (by have := ok.n1; omega) ok.init) (((reached_some h).2.2.2 x).1 hx)
end Go.Proofs.YtdokakhgflljgaaGreat

namespace Go.Proofs.YtdokakhgflljgaaGreat
open Go.RowKit

def OptPost (t : Tsk) (w : World) (e : Ending) (w' : World) : Prop := Keeps (fun _ => False) w w' ∧
  ((∃ c i, c ≠ 0 ∧ expF t = (c, i) ∧ e = .returned (.tuple #[.int .i64 0, fltV c i])) ∨
   (t.Ok ∧ ∃ (l ws : List Nat) (D : Nat → Int), explored t = some l ∧ ws.Perm l ∧ ws.Pairwise ordW ∧ CostOk (arcs (wordsOf t.ops) ws) (ws.map (goalB (wd t.goal))) (ws.map D) ∧ e = .returned (.tuple #[.int .i64 (D (wd t.init)), fltV 0 0])))

/-- What Costs asks for. -/
theorem costs_need {t : Tsk} (ok : t.Ok) {l ws : List Nat} (hx : explored t = some l) (hp : ws.Perm l) :
    wd t.init < 4294967296 ∧ wd t.goal < 4294967296 ∧ (wordsOf t.ops).length ≤ 40 ∧ Shut (wordsOf t.ops) ws ∧ ws.length ≤ 2000 ∧ (∀ x ∈ ws, x < 4294967296) ∧ (∀ o ∈ wordsOf t.ops, 0 ≤ o.cost ∧ o.cost ≤ 1000000) ∧ wd t.init ∈ ws := by
  have hs32 : wd t.init < 4294967296 := wd_lt32 (by have := ok.n1; omega : t.n ≤ 32) ok.init
  have hg32 : wd t.goal < 4294967296 := wd_lt32 (by have := ok.n1; omega : t.n ≤ 32) ok.goal
  have hsh := shut_reached (ops := wordsOf t.ops) (s := wd t.init) (L := l) hx
  have hr := reached_some (ops := wordsOf t.ops) (s := wd t.init) (l := l) hx
  refine ⟨hs32, hg32, by unfold wordsOf; rw [List.length_map]; exact ok.few, ⟨hp.nodup_iff.2 hsh.1, fun x h o ho hc => hp.mem_iff.2 (hsh.2 x (hp.mem_iff.1 h) o ho hc)⟩, by rw [hp.length_eq]; exact hr.2.1, fun x h => reach_small (wops_ok ok) hs32 ((hr.2.2.2 x).1 (hp.mem_iff.1 h)), fun o ho => ?_, hp.mem_iff.2 (List.mem_of_getElem? hr.2.2.1)⟩
  unfold wordsOf at ho
  obtain ⟨o', ho', rfl⟩ := List.mem_map.1 ho
  have h := ok.ops o' ho'
  have hc : o'.word.cost = o'.cost := rfl
  rw [hc]
  exact ⟨h.cost0, by have := h.cost1; omega⟩

set_option maxRecDepth 100000 in
set_option maxHeartbeats 2000000 in
theorem optimal_any (w : World) (vi vg vo : Value) (t : Tsk) (h : TaskAt w vi vg vo t) :
    Calls Tryz.prog 26 #[.agg #[.int .i64 t.n, vi, vg, vo]] w (OptPost t w) := by
  obtain ⟨j0, hj0, jz0, jz1, jz2⟩ := info_parts Tryz.info3
  obtain ⟨ai, ci, h1, _⟩ := h.init.form
  obtain ⟨ag, cg, h2, _⟩ := h.goal.form
  obtain ⟨ao, co, h3, hmo⟩ := h.ops.form
  subst h1 h2 h3
  have K1 := (Keeps.refl (fun _ => False) w).alloc (.cells #[.int .i64 t.n, .slice ai t.init.length ci, .slice ag t.goal.length cg, .slice ao t.ops.length co] 25)
  have HT := h.keeps0 (K1.alloc (.cells #[.int .i64 0, .int .i64 0] 31))
  have HB := (Four.new w (.int .i64 t.n) (.slice ai t.init.length ci) (.slice ag t.goal.length cg) (.slice ao t.ops.length co) 25).keeps0 ((Keeps.refl _ _).alloc (.cells #[.int .i64 0, .int .i64 0] 31))
  have HF : Flt w ((w.alloc (.cells #[.int .i64 t.n, .slice ai t.init.length ci, .slice ag t.goal.length cg, .slice ao t.ops.length co] 25)).alloc (.cells #[.int .i64 0, .int .i64 0] 31)) (w.heap.size + 1) 31 :=
    ⟨by have := heap_alloc_new (w.alloc (.cells #[.int .i64 t.n, .slice ai t.init.length ci, .slice ag t.goal.length cg, .slice ao t.ops.length co] 25)) (.cells #[.int .i64 0, .int .i64 0] 31); rwa [World.size_alloc] at this, by omega, K1.alloc _⟩
  replace HT := Lib.hid HT; replace HB := Lib.hid HB; replace HF := Lib.hid HF
  clear h K1
  go_enter Tryz.func26, Tryz.ntmps26
  go_upto_region 1 with fail
  generalize ((w.alloc (.cells #[.int .i64 t.n, .slice ai t.init.length ci, .slice ag t.goal.length cg, .slice ao t.ops.length co] 25)).alloc (.cells #[.int .i64 0, .int .i64 0] 31)) = w1 at HT HB HF ⊢
  have hbx := HB.out.lt
  obtain ⟨d0, d1, d2, d3⟩ := HB.out
  go_wp2_with fail
  refine (checked_any _ _ _ _ t HT.out).mono ?_; rintro e w2 ⟨hk, hr⟩
  have HF2 := Lib.hid (HF.out.keeps0 hk)
  clear d0 d1 d2 d3 hk
  have hb0 := HF2.out.keep.size
  rcases hr with ⟨hc, rfl⟩ | ⟨hok, hx, rfl⟩ | ⟨hok, l, hx, b, v, vl, ws, rfl, hw, hperm, hord, hown⟩
  · have hc2 : ((taskFault t).1 == 0) = false := by simpa using hc
    have HE := Lib.hid (show expF t = taskFault t by unfold expF; rw [if_neg hc])
    have HC := Lib.hid hc
    clear hc
    generalize hfe : taskFault t = f at hc2 HC HE ⊢
    clear hfe
    have HF3 := Lib.hid (HF2.out.keeps0 ((Keeps.refl _ _).alloc (.cells #[.int .i64 f.1, .int .i64 f.2] 31)))
    obtain ⟨e0, e1, z0, z1, hF⟩ := HF3.out.cells
    go_wp2_with fail
    go_region
    all_goals
      go_wp2
      refine bodyPost_ret (results_tmp_cell _ _ (w.heap.size + 1) 31 #[.int .i64 f.1, .int .i64 f.2] (0, 0) _ rfl rfl (((Keeps.refl (fun _ => False) _).drew).heap (HF3.out.set (.int .i64 f.1) (.int .i64 f.2)).1 (fun h => h)) Tryz.underlying31 rfl (by kernel_rfl)) rfl ?_
      exact ⟨((HF3.out.set (.int .i64 f.1) (.int .i64 f.2)).2).drew, .inl ⟨f.1, f.2, HC.out, HE.out, rfl⟩⟩
  · have HE := Lib.hid (show expF t = (10, -7) by unfold expF; rw [if_pos (taskFault_zero.2 hok), hx])
    clear hx hok
    have HF3 := Lib.hid (HF2.out.keeps0 ((Keeps.refl _ _).alloc (.cells #[.int .i64 10, .int .i64 (-7)] 31)))
    obtain ⟨e0, e1, z0, z1, hF⟩ := HF3.out.cells
    go_wp2_with fail
    go_region
    all_goals
      go_wp2
      refine bodyPost_ret (results_tmp_cell _ _ (w.heap.size + 1) 31 #[.int .i64 10, .int .i64 (-7)] (0, 0) _ rfl rfl (((Keeps.refl (fun _ => False) _).drew).heap (HF3.out.set (.int .i64 10) (.int .i64 (-7))).1 (fun h => h)) Tryz.underlying31 rfl (by kernel_rfl)) rfl ?_
      exact ⟨((HF3.out.set (.int .i64 10) (.int .i64 (-7))).2).drew, .inl ⟨10, -7, by decide, HE.out, rfl⟩⟩
  · have HX := Lib.hid hx; have OK := Lib.hid hok; have PERM := Lib.hid hperm; have ORD := Lib.hid (show ws.Pairwise ordW from hord)
    obtain ⟨n1, n2, n3, n4, hfew, n6, n7, n8⟩ := costs_need hok hx hperm
    have KA := (Keeps.refl (fun _ => False) w2).alloc (.cells #[.int .i64 0, .int .i64 0] 31)
    have HV := Lib.hid (show Sl _ vl ws.length (ws.map encW) from (Sl.of_own hown).keeps0 KA)
    have HWA := Lib.hid (hw.keeps0 KA)
    have HF3 := Lib.hid (HF2.out.keeps0 KA)
    obtain ⟨av, cv, hav⟩ := ownsRow_form1 hown
    subst hav
    have HN := Lib.hid (And.intro n2 (And.intro n3 (And.intro n4 (And.intro n6 (And.intro n7 n8)))))
    clear hx hok hw KA hperm hord hown n1 n2 n3 n4 n6 n7 n8
    have F0 := heap_alloc_new w2 (.cells #[.int .i64 0, .int .i64 0] 31)
    go_upto_region 2 with fail
    generalize w2.alloc (.cells #[.int .i64 0, .int .i64 0] 31) = w3 at HV HF3 HWA F0 ⊢
    have f0 : w3.cell? ⟨w2.heap.size, 0, none⟩ = some (.int .i64 0) := by rw [cell_of_blk F0]; rfl
    have f1 : w3.cell? ⟨w2.heap.size, 1, none⟩ = some (.int .i64 0) := by rw [cell_of_blk F0]; rfl
    clear F0
    have hb2 := HF3.out.keep.size
    have hbF := HF3.out.blk
    go_wp2_with fail
    refine (costs_any w3 b (wd t.init) (wd t.goal) _ v (.slice av ws.length cv) (wordsOf t.ops) ws HWA.out (wops_ok OK.out) HN.out.2.1 HN.out.1 HN.out.2.2.1 hfew HN.out.2.2.2.1 HN.out.2.2.2.2.1 HV.out).mono ?_
    rintro e w4 ⟨hk4, bo, D, rfl, hbo, hI, hco⟩
    have HI := Lib.hid hI; have HCO := Lib.hid hco; have HF4 := Lib.hid (HF3.out.keeps0 hk4); have HW4 := Lib.hid (HWA.out.keeps0 hk4)
    clear hI hco hk4 f0 f1 hbF HF3 HV HWA
    go_wp2_with fail
    refine (start_any _ _ _ _ _ _ _ HW4.out).mono ?_; rintro e w5 ⟨rfl, rfl⟩
    have hlk := (HI.out.run_lookup_hit (P := Tryz.prog) Tryz.underlying88 Tryz.underlying66 (outV_nodup HN.out.2.2.1.1 D) (outV_mem D HN.out.2.2.2.2.2)).2
    obtain ⟨e0, e1, z0, z1, hF⟩ := HF4.out.cells
    have s0 := setCell_id e0
    have s1 := setCell_id e1
    go_wp2_with fail
    refine bodyPost_ret (results_tmp_cell _ _ (w.heap.size + 1) 31 #[.int .i64 0, .int .i64 0] (0, 0) _ rfl rfl HF4.out.blk Tryz.underlying31 rfl (by kernel_rfl)) rfl ?_
    exact ⟨HF4.out.keep, .inr ⟨OK.out, l, ws, D, HX.out, PERM.out, ORD.out, HCO.out, rfl⟩⟩

end Go.Proofs.YtdokakhgflljgaaGreat

/- space's example. -/
namespace Go.Proofs.YtdokakhgflljgaaGreat
open Go.RowKit

end Go.Proofs.YtdokakhgflljgaaGreat

/- space: the law that the functions are the reference's. -/
namespace Go.Proofs.YtdokakhgflljgaaGreat
open Go.RowKit

section
variable {w : World} {vi vg vo : Value} {t : Tsk}
end

end Go.Proofs.YtdokakhgflljgaaGreat

/- space: SpaceFunctionsMatchSpec walked. -/
namespace Go.Proofs.YtdokakhgflljgaaGreat
open Go.RowKit

end Go.Proofs.YtdokakhgflljgaaGreat

namespace Go.Proofs.YtdokakhgflljgaaGreat

/-! ### sets -/
theorem compact_sorted (d : Array Int) (hs : ∀ i j, i ≤ j → j < d.size → d[i]! ≤ d[j]!) : ∀ m, m ≤ d.size →
    (Lib.compactUpTo d m).Pairwise (· < ·) ∧ (∀ x, x ∈ Lib.compactUpTo d m ↔ ∃ j, j < m ∧ d[j]! = x)
  | 0, _ => ⟨by simp [Lib.compactUpTo], fun x => by simp [Lib.compactUpTo]⟩
  | m + 1, hm => by
    obtain ⟨h1, h2⟩ := compact_sorted d hs m (by omega)
    rw [Lib.compactUpTo_succ]
    by_cases hk : Lib.keeps d m = true
    · rw [if_pos hk]
      have hlt : ∀ x ∈ Lib.compactUpTo d m, x < d[m]! := fun x hx => by
        obtain ⟨j, hj, rfl⟩ := (h2 x).1 hx
        have e1 := hs j (m - 1) (by omega) (by omega)
        have e2 := hs (m - 1) m (by omega) (by omega)
        have e3 : d[m]! ≠ d[m - 1]! := by
          unfold Lib.keeps at hk
          rcases of_decide_eq_true hk with h | h
          · omega
          · exact h
        omega
      refine ⟨List.pairwise_append.2 ⟨h1, by simp, fun a ha b hb => by rw [List.mem_singleton] at hb; subst hb; exact hlt a ha⟩, fun x => ?_⟩
      rw [List.mem_append, h2, List.mem_singleton]
      constructor
      · rintro (⟨j, hj, e⟩ | h)
        · exact ⟨j, by omega, e⟩
        · exact ⟨m, by omega, h.symm⟩
      · rintro ⟨j, hj, e⟩
        by_cases hjm : j = m
        · subst hjm; exact .inr e.symm
        · exact .inl ⟨j, by omega, e⟩
    · have hk' : m ≠ 0 ∧ d[m]! = d[m - 1]! := by
        unfold Lib.keeps at hk
        rw [decide_eq_true_eq] at hk
        exact ⟨fun h => hk (.inl h), Decidable.byContradiction fun h => hk (.inr h)⟩
      rw [if_neg hk, List.append_nil]
      refine ⟨h1, fun x => ?_⟩
      rw [h2]
      constructor
      · rintro ⟨j, hj, e⟩; exact ⟨j, by omega, e⟩
      · rintro ⟨j, hj, e⟩
        by_cases hjm : j = m
        · subst hjm; exact ⟨j - 1, by omega, by rw [← hk'.2]; exact e⟩
        · exact ⟨j, by omega, e⟩

theorem compact_list {l : List Int} (hs : l.Pairwise (· ≤ ·)) : (Lib.compact l).Pairwise (· < ·) ∧ ∀ x, x ∈ Lib.compact l ↔ x ∈ l := by
  have hs' : ∀ i j, i ≤ j → j < l.toArray.size → l.toArray[i]! ≤ l.toArray[j]! := fun i j hij hj => by
    have hj' : j < l.length := by simpa using hj
    rw [getElem!_pos l.toArray i (by simp; omega), getElem!_pos l.toArray j hj]
    simp only [List.getElem_toArray]
    rcases Nat.lt_or_ge i j with h | h
    · exact List.pairwise_iff_getElem.1 hs i j (by omega) hj' h
    · have : i = j := by omega
      subst this; exact Int.le_refl _
  obtain ⟨h1, h2⟩ := compact_sorted l.toArray hs' l.length (by simp)
  have e : Lib.compact l = Lib.compactUpTo l.toArray l.length := by unfold Lib.compact; simp
  rw [e]
  refine ⟨h1, fun x => ?_⟩
  rw [h2]
  constructor
  · rintro ⟨j, hj, rfl⟩
    rw [getElem!_pos l.toArray j (by simpa using hj)]
    simp
  · intro h
    obtain ⟨j, hj, e⟩ := List.mem_iff_getElem.1 h
    exact ⟨j, hj, by rw [getElem!_pos l.toArray j (by simpa using hj)]; simpa using e⟩

def preL (s add del : List Int) : List Int := (s.filter fun x => !decide (x ∈ del)) ++ add
def updL (s add del : List Int) : List Int := Lib.compact ((preL s add del).mergeSort fun x y => decide (x ≤ y))
theorem sort_sorted (l : List Int) : (l.mergeSort fun x y => decide (x ≤ y)).Pairwise (· ≤ ·) := by
  have := List.pairwise_mergeSort (le := fun x y : Int => decide (x ≤ y)) (fun a b c h1 h2 => by simp at *; omega) (fun a b => by simp; omega) l
  exact this.imp (fun h => by simpa using h)
theorem updL_spec (s add del : List Int) : (updL s add del).Pairwise (· < ·) ∧ ∀ x, x ∈ updL s add del ↔ (x ∈ s ∧ x ∉ del) ∨ x ∈ add := by
  obtain ⟨h1, h2⟩ := compact_list (sort_sorted (preL s add del))
  refine ⟨h1, fun x => ?_⟩
  unfold updL
  rw [h2, List.mem_mergeSort, preL, List.mem_append, List.mem_filter]
  simp
theorem preL_len (s add del : List Int) : (preL s add del).length ≤ s.length + add.length := by
  unfold preL; rw [List.length_append]
  have := List.length_filter_le (fun x => !decide (x ∈ del)) s
  omega

/-! ### plans -/
end Go.Proofs.YtdokakhgflljgaaGreat

namespace Go.Proofs.YtdokakhgflljgaaGreat

def costN (ops : List Wop) : List Nat → Int
  | [] => 0
  | a :: r => ((ops[a]?.map Wop.cost).getD 0) + costN ops r
theorem costN_bound {ops : List Wop} (h : ∀ o ∈ ops, 0 ≤ o.cost ∧ o.cost ≤ 100) : ∀ p : List Nat, 0 ≤ costN ops p ∧ costN ops p ≤ 100 * (p.length : Int)
  | [] => by simp [costN]
  | a :: r => by
    have h2 := costN_bound h r
    rw [costN]
    cases ho : ops[a]? with
    | none => simp; omega
    | some o =>
      have h1 := h o (List.mem_of_getElem? ho)
      simp; omega

theorem down_of_run {ops : List Wop} {L : List Nat} (hsh : Shut ops L) {acc : Nat → Bool} : ∀ {p : List Nat} {x y i : Nat}, L[i]? = some x → runOps ops x p = some y → acc y = true → Down (arcs ops L) (L.map acc) i (costN ops p)
  | [], x, y, i, hi, hr, ha => by cases hr; exact .nil (by rw [List.getElem?_map, hi]; simp [ha])
  | a :: p, x, y, i, hi, hr, ha => by
    rw [runOps] at hr
    cases ho : ops[a]? with
    | none => rw [ho] at hr; cases hr
    | some o =>
      rw [ho] at hr; simp only at hr
      by_cases hc : o.can x = true
      · rw [if_pos hc] at hr
        have hm := hsh.2 x (List.mem_of_getElem? hi) o (List.mem_of_getElem? ho) hc
        obtain ⟨j, hj⟩ := List.mem_iff_getElem?.1 hm
        have hd := down_of_run hsh hj hr ha
        have := Down.cons (a := ⟨i, j, a, o.cost⟩) (mem_arcs.2 ⟨x, o, hi, ho, hc, rfl, hj⟩) hd
        rw [costN, ho]; exact this
      · rw [if_neg hc] at hr; cases hr

theorem run_of_down {ops : List Wop} {L : List Nat} {acc : Nat → Bool} {i : Nat} {c : Int} (h : Down (arcs ops L) (L.map acc) i c) : ∀ x, L[i]? = some x → ∃ p y, runOps ops x p = some y ∧ acc y = true := by
  induction h with
  | nil h =>
    intro x hx
    rw [List.getElem?_map, hx] at h
    exact ⟨[], x, rfl, by simpa using h⟩
  | cons ha _ ih =>
    intro x hx
    obtain ⟨x', o, h1, h2, h3, h4, h5⟩ := mem_arcs.1 ha
    rw [h1] at hx; cases hx
    obtain ⟨p, y, hp, hy⟩ := ih _ h5
    exact ⟨_ :: p, y, by rw [runOps, h2]; simp only [h3, if_true]; exact hp, hy⟩

section
variable {ops : List Wop} {L : List Nat} {acc : Nat → Bool} {D : Nat → Int}
theorem arcs_cost0 (h0 : ∀ o ∈ ops, 0 ≤ o.cost ∧ o.cost ≤ 100) : ∀ a ∈ arcs ops L, 0 ≤ a.cost := fun a ha => by
  obtain ⟨y, o, _, h2, _, h4, _⟩ := mem_arcs.1 ha
  rw [h4]; exact (h0 o (List.mem_of_getElem? h2)).1
theorem opt_low (h : CostOk (arcs ops L) (L.map acc) (L.map D)) {x : Nat} (hx : x ∈ L) : 0 ≤ D x ∧ D x ≤ bigC := h.lo (D x) (List.mem_map.2 ⟨x, hx, rfl⟩)
theorem opt_le (hsh : Shut ops L) (h : CostOk (arcs ops L) (L.map acc) (L.map D)) (h0 : ∀ o ∈ ops, 0 ≤ o.cost ∧ o.cost ≤ 100) {x y : Nat} {p : List Nat} (hx : x ∈ L) (hr : runOps ops x p = some y) (ha : acc y = true) (hp : p.length ≤ 1000) : D x ≤ costN ops p ∧ D x < bigC := by
  obtain ⟨i, hi⟩ := List.mem_iff_getElem?.1 hx
  have hb := costN_bound h0 p
  have hbig : bigC = 1000000000 := rfl
  obtain ⟨z, hz, hle⟩ := (h.down (arcs_cost0 h0) (down_of_run hsh hi hr ha)).2 (by omega)
  rw [List.getElem?_map, hi] at hz
  simp only [Option.map_some, Option.some.injEq] at hz
  omega
theorem opt_some (h : CostOk (arcs ops L) (L.map acc) (L.map D)) {x : Nat} (hx : x ∈ L) (hd : D x < bigC) : ∃ p y, runOps ops x p = some y ∧ acc y = true := by
  obtain ⟨i, hi⟩ := List.mem_iff_getElem?.1 hx
  exact run_of_down (h.real i (D x) (by rw [List.getElem?_map, hi]; rfl) hd) x hi
theorem opt_none (h : CostOk (arcs ops L) (L.map acc) (L.map D)) {x : Nat} (hx : x ∈ L) (hb : Best ops x acc none) : D x = bigC := by
  have h1 := opt_low h hx
  by_cases hd : D x < bigC
  · obtain ⟨p, y, hp, hy⟩ := opt_some h hx hd
    rw [hb p y hp] at hy; cases hy
  · omega

/-! ### the finite costs are small -/
def below (L : List Nat) (D : Nat → Int) (z : Int) : Nat := (L.filter fun y => decide (D y < z)).length
end

end Go.Proofs.YtdokakhgflljgaaGreat

namespace Go.Proofs.YtdokakhgflljgaaGreat

/-- k for each cost, st for each step. -/
def wayN (k st : Int) (ops : List Wop) (p : List Nat) : Int := k * costN ops p + st * (p.length : Int)
theorem wayN_nil (k st : Int) (ops : List Wop) : wayN k st ops [] = 0 := by unfold wayN costN; simp
theorem costN_append (ops : List Wop) : ∀ p q : List Nat, costN ops (p ++ q) = costN ops p + costN ops q
  | [], q => by simp [costN]
  | a :: p, q => by rw [List.cons_append, costN, costN, costN_append ops p q]; omega
theorem wayN_append (k st : Int) (ops : List Wop) (p q : List Nat) : wayN k st ops (p ++ q) = wayN k st ops p + wayN k st ops q := by
  unfold wayN
  rw [costN_append, List.length_append, Int.natCast_add, Int.mul_add, Int.mul_add]; omega
theorem wayN_one {k st : Int} {ops : List Wop} {a : Nat} {o : Wop} (h : ops[a]? = some o) : wayN k st ops [a] = k * o.cost + st := by
  unfold wayN; simp [costN, h]
theorem wayN_low {k st : Int} {ops : List Wop} (hk : 0 ≤ k) (hs : 0 ≤ st) (h0 : ∀ o ∈ ops, 0 ≤ o.cost ∧ o.cost ≤ 100) (p : List Nat) : 0 ≤ wayN k st ops p := by
  have h1 := Int.mul_nonneg hk (costN_bound h0 p).1
  have h2 := Int.mul_nonneg hs (Int.natCast_nonneg p.length)
  unfold wayN; omega

/-- b is the least price of a plan, or -1 where there is none. -/
def LeastOf (k st : Int) (ops : List Wop) (s : Nat) (acc : Nat → Bool) (b : Int) : Prop :=
  (b = -1 ∧ ∀ p y, runOps ops s p = some y → acc y = false) ∨
  (0 ≤ b ∧ (∃ p y, runOps ops s p = some y ∧ acc y = true ∧ wayN k st ops p = b) ∧ ∀ p y, runOps ops s p = some y → acc y = true → b ≤ wayN k st ops p)
theorem LeastOf.unique {k st : Int} {ops : List Wop} {s : Nat} {acc : Nat → Bool} {b b' : Int} (h : LeastOf k st ops s acc b) (h' : LeastOf k st ops s acc b') : b = b' := by
  rcases h with ⟨h1, h2⟩ | ⟨h1, ⟨p, y, hp, hy, hb⟩, h3⟩ <;> rcases h' with ⟨g1, g2⟩ | ⟨g1, ⟨q, z, hq, hz, hc⟩, g3⟩
  · rw [h1, g1]
  · rw [h2 q z hq] at hz; cases hz
  · rw [g2 p y hp] at hy; cases hy
  · have := h3 q z hq hz; have := g3 p y hp hy; omega

end Go.Proofs.YtdokakhgflljgaaGreat

namespace Go.Proofs.YtdokakhgflljgaaGreat

structure SArc where
  op : Nat
  price : Int
  to : Nat

/-- How many states of L have a price. -/
def knownB (L : List Nat) (P : Nat → Option Int) : Nat := L.countP fun x => (P x).isSome
/-- The prices after one of them is set. -/
def putP {α : Type} (P : Nat → Option α) (x : Nat) (v : α) : Nat → Option α := fun y => if y = x then some v else P y
theorem putP_same {α : Type} (P : Nat → Option α) (x : Nat) (v : α) : putP P x v x = some v := by simp [putP]
theorem putP_other {α : Type} (P : Nat → Option α) {x y : Nat} (v : α) (h : y ≠ x) : putP P x v y = P y := by simp [putP, h]
theorem knownB_put {L : List Nat} {P : Nat → Option Int} {x : Nat} {v : Int} (hn : L.Nodup) (hx : x ∈ L) (hP : P x = none) : knownB L (putP P x v) = knownB L P + 1 := by
  unfold knownB
  induction L with
  | nil => simp at hx
  | cons y r ih =>
    rw [List.nodup_cons] at hn
    by_cases hyx : y = x
    · subst hyx
      rw [List.countP_cons, List.countP_cons, putP_same, hP]
      have : r.countP (fun z => (putP P y v z).isSome) = r.countP fun z => (P z).isSome := by
        apply List.countP_congr
        intro z hz
        rw [putP_other P v (fun e => hn.1 (by rw [← e]; exact hz))]
      simp [this]
    · have hxr : x ∈ r := by
        rcases List.mem_cons.1 hx with h | h
        · exact absurd h.symm hyx
        · exact h
      rw [List.countP_cons, List.countP_cons, putP_other P v hyx, ih hn.2 hxr]; omega
theorem knownB_same {L : List Nat} {P : Nat → Option Int} {x : Nat} {v u : Int} (hP : P x = some u) : knownB L (putP P x v) = knownB L P := by
  unfold knownB
  apply List.countP_congr
  intro z _
  by_cases h : z = x
  · subst h; rw [putP_same, hP]; simp
  · rw [putP_other P v h]
theorem knownB_le (L : List Nat) (P : Nat → Option Int) : knownB L P ≤ L.length := List.countP_le_length

/-- What stays of a side while arcs of the state s are looked at: the arcs in R are still to do. -/
structure SideI (G : Nat → List SArc) (S0 : Nat → Prop) (L : List Nat) (C : Int) (P : Nat → Option Int) (par : Nat → Option SArc) (A : List (Int × Int)) (s : Nat) (R : List SArc) : Prop where
  dom : ∀ x p, P x = some p → x ∈ L
  lo : ∀ x p, P x = some p → 0 ≤ p ∧ p ≤ C * (knownB L P : Int)
  start : ∀ x, S0 x → P x = some 0 ∧ par x = none
  from_ : ∀ x p, P x = some p → ¬ S0 x → ∃ a, par x = some a ∧ ⟨a.op, a.price, x⟩ ∈ G a.to ∧ ∃ q, P a.to = some q ∧ q + a.price ≤ p
  key : ∀ z ∈ A, ∃ x : Nat, z.1 = (x : Int) ∧ P x = some z.2
  pend : ∀ x p, P x = some p → ((x : Int), p) ∈ A ∨ ∀ a ∈ G x, (∃ q, P a.to = some q ∧ q ≤ p + a.price) ∨ (x = s ∧ a ∈ R)
theorem SideI.anyS {G : Nat → List SArc} {S0 : Nat → Prop} {L : List Nat} {C : Int} {P : Nat → Option Int} {par : Nat → Option SArc} {A : List (Int × Int)} {s s' : Nat} (h : SideI G S0 L C P par A s []) : SideI G S0 L C P par A s' [] :=
  ⟨h.dom, h.lo, h.start, h.from_, h.key, fun x p hp => by
    rcases h.pend x p hp with h1 | h1
    · exact .inl h1
    · refine .inr fun a ha => ?_
      rcases h1 a ha with h2 | ⟨_, h2⟩
      · exact .inl h2
      · simp at h2⟩

/-- The state at the head of the queue is taken. -/
theorem SideI.take {G : Nat → List SArc} {S0 : Nat → Prop} {L : List Nat} {C : Int} {P : Nat → Option Int} {par : Nat → Option SArc} {A : List (Int × Int)} {s x : Nat} {p : Int} (h : SideI G S0 L C P par A s []) (hp : P x = some p) :
    SideI G S0 L C P par (A.filter fun z => z.1 != (x : Int)) x (G x) :=
  ⟨h.dom, h.lo, h.start, h.from_, fun z hz => h.key z (List.mem_filter.1 hz).1, fun y q hq => by
    by_cases hyx : y = x
    · subst hyx
      exact .inr fun a ha => .inr ⟨rfl, ha⟩
    · rcases h.pend y q hq with h1 | h1
      · refine .inl (List.mem_filter.2 ⟨h1, ?_⟩)
        simp; omega
      · refine .inr fun a ha => ?_
        rcases h1 a ha with h2 | ⟨_, h2⟩
        · exact .inl h2
        · simp at h2⟩
/-- An arc that leads to nothing better. -/
theorem SideI.skip {G : Nat → List SArc} {S0 : Nat → Prop} {L : List Nat} {C : Int} {P : Nat → Option Int} {par : Nat → Option SArc} {A : List (Int × Int)} {x : Nat} {p q : Int} {a : SArc} {R : List SArc} (h : SideI G S0 L C P par A x (a :: R)) (hp : P x = some p) (hq : P a.to = some q) (hle : q ≤ p + a.price) : SideI G S0 L C P par A x R :=
  ⟨h.dom, h.lo, h.start, h.from_, h.key, fun y u hu => by
    rcases h.pend y u hu with h1 | h1
    · exact .inl h1
    · refine .inr fun b hb => ?_
      rcases h1 b hb with h2 | ⟨rfl, h2⟩
      · exact .inl h2
      · rcases List.mem_cons.1 h2 with rfl | h3
        · rw [hp] at hu; cases hu; exact .inl ⟨q, hq, hle⟩
        · exact .inr ⟨rfl, h3⟩⟩
/-- An arc that gives a better price. -/
theorem SideI.fall {G : Nat → List SArc} {S0 : Nat → Prop} {L : List Nat} {C : Int} {P : Nat → Option Int} {par : Nat → Option SArc} {A : List (Int × Int)} {x : Nat} {p : Int} {a : SArc} {R : List SArc} (h : SideI G S0 L C P par A x (a :: R)) (hn : L.Nodup) (hC : ∀ y, ∀ b ∈ G y, 1 ≤ b.price ∧ b.price ≤ C) (hin : a.to ∈ L) (ha : a ∈ G x) (hp : P x = some p) (hlt : ∀ q, P a.to = some q → p + a.price < q) :
    SideI G S0 L C (putP P a.to (p + a.price)) (putP par a.to ⟨a.op, a.price, x⟩) (putA A (a.to : Int) (p + a.price)) x R := by
  have hc := hC x a ha
  have hxp := h.lo x p hp
  have hne : a.to ≠ x := fun e => by have := hlt p (by rw [e]; exact hp); omega
  have hns : ¬ S0 a.to := fun e => by have := hlt 0 (h.start _ e).1; omega
  have hkn : (knownB L P : Int) ≤ knownB L (putP P a.to (p + a.price)) ∧ (P a.to = none → (knownB L (putP P a.to (p + a.price)) : Int) = knownB L P + 1) := by
    cases hq : P a.to with
    | none => rw [knownB_put hn hin hq]; exact ⟨by omega, fun _ => by omega⟩
    | some u => rw [knownB_same hq]; exact ⟨Int.le_refl _, fun e => by cases e⟩
  have hmono : C * (knownB L P : Int) ≤ C * (knownB L (putP P a.to (p + a.price)) : Int) := Int.mul_le_mul_of_nonneg_left hkn.1 (by omega)
  refine ⟨fun y u hu => ?_, fun y u hu => ?_, fun y hy => ?_, fun y u hu hs => ?_, fun z hz => ?_, fun y u hu => ?_⟩
  · by_cases hy : y = a.to
    · subst hy; exact hin
    · rw [putP_other P _ hy] at hu; exact h.dom y u hu
  · by_cases hy : y = a.to
    · subst hy
      rw [putP_same] at hu; cases hu
      refine ⟨by omega, ?_⟩
      cases hq : P a.to with
      | none =>
        rw [hkn.2 hq, Int.mul_add]; omega
      | some u => have := hlt u hq; have := (h.lo _ u hq).2; omega
    · rw [putP_other P _ hy] at hu
      have := h.lo y u hu; omega
  · have hy' : y ≠ a.to := fun e => hns (e ▸ hy)
    rw [putP_other P _ hy', putP_other par _ hy']; exact h.start y hy
  · by_cases hy : y = a.to
    · subst hy
      rw [putP_same] at hu; cases hu
      refine ⟨⟨a.op, a.price, x⟩, putP_same _ _ _, ha, p, ?_, Int.le_refl _⟩
      rw [putP_other P _ (fun e => hne e.symm)]; exact hp
    · rw [putP_other P _ hy] at hu
      obtain ⟨b, hb, hg, q, hq, hle⟩ := h.from_ y u hu hs
      refine ⟨b, by rw [putP_other par _ hy]; exact hb, hg, ?_⟩
      by_cases hbt : b.to = a.to
      · rw [hbt, putP_same]
        have := hlt q (by rw [← hbt]; exact hq)
        exact ⟨_, rfl, by omega⟩
      · rw [putP_other P _ hbt]; exact ⟨q, hq, hle⟩
  · rcases mem_putA.1 hz with ⟨h1, h2⟩ | rfl
    · obtain ⟨y, hy, hPy⟩ := h.key z h1
      refine ⟨y, hy, ?_⟩
      rw [putP_other P _ (fun e => h2 (by rw [hy, e]))]; exact hPy
    · exact ⟨a.to, rfl, putP_same _ _ _⟩
  · by_cases hy : y = a.to
    · subst hy
      rw [putP_same] at hu; cases hu
      exact .inl (mem_putA.2 (.inr rfl))
    · rw [putP_other P _ hy] at hu
      rcases h.pend y u hu with h1 | h1
      · exact .inl (mem_putA.2 (.inl ⟨h1, by simp; omega⟩))
      · refine .inr fun b hb => ?_
        have low : ∀ q, P b.to = some q → q ≤ u + b.price → ∃ q', putP P a.to (p + a.price) b.to = some q' ∧ q' ≤ u + b.price := fun q hq hle => by
          by_cases hbt : b.to = a.to
          · rw [hbt, putP_same]
            have := hlt q (by rw [← hbt]; exact hq)
            exact ⟨_, rfl, by omega⟩
          · rw [putP_other P _ hbt]; exact ⟨q, hq, hle⟩
        rcases h1 b hb with ⟨q, hq, hle⟩ | ⟨rfl, h2⟩
        · exact .inl (low q hq hle)
        · rcases List.mem_cons.1 h2 with rfl | h3
          · rw [hp] at hu; cases hu
            exact .inl ⟨_, putP_same _ _ _, Int.le_refl _⟩
          · exact .inr ⟨rfl, h3⟩

/-! ### where the sides meet -/
/-! ### the end -/
section
variable {ops : List Wop} {L : List Nat} {Gf Gb : Nat → List SArc} {Sf Sb : Nat → Prop} {C : Int} {F B : Nat → Option Int} {pf pb : Nat → Option SArc} {Af Ab : List (Int × Int)} {sf sb : Nat} {best : Int} {at_ : Nat} {found : Bool}
end

end Go.Proofs.YtdokakhgflljgaaGreat

namespace Go.Proofs.YtdokakhgflljgaaGreat
open Go.RowKit

def FMap {α : Type} (w : World) (b : Nat) (enc : α → Value) (f : Nat → Option α) : Prop :=
  ∃ l : List (Nat × α), IMap w b .u32 (l.map fun p => ((p.1 : Int), enc p.2)) ∧ (l.map Prod.fst).Nodup ∧ ∀ x v, f x = some v ↔ (x, v) ∈ l

section
variable {α : Type} {w : World} {b : Nat} {enc : α → Value} {f : Nat → Option α}
theorem FMap.keeps {S : Nat → Prop} {w' : World} (h : FMap w b enc f) (hk : Keeps S w w') (hs : ¬ S b) : FMap w' b enc f := by
  obtain ⟨l, h1, h2⟩ := h; exact ⟨l, h1.keeps hk hs, h2⟩
theorem FMap.lt (h : FMap w b enc f) : b < w.heap.size := by obtain ⟨l, h1, _⟩ := h; exact h1.lt
theorem FMap.map_block (h : FMap w b enc f) : ∃ es c, w.heap[b]? = some (.map es c) := by obtain ⟨l, ⟨es, c, hb, _⟩, _⟩ := h; exact ⟨es, c, hb⟩
theorem FMap.ne_cells (h : FMap w b enc f) {g : Nat} {cs : Array Value} {T : TypeId} {fr : Nat × Nat} (hg : w.heap[g]? = some (.cells cs T fr)) : b ≠ g := fun e => by
  obtain ⟨es, c, hb⟩ := h.map_block
  rw [e, hg] at hb; cases hb
theorem FMap.made (w : World) (enc : α → Value) : FMap (w.alloc (.map #[] 0)) w.heap.size enc (fun _ => none) :=
  ⟨[], IMap.made w .u32, by simp, fun x v => by simp⟩
theorem fkeys_nodup {l : List (Nat × α)} (h : (l.map Prod.fst).Nodup) : ((l.map fun p => ((p.1 : Int), enc p.2)).map Prod.fst).Nodup := by
  rw [List.map_map]
  have : (l.map ((Prod.fst : Int × Value → Int) ∘ fun p => ((p.1 : Int), enc p.2))) = (l.map Prod.fst).map fun x : Nat => (x : Int) := by rw [List.map_map]; rfl
  rw [this]
  unfold List.Nodup at h ⊢
  rw [List.pairwise_map]
  exact h.imp fun hne e => hne (by omega)
theorem fkeys_miss {l : List (Nat × α)} (hl : ∀ x v, f x = some v ↔ (x, v) ∈ l) {x : Nat} (hx : f x = none) : ∀ p ∈ l.map (fun p => ((p.1 : Int), enc p.2)), p.1 ≠ (x : Int) := fun p hp e => by
  obtain ⟨q, hq, rfl⟩ := List.mem_map.1 hp
  have : q.1 = x := by simp only at e; omega
  have h2 := (hl q.1 q.2).2 hq
  rw [this, hx] at h2; cases h2
variable {P : Program} {t k e : TypeId}
theorem FMap.look_some (h : FMap w b enc f) (ht : P.underlying t = some (.map k e)) (hk : P.underlying k = some (.int .u32)) {x : Nat} {v : α} (hx : f x = some v) :
    (Instr.lookup t (.map (some b)) (.int .u32 (x : Int)) true).run P w = .ok (.tuple #[enc v, .bool true]) w ∧ (Instr.lookup t (.map (some b)) (.int .u32 (x : Int)) false).run P w = .ok (enc v) w := by
  obtain ⟨l, h1, h2, h3⟩ := h
  exact h1.run_lookup_hit ht hk (fkeys_nodup h2) (List.mem_map.2 ⟨(x, v), (h3 x v).1 hx, rfl⟩)
theorem FMap.look_none (h : FMap w b enc f) (ht : P.underlying t = some (.map k e)) (hk : P.underlying k = some (.int .u32)) {z : Value} (hz : (zeroValue e).run P w = .ok z w) {x : Nat} (hx : f x = none) :
    (Instr.lookup t (.map (some b)) (.int .u32 (x : Int)) true).run P w = .ok (.tuple #[z, .bool false]) w ∧ (Instr.lookup t (.map (some b)) (.int .u32 (x : Int)) false).run P w = .ok z w := by
  obtain ⟨l, h1, _, h3⟩ := h
  exact h1.run_lookup_miss ht hk hz (fkeys_miss h3 hx)
/-- A store. -/
theorem FMap.put (h : FMap w b enc f) (ht : P.underlying t = some (.map k e)) (hk : P.underlying k = some (.int .u32)) (x : Nat) (v : α) :
    ∃ w', (Instr.mapUpdate t (.map (some b)) (.int .u32 (x : Int)) (enc v)).run P w = .ok () w' ∧ FMap w' b enc (putP f x v) ∧ Keeps (fun j => j = b) w w' := by
  obtain ⟨l, h1, h2, h3⟩ := h
  cases hx : f x with
  | none =>
    obtain ⟨w', hr, hi, hk'⟩ := h1.run_update_new ht hk (fkeys_miss h3 hx) (enc v)
    refine ⟨w', hr, ⟨l ++ [(x, v)], by rw [List.map_append]; exact hi, ?_, fun y u => ?_⟩, hk'⟩
    · rw [List.map_append, List.nodup_append]
      refine ⟨h2, by simp, fun a ha c hc hac => ?_⟩
      simp only [List.map_cons, List.map_nil, List.mem_singleton] at hc
      obtain ⟨q, hq, rfl⟩ := List.mem_map.1 ha
      have h4 := (h3 q.1 q.2).2 hq
      rw [hac, hc, hx] at h4; cases h4
    · by_cases hy : y = x
      · subst hy
        rw [putP_same, List.mem_append]
        constructor
        · intro h; cases h; exact .inr (by simp)
        · rintro (h | h)
          · have := (h3 y u).2 h; rw [hx] at this; cases this
          · simp at h; rw [h]
      · rw [putP_other f v hy, h3 y u, List.mem_append]
        constructor
        · exact .inl
        · rintro (h | h)
          · exact h
          · simp at h; exact absurd h.1 hy
  | some u0 =>
    obtain ⟨j, hj⟩ := List.mem_iff_getElem?.1 ((h3 x u0).1 hx)
    obtain ⟨w', hr, hi, hk'⟩ := h1.run_update_old ht hk (fkeys_nodup h2) (x := (x : Int)) (u := enc u0) (j := j) (by rw [List.getElem?_map, hj]; rfl) (enc v)
    have hjl := (List.getElem?_eq_some_iff.1 hj).1
    have hkeys : (l.set j (x, v)).map Prod.fst = l.map Prod.fst := by
      apply List.ext_getElem?
      intro n
      rw [List.getElem?_map, List.getElem?_map]
      by_cases hn : n = j
      · subst hn; rw [List.getElem?_set_self hjl, hj]; rfl
      · rw [List.getElem?_set_ne (fun e => hn e.symm)]
    refine ⟨w', hr, ⟨l.set j (x, v), by rw [List.map_set]; exact hi, by rw [hkeys]; exact h2, fun y u => ?_⟩, hk'⟩
    have uniq : ∀ n q, l[n]? = some q → q.1 = x → n = j := fun n q hq hqx => by
      have e1 : (l.map Prod.fst)[n]? = some x := by rw [List.getElem?_map, hq]; simp [hqx]
      have e2 : (l.map Prod.fst)[j]? = some x := by rw [List.getElem?_map, hj]; rfl
      exact nodup_ix h2 e1 e2
    by_cases hy : y = x
    · subst hy
      rw [putP_same]
      constructor
      · intro h; cases h
        exact List.mem_of_getElem? (List.getElem?_set_self hjl)
      · intro h
        obtain ⟨n, hn⟩ := List.mem_iff_getElem?.1 h
        by_cases hnj : n = j
        · subst hnj; rw [List.getElem?_set_self hjl] at hn; cases hn; rfl
        · rw [List.getElem?_set_ne (fun e => hnj e.symm)] at hn
          exact absurd (uniq n _ hn rfl) hnj
    · rw [putP_other f v hy, h3 y u]
      constructor
      · intro h
        obtain ⟨n, hn⟩ := List.mem_iff_getElem?.1 h
        have hnj : n ≠ j := fun e => by subst e; rw [hj] at hn; cases hn; exact hy rfl
        exact List.mem_of_getElem? (i := n) (by rw [List.getElem?_set_ne (fun e => hnj e.symm)]; exact hn)
      · intro h
        obtain ⟨n, hn⟩ := List.mem_iff_getElem?.1 h
        by_cases hnj : n = j
        · subst hnj; rw [List.getElem?_set_self hjl] at hn; cases hn; exact absurd rfl hy
        · rw [List.getElem?_set_ne (fun e => hnj e.symm)] at hn
          exact List.mem_of_getElem? hn
end

end Go.Proofs.YtdokakhgflljgaaGreat

namespace Go.Proofs.YtdokakhgflljgaaGreat

/-- The operators from a state back to the end of a side. -/
inductive Chain (par : Nat → Option SArc) : Nat → List Nat → Nat → Prop
  | nil {x : Nat} : par x = none → Chain par x [] x
  | cons {x : Nat} {a : SArc} {out : List Nat} {e : Nat} : par x = some a → Chain par a.to out e → Chain par x (a.op :: out) e

section
variable {G : Nat → List SArc} {S0 : Nat → Prop} {L : List Nat} {C : Int} {P : Nat → Option Int} {par : Nat → Option SArc} {A : List (Int × Int)} {s : Nat}
/-- Every state with a price has a way back; the states on it fall in price, so it is no longer than L. -/
theorem SideI.chain (h : SideI G S0 L C P par A s []) (hC : ∀ y, ∀ b ∈ G y, 1 ≤ b.price) [∀ x, Decidable (S0 x)] : ∀ (n : Nat) (x : Nat) (p : Int), P x = some p → p.toNat ≤ n →
    ∃ (out : List Nat) (e : Nat) (vs : List Nat), Chain par x out e ∧ S0 e ∧ vs.length = out.length ∧ vs.Nodup ∧ (∀ y ∈ vs, ∃ q, P y = some q ∧ q ≤ p ∧ y ∈ L)
  | n, x, p, hp, hn => by
    by_cases hs : S0 x
    · exact ⟨[], x, [], .nil (h.start x hs).2, hs, rfl, List.nodup_nil, by simp⟩
    · obtain ⟨a, ha, hg, q, hq, hle⟩ := h.from_ x p hp hs
      have h1 := hC _ _ hg
      simp only at h1
      have hq0 := (h.lo _ q hq).1
      cases n with
      | zero => omega
      | succ n =>
        obtain ⟨out, e, vs, hc, he, hl, hnd, hall⟩ := SideI.chain h hC n a.to q hq (by omega)
        refine ⟨a.op :: out, e, x :: vs, .cons ha hc, he, by simp [hl], List.nodup_cons.2 ⟨fun hx => ?_, hnd⟩, fun y hy => ?_⟩
        · obtain ⟨q', hq', hle', _⟩ := hall x hx
          rw [hp] at hq'; cases hq'; omega
        · rcases List.mem_cons.1 hy with rfl | hy
          · exact ⟨p, hp, Int.le_refl _, h.dom _ _ hp⟩
          · obtain ⟨q', hq', hle', hL⟩ := hall y hy
            exact ⟨q', hq', by omega, hL⟩
theorem SideI.back (h : SideI G S0 L C P par A s []) (hC : ∀ y, ∀ b ∈ G y, 1 ≤ b.price) [∀ x, Decidable (S0 x)] {x : Nat} {p : Int} (hp : P x = some p) : ∃ out e, Chain par x out e ∧ S0 e ∧ out.length ≤ L.length := by
  obtain ⟨out, e, vs, hc, he, hl, hnd, hall⟩ := h.chain hC p.toNat x p hp (Nat.le_refl _)
  exact ⟨out, e, hc, he, by rw [← hl]; exact nodup_sub_length hnd (fun y hy => (hall y hy).choose_spec.2.2)⟩
/-- From the front side: the way back, turned round, leads to the state, for no more than its price. -/
theorem SideI.chainF {ops : List Wop} (h : SideI G S0 L C P par A s []) (hG : ∀ y, ∀ b ∈ G y, ∃ o, ops[b.op]? = some o ∧ o.can y = true ∧ b.to = o.next y ∧ b.price = 4096 * o.cost + 1) {x e : Nat} {out : List Nat} (hc : Chain par x out e) : ∀ {p : Int}, P x = some p → runOps ops e out.reverse = some x ∧ wayN 4096 1 ops out.reverse ≤ p := by
  induction hc with
  | nil hn => intro p hp; exact ⟨rfl, by rw [List.reverse_nil, wayN_nil]; exact (h.lo _ p hp).1⟩
  | @cons x a out e ha hc ih =>
    intro p hp
    have hs : ¬ S0 x := fun hs => by rw [(h.start x hs).2] at ha; cases ha
    obtain ⟨a', ha', hg, q, hq, hle⟩ := h.from_ x p hp hs
    rw [ha] at ha'; cases ha'
    obtain ⟨o, h1, h2, h3, h4⟩ := hG _ _ hg
    simp only at h1 h2 h3 h4
    obtain ⟨i1, i2⟩ := ih hq
    rw [List.reverse_cons, wayN_append, wayN_one h1, runOps_append, i1]
    refine ⟨?_, by omega⟩
    simp only [Option.bind_some, runOps, h1, h2, if_true]
    rw [← h3]
/-! ### the measure -/
def weightB (L : List Nat) (m : Nat) (P : Nat → Option Int) : Nat := (L.map fun x => match P x with | some p => p.toNat | none => m).sum
theorem weightB_put {m x : Nat} {v : Int} (hv : v.toNat < m) : ∀ {L : List Nat}, x ∈ L → (∀ q, P x = some q → v.toNat < q.toNat) → weightB L m (putP P x v) < weightB L m P := by
  have one : ∀ y, (match putP P x v y with | some p => p.toNat | none => m) ≤ (match P y with | some p => p.toNat | none => m) ∨ y = x := fun y => by
    by_cases hy : y = x
    · exact .inr hy
    · rw [putP_other P v hy]; exact .inl (Nat.le_refl _)
  have hx0 : (∀ q, P x = some q → v.toNat < q.toNat) → (match putP P x v x with | some p => p.toNat | none => m) < (match P x with | some p => p.toNat | none => m) := fun h => by
    rw [putP_same]
    cases hq : P x with
    | none => exact hv
    | some q => exact h q hq
  have le : (∀ q, P x = some q → v.toNat < q.toNat) → ∀ L : List Nat, weightB L m (putP P x v) ≤ weightB L m P := fun h L => by
    induction L with
    | nil => exact Nat.le_refl _
    | cons y r ih =>
      unfold weightB at ih ⊢
      rw [List.map_cons, List.map_cons, List.sum_cons, List.sum_cons]
      rcases one y with h1 | rfl
      · omega
      · have := hx0 h; omega
  intro L
  induction L with
  | nil => intro h; simp at h
  | cons y r ih =>
    intro hx h
    have hle := le h r
    have hlt := hx0 h
    by_cases hy : y = x
    · subst hy
      unfold weightB at hle ⊢
      rw [List.map_cons, List.map_cons, List.sum_cons, List.sum_cons]; omega
    · have hxr : x ∈ r := by
        rcases List.mem_cons.1 hx with e | e
        · exact absurd e.symm hy
        · exact e
      have ih' := ih hxr h
      have h1 := one y
      unfold weightB at ih' ⊢
      rw [List.map_cons, List.map_cons, List.sum_cons, List.sum_cons]
      rcases h1 with h1 | h1
      · omega
      · exact absurd h1 hy
end

/-! ### the start -/
def startP (S : List Nat) : Nat → Option Int := fun x => if x ∈ S then some 0 else none
def startA (S : List Nat) : List (Int × Int) := S.foldl (fun A (x : Nat) => putA A (x : Int) 0) []
theorem startA_mem (S : List Nat) : ∀ z, z ∈ startA S ↔ ∃ x ∈ S, z = ((x : Int), 0) := by
  have key : ∀ (S : List Nat) (A : List (Int × Int)), (∀ z ∈ A, z.2 = 0) → ∀ z, z ∈ S.foldl (fun A (x : Nat) => putA A (x : Int) 0) A ↔ z ∈ A ∨ ∃ x ∈ S, z = ((x : Int), 0) := by
    intro S
    induction S with
    | nil => intro A _ z; simp
    | cons x r ih =>
      intro A hA z
      rw [List.foldl_cons, ih _ (fun z hz => by
        rcases mem_putA.1 hz with ⟨h, _⟩ | rfl
        · exact hA z h
        · rfl), mem_putA]
      constructor
      · rintro ((⟨h, _⟩ | rfl) | ⟨y, hy, rfl⟩)
        · exact .inl h
        · exact .inr ⟨x, by simp, rfl⟩
        · exact .inr ⟨y, by simp [hy], rfl⟩
      · rintro (h | ⟨y, hy, rfl⟩)
        · by_cases e : z.1 = (x : Int)
          · refine .inl (.inr ?_)
            have := hA z h
            cases z; simp at this e; rw [this, e]
          · exact .inl (.inl ⟨h, e⟩)
        · rcases List.mem_cons.1 hy with rfl | hy
          · exact .inl (.inr rfl)
          · exact .inr ⟨y, hy, rfl⟩
  intro z
  unfold startA
  rw [key S [] (by simp)]; simp
theorem SideI.init {G : Nat → List SArc} {L S : List Nat} {C : Int} (hC : 0 ≤ C) (hS : ∀ x ∈ S, x ∈ L) (s : Nat) : SideI G (fun x => x ∈ S) L C (startP S) (fun _ => none) (startA S) s [] := by
  have hP : ∀ {x : Nat} {p : Int}, startP S x = some p → x ∈ S ∧ p = 0 := fun {x p} h => by
    unfold startP at h
    split at h
    · cases h; exact ⟨by assumption, rfl⟩
    · cases h
  refine ⟨fun x p h => hS x (hP h).1, fun x p h => ?_, fun x hx => ⟨by unfold startP; rw [if_pos hx], rfl⟩, fun x p h hn => absurd (hP h).1 hn, fun z hz => ?_, fun x p h => .inl ?_⟩
  · rw [(hP h).2]; exact ⟨Int.le_refl _, Int.mul_nonneg hC (Int.natCast_nonneg _)⟩
  · obtain ⟨x, hx, rfl⟩ := (startA_mem S z).1 hz
    exact ⟨x, rfl, by unfold startP; rw [if_pos hx]⟩
  · rw [(hP h).2]; exact (startA_mem S _).2 ⟨x, (hP h).1, rfl⟩
end Go.Proofs.YtdokakhgflljgaaGreat

namespace Go.Proofs.YtdokakhgflljgaaGreat
open Go.RowKit

def lenV : Value → Nat
  | .slice _ n _ => n
  | _ => 0
end Go.Proofs.YtdokakhgflljgaaGreat

namespace Go.Proofs.YtdokakhgflljgaaGreat
open Go.RowKit

def intV (p : Int) : Value := .int .i64 p
end Go.Proofs.YtdokakhgflljgaaGreat

namespace Go.Proofs.YtdokakhgflljgaaGreat
open Go.RowKit

def unitV (_ : Unit) : Value := .agg #[]

section
variable {w w' : World} {base b m0 mp mpar md q : Nat} {P P' : Nat → Option Int} {par : Nat → Option SArc} {dn : Nat → Option Unit} {A A' : List (Int × Int)} {t t' : Int} {F F' : Nat → Prop}
end
end Go.Proofs.YtdokakhgflljgaaGreat

namespace Go.Proofs.YtdokakhgflljgaaGreat
open Go.RowKit Go.Sort Go.Proofs

def backV (a : SArc) : Value := .agg #[.int .u32 (a.to : Int), .int .i64 (a.op : Int)]

theorem Chain.at_end {par : Nat → Option SArc} {x e : Nat} {out : List Nat} (h : Chain par x out e) (hx : par x = none) : out = [] ∧ x = e := by
  cases h with
  | nil _ => exact ⟨rfl, rfl⟩
  | cons ha _ => rw [hx] at ha; cases ha
theorem Chain.more {par : Nat → Option SArc} {x e : Nat} {out : List Nat} (h : Chain par x out e) (hx : x ≠ e) : ∃ a r, par x = some a ∧ out = a.op :: r ∧ Chain par a.to r e := by
  cases h with
  | nil _ => exact absurd rfl hx
  | cons ha hc => exact ⟨_, _, ha, rfl, hc⟩

set_option maxRecDepth 100000 in
set_option maxHeartbeats 1000000 in
theorem pathC_any (w : World) (m s x : Nat) (par f : Nat → Option SArc) (out : List Nat) (hm : FMap w m backV f) (hf : ∀ y a, par y = some a → f y = some a) (h0 : par s = none) (hc : Chain par x out s) (few : out.length ≤ 100000) :
    Calls Tryz.prog 57 #[.map (some m), .int .u32 (s : Int), .int .u32 (x : Int)] w fun en w' => ∃ v, en = .returned v ∧ w'.ownsRow w.heap.size 3 1 v out.length ((intsP out.reverse).map (Value.int .i64)) ∧ Keeps (fun _ => False) w w' := by
  obtain ⟨i0, hi0, hz0, hz1, hz2⟩ := info_parts Tryz.info3
  have HM := Lib.hid hm; have HF := Lib.hid hf; have H0 := Lib.hid h0; have HC := Lib.hid hc
  clear hm hf h0 hc
  go_enter Tryz.func57, Tryz.ntmps57
  go_wp2_with fail
  go_loopw [2, 7] (fun z v wr => ∃ (dn rest : List Nat) (y : Nat), out = dn ++ rest ∧ Chain par y rest s ∧ z = .int .u32 (y : Int) ∧ lenV v = dn.length ∧ wr.ownsRow w.heap.size 3 1 v (intsP dn).length ((intsP dn).map (Value.int .i64)) ∧ Keeps (fun _ => False) w wr)
    (fun _ v _ => out.length - lenV v)
  case atStart => exact ⟨[], out, x, rfl, HC.out, rfl, rfl, World.ownsRow_nil _ _ _ _, Keeps.refl _ _⟩
  case round =>
    obtain ⟨dn, rest, y, hout, hch, rfl, hlv, hown, hkw⟩ := hrel
    have HO := Lib.hid hown; have KW := Lib.hid hkw; have HOUT := Lib.hid hout; have HCH := Lib.hid hch; have HLV := Lib.hid hlv
    have hmw := HM.out.keeps hkw (fun h => h)
    clear hown hkw hout hch hlv
    obtain ⟨av, cv, hv⟩ := ownsRow_form1 HO.out
    subst hv
    by_cases hne : y = s
    · have hb : ((y : Int) != (s : Int)) = false := by simp [hne]
      have HPE := Lib.hid (show out = dn by
        have h1 := (HCH.out.at_end (by rw [hne]; exact H0.out)).1
        rw [HOUT.out, h1, List.append_nil])
      clear hne
      go_wp2_with fail
      refine (reverse_any _ _ _ _ (intsP dn) HO.out (by have h1 := HPE.out; subst h1; simp [intsP]; omega)).mono ?_
      rintro e' w5 ⟨rfl, hown2, hk5⟩
      have HO5 := Lib.hid hown2
      have K5 := Lib.hid (KW.out.trans' hk5 (fun b hb => .inr (World.ownsRow.lt HO.out b hb).1))
      clear hown2 hk5
      go_wp2_with fail
      go_ret
      refine ⟨_, rfl, ?_, K5.out⟩
      have h1 := HO5.out
      have h2 : (intsP dn).length = out.length := by rw [HPE.out]; simp [intsP]
      have h3 : (intsP dn).reverse = intsP out.reverse := by rw [HPE.out]; simp [intsP]
      rw [h3] at h1
      generalize (Value.slice av (intsP dn).length cv) = v at h1
      rw [h2] at h1
      exact h1
    · have hb : ((y : Int) != (s : Int)) = true := by simp; omega
      obtain ⟨a, r, hpa, hro, hcr⟩ := HCH.out.more hne
      have HCR := Lib.hid hcr
      have HOR := Lib.hid (show out = (dn ++ [a.op]) ++ r by rw [HOUT.out, hro, List.append_assoc]; rfl)
      have hlk := (hmw.look_some (P := Tryz.prog) Tryz.underlying95 Tryz.underlying66 (HF.out _ _ hpa)).2
      unfold backV at hlk
      clear hne hpa hro hcr
      have HB := Lib.hid (heap_alloc_new wr (.cells #[.int .u32 (a.to : Int), .int .i64 (a.op : Int)] 94))
      have KA := Lib.hid ((Keeps.refl (fun _ => False) wr).alloc (.cells #[.int .u32 (a.to : Int), .int .i64 (a.op : Int)] 94))
      go_upto_region 4 with fail
      generalize wr.alloc (.cells #[.int .u32 (a.to : Int), .int .i64 (a.op : Int)] 94) = w3 at KA HB ⊢
      have c0 : w3.cell? ⟨wr.heap.size, 0, none⟩ = some (.int .u32 (a.to : Int)) := by rw [cell_of_blk HB.out]; rfl
      have c1 : w3.cell? ⟨wr.heap.size, 1, none⟩ = some (.int .i64 (a.op : Int)) := by rw [cell_of_blk HB.out]; rfl
      have hO3 := KA.out.ownsRow HO.out (fun _ _ h => h)
      have hdl : (intsP dn).length < out.length := by rw [HOR.out]; simp [intsP]
      have hs3 := KA.out.size; have hsw := KW.out.size
      go_wp2_with (at_builtin; refine wpList_append_d rfl _ _ _ rfl w.heap.size 3 i0 _ 1 8 Tryz.underlying22 hi0 hz0 hz1 hz2 rfl (by omega) _ (intsP dn).length ((intsP dn).map (Value.int .i64)) (by rfl) (World.ownsRow.alloc hO3 (.cells #[.int .i64 (a.op : Int)] 3)) ⟨w3.heap.size, 0, none⟩ 1 1 [.int .i64 (a.op : Int)] (by rfl) (by rfl) ?hnews ?hone (by omega) (by unfold maxLen; omega) (by omega) (by simp; omega) (w3.heap.size + 1) (by simp) ?_)
      case hnews => exact World.news_of_block (cs := #[.int .i64 (a.op : Int)]) (t := 3) (fr := (0, 0)) (heap_alloc_new _ _)
      case hone => simp [Value.oneCell']
      intro gg cap2 w4 hown hgrow hat hlt4 hd4
      have HN := Lib.hid (show w4.ownsRow w.heap.size 3 1 (.slice (some ⟨gg, 0, none⟩) ((intsP dn).length + 1) cap2) (intsP (dn ++ [a.op])).length ((intsP (dn ++ [a.op])).map (Value.int .i64)) by
        have e1 : (intsP (dn ++ [a.op])) = intsP dn ++ [(a.op : Int)] := by simp [intsP]
        rw [e1, List.map_append, List.length_append]; exact hown)
      have HKN := Lib.hid (own_grown HO.out KW.out (KA.out.alloc (.cells #[.int .i64 (a.op : Int)] 3)) hgrow)
      have d0 : w4.cell? ⟨wr.heap.size, 0, none⟩ = some (.int .u32 (a.to : Int)) := by
        have hb4 : w4.heap[wr.heap.size]? = _ := (steady_keeps hgrow).heap ((Below.heap_alloc w3 (.cells #[.int .i64 (a.op : Int)] 3) wr.heap.size (lt_of_heap HB.out)).trans HB.out) (fun e' => by have := (World.ownsRow.lt HO.out _ e').2; omega)
        rw [cell_of_blk hb4]; rfl
      clear hown hgrow hat hd4 c0 c1 hO3 hmw
      go_wp2_with fail
      go_roundw
      case rel =>
        exact ⟨dn ++ [a.op], r, a.to, HOR.out, HCR.out, rfl, by simp [lenV, intsP], HN.out, HKN.out⟩
      case measure =>
        simp only [lenV] at *
        have h1 : (intsP dn).length = dn.length := by simp [intsP]
        omega

end Go.Proofs.YtdokakhgflljgaaGreat

namespace Go.Proofs.YtdokakhgflljgaaGreat

theorem run_cut {ops : List Wop} {p : List Nat} {x y : Nat} (h : runOps ops x p = some y) (i : Nat) : ∃ z, runOps ops x (p.take i) = some z ∧ runOps ops z (p.drop i) = some y := by
  rw [← List.take_append_drop i p, runOps_append] at h
  cases hz : runOps ops x (p.take i) with
  | none => rw [hz] at h; cases h
  | some z => rw [hz] at h; exact ⟨z, rfl, h⟩
/-- Every run has one of no greater cost that is no longer than there are states. -/
theorem short_run {ops : List Wop} {L : List Nat} (h0 : ∀ o ∈ ops, 0 ≤ o.cost ∧ o.cost ≤ 100) {x : Nat} (hL : ∀ p y, runOps ops x p = some y → y ∈ L) : ∀ (n : Nat) {p : List Nat} {y : Nat}, p.length ≤ n → runOps ops x p = some y → ∃ q, runOps ops x q = some y ∧ costN ops q ≤ costN ops p ∧ q.length ≤ L.length
  | n, p, y, hn, hr => by
    by_cases hle : p.length ≤ L.length
    · exact ⟨p, hr, Int.le_refl _, hle⟩
    · have hrep : ∃ i j, i < j ∧ j ≤ p.length ∧ runOps ops x (p.take i) = runOps ops x (p.take j) := by
        refine Classical.byContradiction fun hno => hle ?_
        have hnd : ((List.range (p.length + 1)).map fun i => (runOps ops x (p.take i)).getD 0).Nodup := by
          unfold List.Nodup
          rw [List.pairwise_iff_getElem]
          intro i j hi hj hij e
          simp only [List.getElem_map, List.getElem_range] at e
          simp only [List.length_map, List.length_range] at hi hj
          obtain ⟨zi, hzi, _⟩ := run_cut hr i
          obtain ⟨zj, hzj, _⟩ := run_cut hr j
          rw [hzi, hzj] at e
          simp only [Option.getD_some] at e
          exact hno ⟨i, j, hij, by omega, by rw [hzi, hzj, e]⟩
        have := nodup_sub_length hnd (b := L) (fun z hz => by
          obtain ⟨i, _, rfl⟩ := List.mem_map.1 hz
          obtain ⟨zi, hzi, _⟩ := run_cut hr i
          rw [hzi]; exact hL _ _ hzi)
        rw [List.length_map, List.length_range] at this; omega
      obtain ⟨i, j, hij, hj, he⟩ := hrep
      obtain ⟨z, hz1, hz2⟩ := run_cut hr j
      have hrq : runOps ops x (p.take i ++ p.drop j) = some y := by rw [runOps_append, he, hz1]; exact hz2
      have hlen : (p.take i ++ p.drop j).length < p.length := by simp only [List.length_append, List.length_take, List.length_drop]; omega
      have hcost : costN ops (p.take i ++ p.drop j) ≤ costN ops p := by
        have e1 : costN ops p = costN ops (p.take j) + costN ops (p.drop j) := by rw [← costN_append, List.take_append_drop]
        have e2 : p.take j = p.take i ++ (p.take j).drop i := by
          have := List.take_append_drop i (p.take j)
          rw [List.take_take, Nat.min_eq_left (by omega)] at this
          exact this.symm
        have e3 : costN ops (p.take j) = costN ops (p.take i) + costN ops ((p.take j).drop i) := by rw [← costN_append, ← e2]
        have := (costN_bound h0 ((p.take j).drop i)).1
        rw [costN_append]; omega
      cases n with
      | zero => omega
      | succ n =>
        obtain ⟨q, h1, h2, h3⟩ := short_run h0 hL n (by omega) hrq
        exact ⟨q, h1, by omega, h3⟩

theorem wayN_split (ops : List Wop) (p : List Nat) : wayN 4096 1 ops p = 4096 * costN ops p + (p.length : Int) := by unfold wayN; omega

end Go.Proofs.YtdokakhgflljgaaGreat

namespace Go.Proofs.YtdokakhgflljgaaGreat

def arcOf (e : Stp) : SArc := ⟨e.op, 4096 * e.cost + 1, e.to⟩
/-- The arcs from the states of a list. -/
def nextG (ops : List Wop) (ss : List Nat) (x : Nat) : List SArc := if x ∈ ss then (wsteps ops x).map arcOf else []
section
variable {ops : List Wop} {L : List Nat}
theorem nextG_all : ∀ x o (i : Nat), x ∈ L → ops[i]? = some o → o.can x = true → (⟨i, 4096 * o.cost + 1, o.next x⟩ : SArc) ∈ nextG ops L x := fun x o i hx ho hc => by
  unfold nextG
  rw [if_pos hx]
  exact List.mem_map.2 ⟨⟨i, o.cost, o.next x⟩, wsteps_mem.2 ⟨o, ho, hc, rfl, rfl⟩, rfl⟩
theorem nextG_only : ∀ y, ∀ b ∈ nextG ops L y, ∃ o, ops[b.op]? = some o ∧ o.can y = true ∧ b.to = o.next y ∧ b.price = 4096 * o.cost + 1 := fun y b hb => by
  unfold nextG at hb
  split at hb
  · obtain ⟨e, he, rfl⟩ := List.mem_map.1 hb
    obtain ⟨o, h1, h2, h3, h4⟩ := wsteps_mem.1 he
    exact ⟨o, h1, h2, h4, by unfold arcOf; simp only; rw [h3]⟩
  · simp at hb
theorem nextG_in (hsh : Shut ops L) : ∀ y, ∀ b ∈ nextG ops L y, b.to ∈ L := fun y b hb => by
  obtain ⟨o, h1, h2, h3, _⟩ := nextG_only y b hb
  unfold nextG at hb
  split at hb
  · rename_i hy; rw [h3]; exact hsh.2 y hy o (List.mem_of_getElem? h1) h2
  · simp at hb
theorem nextG_price (h0 : ∀ o ∈ ops, 0 ≤ o.cost ∧ o.cost ≤ 100) : ∀ y, ∀ b ∈ nextG ops L y, 1 ≤ b.price ∧ b.price ≤ 409601 := fun y b hb => by
  obtain ⟨o, h1, _, _, h4⟩ := nextG_only y b hb
  have := h0 o (List.mem_of_getElem? h1); omega
end

end Go.Proofs.YtdokakhgflljgaaGreat

namespace Go.Proofs.YtdokakhgflljgaaGreat.U
open Go.RowKit

theorem firstMin_least {A : List (Int × Int)} : ∀ {p : Int × Int}, firstMin A = some p → ∀ a ∈ A, p.2 ≤ a.2 := by
  induction A with
  | nil => intro p h; cases h
  | cons q r ih =>
    intro p h a ha
    simp only [firstMin] at h
    split at h
    · rename_i hr
      simp at h; subst h
      rw [firstMin_none.1 hr] at ha
      simp at ha; subst ha; exact Int.le_refl _
    · rename_i q' hq'
      have hi := ih hq'
      split at h
      · simp at h; subst h
        rcases List.mem_cons.1 ha with rfl | h2
        · omega
        · exact hi a h2
      · simp at h; subst h
        rcases List.mem_cons.1 ha with rfl | h2
        · exact Int.le_refl _
        · have := hi a h2; omega

end Go.Proofs.YtdokakhgflljgaaGreat.U
