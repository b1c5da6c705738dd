/- space.Costs. -/
import Derived.Test.YtcfcmmajlkkabaaCosA
import Derived.Test.YtcfcmmajlkkabaaWay
import Derived.Sort.LoopGhostIn
namespace Go.Proofs.Ytcfcmmajlkkabaa
open Go.RowKit Go.Shelf
attribute [local go_sem] Oper.semAt_some

def CostsPost (ops : List Wop) (L : List Nat) (acc : Nat → Bool) (w : World) (e : Ending) (w' : World) : Prop := Keeps (fun _ => False) w w' ∧
  ∃ (bo : Nat) (D : Nat → Int), e = .returned (.map (some bo)) ∧ w.heap.size ≤ bo ∧ IMap w' bo .u32 (outV L D) ∧ CostOk (arcs ops L) (L.map acc) (L.map D)

def CSx (w0 : World) (b5 mb bo Q : Nat) (f : Nat → List (Nat × Int)) (L : List Nat) (D : Nat → Int) (A : List (Int × Int)) (t : Int) (G : Nat → Prop) (W : World) : Prop := ∃ F, CSt w0 b5 mb bo Q f L D A t F G W

def CS3 (ops : List Wop) (L : List Nat) (g0 : Nat) (w : World) (b5 mb bo Q : Nat) (G : Nat → Prop) (s : Nat) (d : Int) (M0 : Nat) (va : Value) (nb : Nat) (ds : List Deferred) (k : Nat) (wx : World) : Prop :=
  ∃ (D' : Nat → Int) (A' : List (Int × Int)) (t' : Int), CSx w b5 mb bo Q (backF ops L) L D' A' t' G wx ∧ LInv ops L (goalB g0) D' A' s ((backF ops L s).drop k) ∧ D' s = d ∧ 0 ≤ t' ∧ t' + (weightC (L.map D') : Int) ≤ 2000000002000 ∧
    2 * weightC (L.map D') + A'.length < M0 ∧ Marks ds wx w.heap.size ∧ wx.ownsRow w.heap.size 151 2 va nb ((backF ops L s).flatMap arcC)

set_option maxRecDepth 100000 in
def Fr3 (b : Nat) (av : Option Addr) (L : List Nat) (cv b5 bo Q s : Nat) (d : Int) (ab : Option Addr) (nb cb k : Nat) (ds : List Deferred) (a' : Act) : Prop := ∃ u : Nat → Value, a' = { tmps := #[.pointer (some ⟨b, 0, none⟩), .slice av L.length cv, undef, undef, .map none, .pointer (some ⟨b5, 0, none⟩), .map (some bo), .pointer (some ⟨Q, 0, none⟩), u 8, u 9, u 10, .int .u32 (s : Int), .int .i64 d, u 13, u 14, u 15, u 16, u 17, u 18, u 19, u 20, u 21, u 22, u 23, u 24, u 25, u 26, u 27, u 28, u 29, u 30, u 31, u 32, u 33, u 34, u 35, u 36, u 37, u 38, u 39, u 40, u 41, u 42, u 43, u 44, u 45, u 46, u 47, u 48, u 49, u 50, u 51, u 52, u 53, u 54, u 55, u 56, u 57, u 58, u 59, u 60, u 61, u 62, u 63, .slice ab nb cb, .int .i64 (nb : Int), .int .i64 (k : Int), u 67, u 68, u 69, u 70, u 71, u 72, u 73, u 74, u 75, u 76, u 77, u 78, u 79, u 80, u 81, u 82, u 83, u 84, u 85, u 86, u 87, u 88, u 89, u 90, u 91, u 92, u 93, u 94, u 95], defers := ds }

set_option maxRecDepth 100000 in
set_option maxHeartbeats 4000000 in
theorem costs_in (w : World) (b st g0 base : Nat) (v vl : Value) (ops : List Wop) (L : List Nat) (hw : WordsAt w base b st g0 v ops) (hops : WopsOk ops) (hmany : ops.length ≤ 40) (hg0 : g0 < 4294967296) (hsh : Shut ops L) (hfew : L.length ≤ 2000)
    (hL32 : ∀ x ∈ L, x < 4294967296) (hcost : ∀ o ∈ ops, 0 ≤ o.cost ∧ o.cost ≤ 1000000) (hvl : Sl w vl L.length (L.map encW)) :
    CallsIn Fence.wide 9 Try.prog 78 #[.pointer (some ⟨b, 0, none⟩), vl] w (CostsPost ops L (goalB g0) w) := by
  have hmm := @run_makeMap Try.prog
  obtain ⟨av, cv, hav, hmv⟩ := Sl.formN hvl
  subst hav
  have HW := Lib.hid hw; have HV := Lib.hid hvl; have HSH := Lib.hid hsh; have HL32 := Lib.hid hL32; have HCO := Lib.hid hcost
  clear hw hvl hsh hL32 hcost
  refine callsIn_of_wp_marks Try.func78 rfl trivial ?_ rfl
  simp only [Try.ntmps78, List.size_toArray, List.length_cons, List.length_nil, Nat.reduceAdd, Nat.reduceSub, Array.replicate_succ, Array.replicate_zero, List.push_toArray, List.append_toArray, List.nil_append, List.cons_append]
  gi_wp2
  have M1 := GMap.made w w.heap.size 151 2 arcC
  obtain ⟨W3, hW3⟩ : ∃ W3, ((w.alloc (.map #[] 0)).alloc (.cells #[.map (some w.heap.size)] 146)).alloc (.map #[] 0) = W3 := ⟨_, rfl⟩
  have hz3 : W3.heap.size = w.heap.size + 1 + 1 + 1 := by rw [← hW3]; simp
  have k1 : Keeps (fun _ => False) (w.alloc (.map #[] 0)) W3 := by rw [← hW3]; exact ((Keeps.refl _ _).alloc _).alloc _
  have k0 : Keeps (fun _ => False) w W3 := by rw [← hW3]; exact (((Keeps.refl _ _).alloc _).alloc _).alloc _
  have x5 : Boxed W3 (w.heap.size + 1) 146 (.map (some w.heap.size)) := by
    rw [← hW3]
    have h := Boxed.new (w.alloc (.map #[] 0)) 146 (.map (some w.heap.size))
    rw [World.size_alloc] at h
    exact ((Keeps.refl (fun _ => False) _).alloc (.map #[] 0)).heap h (fun h => h)
  have o3 : IMap W3 (w.heap.size + 1 + 1) .u32 (outV [] (start0 (goalB g0))) := by
    rw [← hW3]
    have h := IMap.made ((w.alloc (.map #[] 0)).alloc (.cells #[.map (some w.heap.size)] 146)) .u32
    rw [World.size_alloc, World.size_alloc] at h
    exact h
  rw [hW3]
  clear hW3
  refine ⟨trivial, ?_⟩
  refine (callsIn_wide.2 (U.new_any _)).mono ?_; rintro e w4 ⟨rfl, hq, hk⟩
  have HST := Lib.hid (show CSt w (w.heap.size + 1) w.heap.size (w.heap.size + 1 + 1) (W3.heap.size + 1) (backF ops (L.take 0)) (L.take 0) (start0 (goalB g0)) (queue0 (goalB g0) (L.take 0)) 0 (fun b => W3.heap.size ≤ b ∧ b < w4.heap.size ∧ w4.heap[b]? ≠ some (.deferred (some []))) (fun b => b = w.heap.size) w4 from
    ⟨k0.trans hk, hk.heap x5 (fun h => h), by rw [List.take_zero]; exact o3.keeps hk (fun h => h), by rw [List.take_zero, backF_nil]; exact (M1.keeps k1 (fun _ _ h => h)).keeps hk (fun _ _ h => h), hq.live, by omega, by omega,
     fun k hF => ⟨by omega, hF.2.1, by omega, by omega, by omega⟩, fun k hG => by subst hG; exact ⟨Nat.le_refl _, by have := hk.size; omega, by omega, by omega⟩, fun k hF => hF.2.2⟩)
  clear M1 k1 k0 x5 o3 hq hk
  generalize W3.heap.size + 1 = Q at HST ⊢
  generalize (fun b => W3.heap.size ≤ b ∧ b < w4.heap.size ∧ w4.heap[b]? ≠ some (.deferred (some []))) = F0 at HST
  generalize (fun b => b = w.heap.size) = G0 at HST
  generalize w.heap.size + 1 + 1 = bo at HST ⊢
  generalize w.heap.size + 1 = b5 at HST ⊢
  obtain ⟨mb, hmb⟩ : ∃ mb, w.heap.size = mb := ⟨_, rfl⟩
  have HST1 : Hid (CSt w b5 mb bo Q (backF ops (L.take 0)) (L.take 0) (start0 (goalB g0)) (queue0 (goalB g0) (L.take 0)) 0 F0 G0 w4) := by rw [← hmb]; exact HST
  rw [hmb]
  clear HST hmb hz3
  obtain ⟨i0, hi0, hz0, hz1, hz2⟩ := info_parts Try.info_sarc
  have hmix : Try.prog.follows .mixedOrders = true := by kernel_rfl
  gi_wp2
  refine wpIn_loop (fun a' wr => ∃ (ds : List Deferred) (i : Nat), CLoop ops (goalB g0) L w b5 mb bo Q i ds wr ∧ i ≤ L.length ∧
      ∃ u : Nat → Value, a' = { tmps := #[.pointer (some ⟨b, 0, none⟩), .slice av L.length cv, undef, undef, .map none, .pointer (some ⟨b5, 0, none⟩), .map (some bo), .pointer (some ⟨Q, 0, none⟩), u 8, u 9, u 10, u 11, u 12, u 13, u 14, u 15, u 16, u 17, u 18, .slice av L.length cv, .int .i64 (L.length : Int), .int .i64 (i : Int), u 22, u 23, u 24, u 25, u 26, u 27, u 28, u 29, u 30, u 31, u 32, u 33, u 34, u 35, u 36, u 37, u 38, u 39, u 40, u 41, u 42, u 43, u 44, u 45, u 46, u 47, u 48, u 49, u 50, u 51, u 52, u 53, u 54, u 55, u 56, u 57, u 58, u 59, u 60, u 61, u 62, u 63, u 64, u 65, u 66, u 67, u 68, u 69, u 70, u 71, u 72, u 73, u 74, u 75, u 76, u 77, u 78, u 79, u 80, u 81, u 82, u 83, u 84, u 85, u 86, u 87, u 88, u 89, u 90, u 91, u 92, u 93, u 94, u 95], defers := ds })
    (fun a' _ => L.length - (intOf (a'.tmps.getD 21 undef)).toNat) ?start ?round
  case start => exact ⟨[], 0, ⟨⟨0, F0, G0, HST1.out, Int.le_refl _, by omega⟩, Marks.nil _ _⟩, Nat.zero_le _, ex_fnD rfl⟩
  case round =>
    rintro a wo ⟨ds, i, hL, hil, u, rfl⟩
    have HL := Lib.hid hL
    clear hL HST1
    obtain ⟨t, F, G, hst, ht0, ht1⟩ := HL.out.st
    have hlow : w.heap.size ≤ wo.heap.size := hst.keep.size
    by_cases hlt : i < L.length
    · obtain ⟨bl, ol, rfl, hx'⟩ := Sl.cellN HV.out rfl (by omega)
      obtain ⟨s, hs⟩ : ∃ s, L[i]? = some s := ⟨_, List.getElem?_eq_getElem hlt⟩
      have hu := hst.keep.cell (hx' i (.int .u32 (s : Int)) (by rw [List.getElem?_map, hs]; rfl)) (fun h => h)
      have hs32 : s < 4294967296 := HL32.out s (List.mem_of_getElem? hs)
      have hnotin : s ∉ L.take i := fun h => by
        obtain ⟨j, hj⟩ := List.mem_iff_getElem?.1 h
        have hjl := (List.getElem?_eq_some_iff.1 hj).1
        rw [List.length_take] at hjl
        rw [List.getElem?_take_of_lt (by omega)] at hj
        have := nodup_ix HSH.out.1 hj hs
        omega
      have htk : L.take (i + 1) = L.take i ++ [s] := take_getS hs
      have hin : s ∈ L.take (i + 1) := by rw [htk]; simp
      have hnd : (L.take (i + 1)).Nodup := HSH.out.1.sublist (List.take_sublist _ _)
      have kA := (Keeps.refl (fun _ => False) wo).alloc (.cells #[.int .u32 (s : Int)] 90)
      have hsA := hst.keeps0 kA
      have hb9 := heap_alloc_new wo (.cells #[.int .u32 (s : Int)] 90)
      obtain ⟨W2, hrun, hI2, hk2⟩ := hsA.out.run_update_new (P := Try.prog) Try.underlying106 Try.underlying90 (outV_miss _ hnotin) (.int .i64 1000000000)
      have e1 : outV (L.take i) (start0 (goalB g0)) ++ [((s : Int), Value.int .i64 1000000000)] = outV (L.take (i + 1)) (upd (start0 (goalB g0)) s bigC) := by
        rw [htk, outV_snoc, upd_same, outV_congr (D := start0 (goalB g0)) (D' := upd (start0 (goalB g0)) s bigC) (fun x hx => (upd_ne _ _ (fun e => hnotin (by rw [← e]; exact hx))).symm)]
        rfl
      rw [e1] at hI2
      have hs2 := hsA.outed hI2 hk2
      have hbo : ¬ wo.heap.size = bo := by have := hst.out.lt; omega
      have hb92 : W2.heap[wo.heap.size]? = some (.cells #[.int .u32 (s : Int)] 90 (0, 0)) := hk2.heap hb9 hbo
      have c9 : W2.cell? ⟨wo.heap.size, 0, none⟩ = some (.int .u32 (s : Int)) := by rw [cell_of_blk hb92]; rfl
      have hb9l : wo.heap.size < W2.heap.size := lt_of_heap hb92
      have hm2 : Marks ds W2 w.heap.size := (HL.out.marks.keeps (KeepsD.of0 kA)).keeps (KeepsD.of hk2 (fun k hk => by subst hk; exact map_not_deferred hsA.out))
      have HS2 := Lib.hid hs2; have HB9 := Lib.hid hb92; have HM2 := Lib.hid hm2; have HTK := Lib.hid htk; have HIN := Lib.hid hin; have HND := Lib.hid hnd; have HNI := Lib.hid hnotin; have HSI := Lib.hid hs
      have HG9 := Lib.hid (show ∀ k, G k → k ≠ wo.heap.size from fun k hG => by have := (hst.lG k hG).2.1; omega)
      have HF9 := Lib.hid (show ∀ k, F k → k ≠ wo.heap.size from fun k hF => by have := (hst.lF k hF).2.1; omega)
      clear hx' hs hnotin htk hin hnd kA hsA hb9 hI2 hk2 e1 hs2 hb92 hm2 hst
      gi_wp2
      refine ⟨trivial, ?_⟩
      refine (callsIn_wide.2 (goal_any W2 base b st g0 s v ops (HW.out.keeps0 HS2.out.keep))).mono ?_; rintro e w3 ⟨rfl, q, rfl⟩
      rw [goal_bits hs32 hg0]
      have kq := (Keeps.refl (fun _ => False) W2).drewN q
      have HS3 := Lib.hid (HS2.out.keeps0 kq); have HB3 := Lib.hid (kq.heap HB9.out (fun h => h)); have HM3 := Lib.hid (HM2.out.keeps (KeepsD.of0 kq))
      have hb9q : wo.heap.size < (W2.drewN q).heap.size := hb9l
      clear kq HS2 HB9 HM2 c9 hb9l hrun hu
      generalize W2.drewN q = W3 at HS3 HB3 HM3 hb9q ⊢
      generalize hbb : wo.heap.size = b9 at HB3 HG9 HF9 hb9q hbo ⊢
      have c9 : W3.cell? ⟨b9, 0, none⟩ = some (.int .u32 (s : Int)) := by rw [cell_of_blk HB3.out]; rfl
      clear hbb
      have hTi : (L.take (i + 1))[i]? = some s := by rw [List.getElem?_take_of_lt (by omega)]; exact HSI.out
      have hbo' : ¬ b9 = bo := hbo
      cases hacc : goalB g0 s
      case' true =>
        have hst0 : start0 (goalB g0) s = 0 := by unfold start0; rw [if_pos hacc]
        obtain ⟨W4, hrun, hI4, hk4⟩ := HS3.out.out.run_update_old (P := Try.prog) Try.underlying106 Try.underlying90 (outV_nodup HND.out _) (outV_get _ hTi) (.int .i64 0)
        rw [outV_set HND.out _ hTi] at hI4
        have HS4 := Lib.hid ((HS3.out.outed hI4 hk4).congr (D' := start0 (goalB g0)) (fun x hx => by
          by_cases e : x = s
          · rw [e, upd_same, hst0]
          · rw [upd_ne _ _ e, upd_ne _ _ e]))
        have HM4 := Lib.hid (HM3.out.keeps (KeepsD.of hk4 (fun k hk => by subst hk; exact map_not_deferred HS3.out.out)))
        have HB4 := Lib.hid (hk4.heap HB3.out hbo')
        have c9' : W4.cell? ⟨b9, 0, none⟩ = some (.int .u32 (s : Int)) := by rw [cell_of_blk HB4.out]; rfl
        have hlen0 : (queue0 (goalB g0) (L.take i)).length ≤ 999999 := by have h1 := queue0_len (goalB g0) (L.take i); rw [List.length_take] at h1; omega
        clear hI4
        gi_wp2
        refine ⟨trivial, ?_⟩
        refine (callsIn_wide.2 (U.set_new W4 Q (queue0 (goalB g0) (L.take i)) t F HS4.out.q (s : Int) 0 (queue0_miss _ HNI.out) ⟨by omega, by omega⟩ hlen0)).mono ?_; rintro e W5 ⟨rfl, hq5, hk5⟩
        have hs5 := HS4.out.queued hq5 (fun k h => h) hk5
        rw [U.setA_new (queue0_miss _ HNI.out), show queue0 (goalB g0) (L.take i) ++ [((s : Int), (0 : Int))] = queue0 (goalB g0) (L.take (i + 1)) by rw [HTK.out, queue0_snoc, if_pos hacc]] at hs5
        have HSN : Hid (∃ (t' : Int) (F' : Nat → Prop), CSt w b5 mb bo Q (backF ops (L.take i)) (L.take (i + 1)) (start0 (goalB g0)) (queue0 (goalB g0) (L.take (i + 1))) t' F' G W5 ∧ 0 ≤ t' ∧ t' ≤ ((i + 1 : Nat) : Int)) := ⟨t + 1, _, hs5, by omega, by omega⟩
        have HMN := Lib.hid (HM4.out.keeps (HS4.out.kd hk5))
        have HBN := Lib.hid (hk5.heap HB4.out (fun e => HF9.out _ e rfl))
        clear hs5 hq5 hk5 HS4 HM4 HB4 HS3 HM3 HB3 hk4 hrun c9 c9' hst0
        generalize W5 = Wn at HSN HMN HBN ⊢
      case' false =>
        have hst0 : start0 (goalB g0) s = bigC := by unfold start0; rw [if_neg (by rw [hacc]; simp)]
        have HSN : Hid (∃ (t' : Int) (F' : Nat → Prop), CSt w b5 mb bo Q (backF ops (L.take i)) (L.take (i + 1)) (start0 (goalB g0)) (queue0 (goalB g0) (L.take (i + 1))) t' F' G W3 ∧ 0 ≤ t' ∧ t' ≤ ((i + 1 : Nat) : Int)) := by
          have h := HS3.out.congr (D' := start0 (goalB g0)) (fun x hx => by
            by_cases e : x = s
            · rw [e, upd_same, hst0]
            · rw [upd_ne _ _ e])
          rw [show queue0 (goalB g0) (L.take i) = queue0 (goalB g0) (L.take (i + 1)) by rw [HTK.out, queue0_snoc, if_neg (by rw [hacc]; simp), List.append_nil]] at h
          exact ⟨t, F, h, by omega, by omega⟩
        have HMN := HM3
        have HBN := HB3
        clear hst0 c9 HS3 HM3 HB3
        generalize W3 = Wn at HSN HMN HBN ⊢
      all_goals
        obtain ⟨t', F', hs5, ht0', ht1'⟩ := HSN.out
        have x5c := hs5.x5.cell
        have c9 : Wn.cell? ⟨b9, 0, none⟩ = some (.int .u32 (s : Int)) := by rw [cell_of_blk HBN.out]; rfl
        have hb9n := lt_of_heap HBN.out
        have HS5 := Lib.hid hs5
        clear hs5 HSN
        gi_wp2
        refine ⟨trivial, ?_⟩
        refine (callsIn_wide.2 (steps_any Wn b s)).mono ?_; rintro en w5 ⟨rfl, rfl⟩
        gi_wp2
        obtain ⟨W6, hW6⟩ : ∃ W6, ((Wn.alloc (.cells #[.pointer (some ⟨b, 0, none⟩)] 84)).alloc (.cells #[.int .u32 (s : Int)] 90)) = W6 := ⟨_, rfl⟩
        have hz6 : W6.heap.size = Wn.heap.size + 1 + 1 := by rw [← hW6]; simp
        have k6 : Keeps (fun _ => False) Wn W6 := by rw [← hW6]; exact ((Keeps.refl _ _).alloc _).alloc _
        have hBw : W6.cell? ⟨Wn.heap.size, 0, none⟩ = some (.pointer (some ⟨b, 0, none⟩)) := by
          rw [← hW6]; exact ((Boxed.new Wn _ _).alloc _).cell
        have hBs : W6.heap[Wn.heap.size + 1]? = some (.cells #[.int .u32 (s : Int)] 90 (0, 0)) := by
          rw [← hW6]
          have := heap_alloc_new (Wn.alloc (.cells #[.pointer (some ⟨b, 0, none⟩)] 84)) (.cells #[.int .u32 (s : Int)] 90)
          rwa [World.size_alloc] at this
        have hBsc : W6.cell? ⟨Wn.heap.size + 1, 0, none⟩ = some (.int .u32 (s : Int)) := by rw [cell_of_blk hBs]; rfl
        rw [hW6]
        have hlow4 : w.heap.size ≤ Wn.heap.size := HS5.out.keep.size
        have HG0 := Lib.hid (show ∀ k, G k → k ≠ Wn.heap.size + 1 from fun k hk => by have := (HS5.out.lG k hk).2.1; omega)
        have HF6 := Lib.hid (show ∀ k, F' k → k < W6.heap.size from fun k hk => by have := (HS5.out.lF k hk).2.1; omega)
        have HA6 := Lib.hid (HS5.out.keeps0 k6)
        have HM6 := Lib.hid (HMN.out.keeps (KeepsD.of0 k6))
        have HB96 := Lib.hid (k6.heap HBN.out (fun h => h))
        have HWW := Lib.hid (show ∃ w0 : World, WordsAt w0 base b st g0 v ops ∧ w0.heap.size ≤ w.heap.size ∧ Below w.heap.size w0 W6 from ⟨w, HW.out, Nat.le_refl _, HA6.out.keep.below⟩)
        have HBS := Lib.hid hBs
        have HWL := Lib.hid (show (wsteps ops s).length ≤ 40 from Nat.le_trans (wsteps_le ops s) hmany)
        have hb6 : w.heap.size ≤ W6.heap.size := by omega
        have hb96 : b9 < W6.heap.size := by omega
        have hbo6 : bo < W6.heap.size := HA6.out.out.lt
        have hmb6 : mb < W6.heap.size := HA6.out.back.lt
        have hbl : ∀ y, (backF ops (L.take i) y).length ≤ 80000 := fun y => by
          have h1 := backF_len hmany (L.take i) y
          rw [List.length_take] at h1; omega
        have HBL := Lib.hid hbl
        clear hBs HMN HBN HS5 x5c c9 hbl
        refine wpIn_rangeFunc_ownH (α := StpOf ops s) rfl (by omega) (gf := 98) (lb := #[.pointer (some ⟨Wn.heap.size, 0, none⟩), .pointer (some ⟨Wn.heap.size + 1, 0, none⟩)]) rfl trivial (enters_of Try.func98 (by kernel_rfl) rfl)
          (steps_stops Fence.wide 8 trivial rfl (by omega) Wn.heap.size (Wn.heap.size + 1) w.heap.size base b st g0 s v ops hops (by omega) hs32 W6 (by omega) hBw hBsc (by omega) (by omega) HWW.out)
          KpS.trans (kpS_b (by omega) (by omega)) (Below.refl _ _) (fun _ => rfl)
          (fun pre W => CI w b5 mb bo Q (backF ops (L.take i)) (L.take (i + 1)) (start0 (goalB g0)) (queue0 (goalB g0) (L.take (i + 1))) t' F' s ds (Wn.heap.size + 1) b9 (pre.map fun y => y.1) W)
          (fun _ _ _ => False) ?_ (fun _ _ _ _ _ hs _ _ => hs) ?_
          (fun (y : StpOf ops s) (a' : Act) (W : World) => ∃ Bx : Nat, W.heap[Bx]? = some (Obj.cells #[.int .i64 (y.1.op : Int), .int .i64 y.1.cost, .int .u32 (y.1.to : Int)] 113 (0, 0)) ∧ ∃ u : Nat → Value, a' = { tmps := #[.pointer (some ⟨b, 0, none⟩), .slice (some ⟨bl, ol, none⟩) L.length cv, undef, undef, .map none, .pointer (some ⟨b5, 0, none⟩), .map (some bo), .pointer (some ⟨Q, 0, none⟩), u 8, .pointer (some ⟨b9, 0, none⟩), .pointer (some ⟨Bx, 0, none⟩), u 11, u 12, u 13, u 14, u 15, u 16, u 17, u 18, u 19, u 20, u 21, u 22, u 23, u 24, u 25, u 26, u 27, u 28, u 29, u 30, u 31, u 32, u 33, u 34, u 35, u 36, u 37, u 38, u 39, u 40, u 41, u 42, u 43, u 44, u 45, u 46, u 47, u 48, u 49, u 50, u 51, u 52, u 53, u 54, u 55, u 56, u 57, u 58, u 59, u 60, u 61, u 62, u 63, u 64, u 65, u 66, u 67, u 68, u 69, u 70, u 71, u 72, u 73, u 74, u 75, u 76, u 77, u 78, u 79, u 80, u 81, u 82, u 83, u 84, u 85, u 86, u 87, u 88, u 89, u 90, u 91, u 92, u 93, u 94, u 95], defers := [] }) ?_ ?_ ?_ ?_ ?_
        · intro l W W' row hs hg hr
          obtain ⟨G', h1, h2, h3, h4, h5⟩ := hs
          exact ⟨G', h1.steady hg hr hb6 hbo6 hmb6 HF6.out, Marks.steady HM6.out h2 hg hr, steady_heap hg (fun r e => (hr r e).2) h3, steady_heap hg (fun r e => (hr r e).2) h4, h5⟩
        · exact ⟨G, by simpa [addB_nil] using HA6.out, HM6.out, HBS.out, HB96.out, fun k hk => ⟨HG0.out k hk, HG9.out k hk⟩⟩
        · intro y a' _ W W' row hs hg hr
          obtain ⟨Bx, h1, h2⟩ := hs
          exact ⟨Bx, steady_heap hg (fun r e => (hr r e).2) h1, h2⟩
        · intro l pre y W K hi hK
          simp only [Stp.val]
          gi_wp2
          obtain ⟨G', h1, h2, h3, h4, h5⟩ := hi
          exact hK _ _ ((KeepsOthers.alloc _ _).from _) ((KpS.refl _ _ W).alloc h1.keep.size (lt_of_heap h3) _) ⟨G', h1.keeps0 ((Keeps.refl _ _).alloc _), h2.keeps (KeepsD.of0 ((Keeps.refl _ _).alloc _)), ((Keeps.refl (fun _ => False) W).alloc _).heap h3 (fun h => h), ((Keeps.refl (fun _ => False) W).alloc _).heap h4 (fun h => h), h5⟩ ⟨W.heap.size, heap_alloc_new W _, ex_fnD rfl⟩
        · rintro l pre y a' W hl - ⟨G', h1, h2, h3, h4, h5⟩ ⟨Bx, hBx, u', rfl⟩ hlt2
          have x5c := h1.x5.cell
          have x5l := h1.x5.lt
          have c9 : W.cell? ⟨b9, 0, none⟩ = some (.int .u32 (s : Int)) := by rw [cell_of_blk h4]; rfl
          have y1 : W.cell? ⟨Bx, 1, none⟩ = some (.int .i64 y.1.cost) := by rw [cell_of_blk hBx]; rfl
          have y2 : W.cell? ⟨Bx, 2, none⟩ = some (.int .u32 (y.1.to : Int)) := by rw [cell_of_blk hBx]; rfl
          have hBxl := lt_of_heap hBx
          have l9 := lt_of_heap h4
          have KD := (Keeps.refl (fun _ => False) W).drew
          obtain ⟨va, ⟨ml, hml, hlk⟩, hown, hvG, hturn⟩ := (h1.keeps0 KD).back.turn (P := Try.prog) Try.underlying146 Try.underlying90 (show (zeroValue 149).run Try.prog W.drew = .ok (.slice none 0 0) W.drew by kernel_rfl) y.1.to
          have hlk2 : ∀ W', IMap W' mb .u32 ml → (Instr.lookup 146 (.map (some mb)) (.int .u32 (y.1.to : Int)) false).run Try.prog W' = .ok va W' := fun W' h => hlk W' h (by kernel_rfl)
          have hnb : (addB (backF ops (L.take i)) s (pre.map fun y => y.1) y.1.to).length ≤ 80040 := by
            have e1 := addB_len (backF ops (L.take i)) s (pre.map fun y => y.1) y.1.to
            have e2 := HBL.out y.1.to
            have e3 := HWL.out
            rw [List.length_map] at e1
            omega
          have hsn := addB_snoc (backF ops (L.take i)) s (pre.map fun y => y.1) y.1
          have hrowa := World.ownsRow.alloc (hown) (.cells #[.int .u32 (s : Int), .int .i64 y.1.cost] 151)
          have hbase := h1.keep.size
          have hvx : ∀ k, va.ownBlock = some k → k ≠ Bx := fun k hk e => by
            subst e
            rcases hown.2 with ⟨e', _⟩ | ⟨g, cap, cur, e', _, hg, _⟩
            · rw [e'] at hk; simp [Value.ownBlock] at hk
            · rw [e'] at hk; simp [Value.ownBlock] at hk
              subst hk
              have h := (show W.drew.heap[g]? = _ from hg).symm.trans (show W.drew.heap[g]? = _ from KD.heap hBx (fun h => h))
              simp at h
          have x5k : ¬ va.ownBlock = some b5 := fun e => (h1.lG _ (hvG _ e).1).2.2.1 rfl
          have H1 := Lib.hid h1; have H2 := Lib.hid h2; have H3 := Lib.hid h3; have H4 := Lib.hid h4; have H5 := Lib.hid h5; have HSN := Lib.hid hsn; have HT := Lib.hid hturn; have HVG := Lib.hid hvG; have HOW := Lib.hid hown; have HROW := Lib.hid hrowa; have HVX := Lib.hid hvx; have HML := Lib.hid hml; have HLK := Lib.hid hlk2
          clear h1 h2 h3 h4 h5 hsn hturn hvG hown hrowa hBx hlk hlk2 hml hvx
          generalize hnn : (addB (backF ops (L.take i)) s (pre.map fun y => y.1) y.1.to).length = nb at hnb HROW HOW HT
          generalize hxx : (addB (backF ops (L.take i)) s (pre.map fun y => y.1) y.1.to).flatMap arcC = xs at HROW HOW HT
          gi_wp2
          refine wpIn_region_held (fun W => W.cell? ⟨b5, 0, none⟩ = some (.map (some mb)) ∧ W.cell? ⟨b9, 0, none⟩ = some (.int .u32 (s : Int)) ∧ W.cell? ⟨Bx, 1, none⟩ = some (.int .i64 y.1.cost) ∧ W.cell? ⟨Bx, 2, none⟩ = some (.int .u32 (y.1.to : Int)) ∧ IMap W mb .u32 ml) (fun j => decide (13 ≤ j)) hmix ?_
          have HS0 : Hid (W.drew.cell? ⟨b5, 0, none⟩ = some (.map (some mb)) ∧ W.drew.cell? ⟨b9, 0, none⟩ = some (.int .u32 (s : Int)) ∧ W.drew.cell? ⟨Bx, 1, none⟩ = some (.int .i64 y.1.cost) ∧ W.drew.cell? ⟨Bx, 2, none⟩ = some (.int .u32 (y.1.to : Int)) ∧ IMap W.drew mb .u32 ml) := ⟨x5c, c9, y1, y2, HML.out⟩
          refine wpAnyHIn_take (Wide.wide.inRound l) 0 (.map (some mb)) rfl (by kernel_rfl) (by kernel_rfl) (by kernel_rfl) (by kernel_rfl) (by kernel_rfl) (fun _ _ _ h => h) HS0.out ?_ rfl ?_
          · rintro W ⟨s1, s2, s3, s4, s5⟩; go_simp
          refine wpAnyHIn_take (Wide.wide.inRound l) 1 (.pointer (some ⟨Bx, 2, none⟩)) rfl (by kernel_rfl) (by kernel_rfl) (by kernel_rfl) (by kernel_rfl) (by kernel_rfl) (fun _ _ _ h => h) HS0.out ?_ rfl ?_
          · rintro W ⟨s1, s2, s3, s4, s5⟩; go_simp
          refine wpAnyHIn_take (Wide.wide.inRound l) 2 (.int .u32 (y.1.to : Int)) rfl (by kernel_rfl) (by kernel_rfl) (by kernel_rfl) (by kernel_rfl) (by kernel_rfl) (fun _ _ _ h => h) HS0.out ?_ rfl ?_
          · rintro W ⟨s1, s2, s3, s4, s5⟩; go_simp
          refine wpAnyHIn_take (Wide.wide.inRound l) 3 (.map (some mb)) rfl (by kernel_rfl) (by kernel_rfl) (by kernel_rfl) (by kernel_rfl) (by kernel_rfl) (fun _ _ _ h => h) HS0.out ?_ rfl ?_
          · rintro W ⟨s1, s2, s3, s4, s5⟩; go_simp
          refine wpAnyHIn_take (Wide.wide.inRound l) 4 (.pointer (some ⟨Bx, 2, none⟩)) rfl (by kernel_rfl) (by kernel_rfl) (by kernel_rfl) (by kernel_rfl) (by kernel_rfl) (fun _ _ _ h => h) HS0.out ?_ rfl ?_
          · rintro W ⟨s1, s2, s3, s4, s5⟩; go_simp
          refine wpAnyHIn_take (Wide.wide.inRound l) 5 (.int .u32 (y.1.to : Int)) rfl (by kernel_rfl) (by kernel_rfl) (by kernel_rfl) (by kernel_rfl) (by kernel_rfl) (fun _ _ _ h => h) HS0.out ?_ rfl ?_
          · rintro W ⟨s1, s2, s3, s4, s5⟩; go_simp
          refine wpAnyHIn_take (Wide.wide.inRound l) 6 (va) rfl (by kernel_rfl) (by kernel_rfl) (by kernel_rfl) (by kernel_rfl) (by kernel_rfl) (fun _ _ _ h => h) HS0.out ?_ rfl ?_
          · rintro W ⟨s1, s2, s3, s4, s5⟩; have s6 := HLK.out W s5; go_simp
          refine wpAnyHIn_take (Wide.wide.inRound l) 7 (.int .u32 (s : Int)) rfl (by kernel_rfl) (by kernel_rfl) (by kernel_rfl) (by kernel_rfl) (by kernel_rfl) (fun _ _ _ h => h) HS0.out ?_ rfl ?_
          · rintro W ⟨s1, s2, s3, s4, s5⟩; go_simp
          refine wpAnyHIn_take (Wide.wide.inRound l) 8 (.pointer (some ⟨Bx, 1, none⟩)) rfl (by kernel_rfl) (by kernel_rfl) (by kernel_rfl) (by kernel_rfl) (by kernel_rfl) (fun _ _ _ h => h) HS0.out ?_ rfl ?_
          · rintro W ⟨s1, s2, s3, s4, s5⟩; go_simp
          refine wpAnyHIn_take (Wide.wide.inRound l) 9 (.int .i64 y.1.cost) rfl (by kernel_rfl) (by kernel_rfl) (by kernel_rfl) (by kernel_rfl) (by kernel_rfl) (fun _ _ _ h => h) HS0.out ?_ rfl ?_
          · rintro W ⟨s1, s2, s3, s4, s5⟩; go_simp
          refine wpAnyHIn_take (Wide.wide.inRound l) 10 (.agg #[.int .u32 (s : Int), .int .i64 y.1.cost]) rfl (by kernel_rfl) (by kernel_rfl) (by kernel_rfl) (by kernel_rfl) (by kernel_rfl) (fun _ _ _ h => h) HS0.out ?_ rfl ?_
          · rintro W ⟨s1, s2, s3, s4, s5⟩; go_simp
          have KA := (Keeps.refl (fun _ => False) W.drew).alloc (.cells #[.int .u32 (s : Int), .int .i64 y.1.cost] 151)
          have HS1 : Hid ((W.drew.alloc (.cells #[.int .u32 (s : Int), .int .i64 y.1.cost] 151)).cell? ⟨b5, 0, none⟩ = some (.map (some mb)) ∧ (W.drew.alloc (.cells #[.int .u32 (s : Int), .int .i64 y.1.cost] 151)).cell? ⟨b9, 0, none⟩ = some (.int .u32 (s : Int)) ∧ (W.drew.alloc (.cells #[.int .u32 (s : Int), .int .i64 y.1.cost] 151)).cell? ⟨Bx, 1, none⟩ = some (.int .i64 y.1.cost) ∧ (W.drew.alloc (.cells #[.int .u32 (s : Int), .int .i64 y.1.cost] 151)).cell? ⟨Bx, 2, none⟩ = some (.int .u32 (y.1.to : Int)) ∧ IMap (W.drew.alloc (.cells #[.int .u32 (s : Int), .int .i64 y.1.cost] 151)) mb .u32 ml) := by
            obtain ⟨s1, s2, s3, s4, s5⟩ := HS0.out
            exact ⟨KA.cell s1 (fun h => h), KA.cell s2 (fun h => h), KA.cell s3 (fun h => h), KA.cell s4 (fun h => h), s5.keeps KA (fun h => h)⟩
          clear x5c c9 y1 y2
          refine wpAnyHIn_one 11 rfl (by kernel_rfl) rfl (fun K hK => ?_)
          go_simp
          refine hK _ _ (fun _ => HS1.out) ?_
          clear hK K
          refine wpAnyHIn_one 12 rfl (by kernel_rfl) rfl (fun K hK => ?_)
          refine Oper.wpIn_append_lies _ (.tmp 45) (.tmp 50) 149 rfl w.heap.size 151 i0 _ 2 16 Try.underlying149 hi0 hz0 hz1 hz2 rfl (by omega) va nb xs rfl HROW.out ⟨W.heap.size, 0, none⟩ 1 1 [.int .u32 (s : Int), .int .i64 y.1.cost] rfl rfl ?hnews ?hone (by omega) (by unfold maxLen; omega) (by omega) (by simp; omega) (W.heap.size + 1) (by simp) ?_
          case hnews => exact World.news_of_block (cs := #[.int .u32 (s : Int), .int .i64 y.1.cost]) (t := 151) (fr := (0, 0)) (heap_alloc_new W.drew _)
          case hone => simp [Value.oneCell']
          intro g4 cap4 W3 hown2 hgrow2 hat2 hlt4
          obtain ⟨W4, hrunU, hG4, hk4⟩ := HT.out (W.drew.alloc (.cells #[.int .u32 (s : Int), .int .i64 y.1.cost] 151)) W3 _ (s, y.1.cost) ((Keeps.refl _ _).alloc _) hgrow2 hown2 (fun g hg => by
            simp [Value.ownBlock] at hg
            subst hg
            rcases hat2 with h | h
            · exact .inl h
            · exact .inr (by simp; omega))
          have k3 : Keeps (fun k => va.ownBlock = some k) (W.drew.alloc (.cells #[.int .u32 (s : Int), .int .i64 y.1.cost] 151)) W3 := (Keeps.refl _ _).grown hgrow2 (fun k hk => .inl hk)
          have n9 : ¬ va.ownBlock = some b9 := fun e => (H5.out _ (HVG.out _ e).1).2 rfl
          have nx : ¬ va.ownBlock = some Bx := fun e => HVX.out _ e rfl
          have nm : ¬ va.ownBlock = some mb := fun e => (HVG.out _ e).2 rfl
          have HS3 : Hid (W3.cell? ⟨b5, 0, none⟩ = some (.map (some mb)) ∧ W3.cell? ⟨b9, 0, none⟩ = some (.int .u32 (s : Int)) ∧ W3.cell? ⟨Bx, 1, none⟩ = some (.int .i64 y.1.cost) ∧ W3.cell? ⟨Bx, 2, none⟩ = some (.int .u32 (y.1.to : Int)) ∧ IMap W3 mb .u32 ml) := by
            obtain ⟨s1, s2, s3, s4, s5⟩ := HS1.out
            exact ⟨k3.cell s1 x5k, k3.cell s2 n9, k3.cell s3 nx, k3.cell s4 nx, s5.keeps k3 nm⟩
          have HKF := Lib.hid (show Keeps (fun k => va.ownBlock = some k ∨ k = mb) W W4 from ((KD.mono (fun _ _ h => h.elim)).trans (KA.mono (fun _ _ h => h.elim))).trans ((k3.mono (fun _ _ h => .inl h)).trans (hk4.mono (fun _ _ h => .inr h))))
          have HG4 := Lib.hid hG4; have HRU := Lib.hid hrunU
          clear hown2 hgrow2 hat2 hlt4 hG4 k3 n9 nx nm KA HS1 hk4 hrunU
          refine hK _ _ (fun _ => HS3.out) ?_
          clear hK K
          have hrunU := HRU.out
          refine wpAnyHIn_one 13 rfl (by kernel_rfl) rfl (fun K hK => ?_)
          go_simp
          refine hK _ _ (fun h => by simp at h) ?_
          clear hK K
          refine wpAnyHIn_done (by kernel_rfl) ?_
          gi_wp2
          have hSG : ∀ k, (va.ownBlock = some k ∨ k = mb) → G' k := fun k hs => by
            rcases hs with h | rfl
            · exact (HVG.out k h).1
            · exact H1.out.back.fmap
          have hSD : ∀ k, (va.ownBlock = some k ∨ k = mb) → W.heap[k]? ≠ some (.deferred (some [])) := fun k hs => by
            rcases hs with h | rfl
            · exact (show W.drew.heap[k]? ≠ _ from row_not_deferred HOW.out k h)
            · exact (show W.drew.heap[k]? ≠ _ from map_not_deferred HML.out)
          have e1 : addB (backF ops (L.take i)) s ((pre ++ [y]).map fun y => y.1) = fun z => if z = y.1.to then addB (backF ops (L.take i)) s (pre.map fun y => y.1) y.1.to ++ [(s, y.1.cost)] else addB (backF ops (L.take i)) s (pre.map fun y => y.1) z := by rw [List.map_append]; exact HSN.out
          refine ⟨⟨HKF.out.size, fun k o hB hk0 hc => ?_⟩, KpS.ofKeeps HKF.out H1.out.keep.size (fun k hlt hs => by have := (H1.out.lG k (hSG k hs)).1; omega) (lt_of_heap H3.out) (fun hs => (H5.out _ (hSG _ hs)).1 rfl), ⟨fun k => k < W4.heap.size ∧ (G' k ∨ W.drew.heap.size ≤ k), ?_, H2.out.keeps (KeepsD.of HKF.out hSD), HKF.out.heap H3.out (fun hs => (H5.out _ (hSG _ hs)).1 rfl), HKF.out.heap H4.out (fun hs => (H5.out _ (hSG _ hs)).2 rfl), fun k hk => ?_⟩⟩
          · refine HKF.out.heap hk0 (fun hs => ?_)
            rcases hs with h | rfl
            · rcases HOW.out.2 with ⟨e', _⟩ | ⟨g, cap, cur, e', _, hg, _⟩
              · rw [e'] at h; simp [Value.ownBlock] at h
              · rw [e'] at h; simp [Value.ownBlock] at h
                subst h
                rw [show W.heap[g]? = _ from hg] at hk0; cases hk0; cases hc
            · omega
          · rw [e1]
            exact H1.out.backed HG4.out (fun k h => h) HKF.out hSG
          · rcases hk.2 with h | h
            · exact H5.out k h
            · have h1 := lt_of_heap H3.out
              have h2 := lt_of_heap H4.out
              have h3 : W.heap.size ≤ k := h
              exact ⟨by omega, by omega⟩
        · rintro D ys W hD hys ⟨G', h1, h2, h3, h4, h5⟩ hd
          have hys' : (ys.map fun y => y.1) = wsteps ops s := hys
          rw [hys', ← backF_snoc, ← HTK.out] at h1
          have HM7 := Lib.hid (HM6.out.cons h2 hD (by omega) hd)
          have HST := Lib.hid (show CLoop ops (goalB g0) L w b5 mb bo Q (i + 1) (mark D :: ds) W from ⟨⟨t', F', G', h1, ht0', ht1'⟩, HM7.out⟩)
          clear h1 h2 h3 h4 h5 hd hys hys'
          gi_wp2
          refine ⟨⟨mark D :: ds, i + 1, HST.out, by omega, ex_fnD rfl⟩, ?_⟩
          show L.length - (intOf (.int .i64 (((i + 1 : Nat) : Int)))).toNat < L.length - (intOf (.int .i64 (i : Int))).toNat
          simp only [intOf]; omega
        · exact fun _ _ _ _ _ _ h _ => h.elim
    · have hie : i = L.length := by omega
      subst hie
      rw [List.take_length] at hst
      have HST := Lib.hid hst; have HMK := Lib.hid HL.out.marks
      have hl0 := (LInv.start HSH.out (goalB g0) 0)
      have hw0 := weightC_bound (d := L.map (start0 (goalB g0))) (fun x hx => by
        obtain ⟨y, _, rfl⟩ := List.mem_map.1 hx
        unfold start0; split <;> decide)
      rw [List.length_map] at hw0
      have hbig : bigC = 1000000000 := rfl
      rw [hbig] at hw0
      have HL0 := Lib.hid hl0
      have hq0 := queue0_len (goalB g0) L
      have HW0 := Lib.hid hw0
      clear hst HL hl0 hw0 hq0
      gi_wp2
      refine wpIn_loop_ghost (fun n a' wr => ∃ (D : Nat → Int) (A : List (Int × Int)) (t : Int) (F G : Nat → Prop), CSt w b5 mb bo Q (backF ops L) L D A t F G wr ∧ LInv ops L (goalB g0) D A 0 [] ∧ 0 ≤ t ∧ t + (weightC (L.map D) : Int) ≤ 2000000002000 ∧ n = 2 * weightC (L.map D) + A.length ∧ Marks ds wr w.heap.size ∧
          ∃ u : Nat → Value, a' = { tmps := #[.pointer (some ⟨b, 0, none⟩), .slice av L.length cv, undef, undef, .map none, .pointer (some ⟨b5, 0, none⟩), .map (some bo), .pointer (some ⟨Q, 0, none⟩), u 8, u 9, u 10, u 11, u 12, u 13, u 14, u 15, u 16, u 17, u 18, u 19, u 20, u 21, u 22, u 23, u 24, u 25, u 26, u 27, u 28, u 29, u 30, u 31, u 32, u 33, u 34, u 35, u 36, u 37, u 38, u 39, u 40, u 41, u 42, u 43, u 44, u 45, u 46, u 47, u 48, u 49, u 50, u 51, u 52, u 53, u 54, u 55, u 56, u 57, u 58, u 59, u 60, u 61, u 62, u 63, u 64, u 65, u 66, u 67, u 68, u 69, u 70, u 71, u 72, u 73, u 74, u 75, u 76, u 77, u 78, u 79, u 80, u 81, u 82, u 83, u 84, u 85, u 86, u 87, u 88, u 89, u 90, u 91, u 92, u 93, u 94, u 95], defers := ds })
        (2 * weightC (L.map (start0 (goalB g0))) + (queue0 (goalB g0) L).length) ?start2 ?round2
      case start2 => exact ⟨_, _, t, F, G, HST.out, HL0.out, ht0, by have := HW0.out; omega, rfl, HMK.out, ex_fnD rfl⟩
      case round2 =>
        rintro n a wr ⟨D, A, t, F, G, hst, hli, ht0, htw, rfl, hmk, u, rfl⟩
        have HS := Lib.hid hst; have HLI := Lib.hid hli; have HMR := Lib.hid hmk
        clear hst hli hmk HST HL0 HMK HW0
        gi_wp2
        refine ⟨trivial, ?_⟩
        refine (callsIn_wide.2 (U.qlen_any wr Q A t F HS.out.q)).mono ?_; rintro e w2 ⟨rfl, rfl⟩
        by_cases hA : A = []
        · subst hA
          gi_wp2
          refine leaves_marks HMR.out (fun W' hk => ?_)
          exact ⟨.map (some bo), by simp [results, Try.results78, go_sem], HS.out.keep.trans' hk (fun i hi => .inr hi.1), bo, D, rfl, HS.out.lo, HS.out.out.keeps hk (fun hs => map_not_deferred HS.out.out hs.2), HLI.out.done⟩
        · cases hfm : U.firstMin A with
          | none => exact absurd (U.firstMin_none.1 hfm) hA
          | some q =>
            obtain ⟨s, hsL, rfl, hsb⟩ := HLI.out.key q (U.firstMin_mem hfm)
            have hpos : 0 < A.length := List.length_pos_iff.2 hA
            have hposi : (0 : Int) < (A.length : Int) := by omega
            have HFM := Lib.hid hfm
            clear hA hfm
            gi_wp2
            refine ⟨trivial, ?_⟩
            refine (callsIn_wide.2 (U.take_some wr Q A t F HS.out.q (s : Int) (D s) HFM.out)).mono ?_; rintro e W2 ⟨rfl, hq2, hk2⟩
            have hs2 : CSt w b5 mb bo Q (backF ops L) L D (dropA A s) t (fun k => F k ∧ k < W2.heap.size ∧ W2.heap[k]? ≠ some (.deferred (some []))) G W2 := HS.out.queued hq2 (fun k h => .inl h) hk2
            have hmk2 := HMR.out.keeps (HS.out.kd hk2)
            have hli2 : LInv ops L (goalB g0) D (dropA A s) s (backF ops L s) := HLI.out.take (fun x hx o ho hc hn => backF_mem hx ho hc hn)
            have hdl := dropA_len (U.firstMin_mem HFM.out)
            have hnb : (backF ops L s).length ≤ 80000 := by have h1 := backF_len hmany L s; omega
            obtain ⟨va, hlk, hown, hvG⟩ := hs2.back.look (P := Try.prog) Try.underlying146 Try.underlying90 (show (zeroValue 149).run Try.prog W2 = .ok (.slice none 0 0) W2 by kernel_rfl) s
            obtain ⟨ab, cb, hav⟩ := ownsRow_formN hown
            subst hav
            have x5c := hs2.x5.cell
            have x5l := hs2.x5.lt
            generalize (fun k => F k ∧ k < W2.heap.size ∧ W2.heap[k]? ≠ some (.deferred (some []))) = F2 at hs2
            have HS2 := Lib.hid hs2; have HM2 := Lib.hid hmk2; have HLI2 := Lib.hid hli2; have HRW := Lib.hid hown
            have HVG := Lib.hid (show ∀ k, (Value.slice ab (backF ops L s).length cb).ownBlock = some k → G k from fun k hk => (hvG k hk).1)
            have hM : 2 * weightC (L.map D) + (dropA A s).length < 2 * weightC (L.map D) + A.length := by omega
            clear hs2 hmk2 hli2 hown hvG hq2 hk2 HS HMR HLI HFM hpos hdl
            generalize hnn : (backF ops L s).length = nb at hnb HRW HVG hlk ⊢
            generalize hMM : 2 * weightC (L.map D) + A.length = M0 at hM ⊢
            generalize hdd : D s = d at hsb ⊢
            have HNN := Lib.hid hnn
            have HMM := Lib.hid hMM
            clear hnn hMM hposi
            gi_wp2
            have hdl2 : D s = d := hdd
            refine wpIn_loop (fun a' wx => ∃ k : Nat, CS3 ops L g0 w b5 mb bo Q G s d M0 (.slice ab nb cb) nb ds k wx ∧ k ≤ nb ∧ Fr3 b av L cv b5 bo Q s d ab nb cb k ds a')
              (fun a' _ => nb - (intOf (a'.tmps.getD 66 undef)).toNat) ?start3 ?round3
            case start3 => exact ⟨0, ⟨D, dropA A s, t, ⟨F2, HS2.out⟩, HLI2.out, hdd, ht0, htw, hM, HM2.out, HRW.out⟩, Nat.zero_le _, ex_fnD rfl⟩
            case round3 =>
              rintro a wx ⟨k, ⟨D', A', t', ⟨F', hst⟩, hli, hds, ht0, htw, hM, hmk, hrow⟩, hk, u, rfl⟩
              clear HS2 HLI2 HM2 HRW x5c x5l hlk
              by_cases hlt : k < nb
              · obtain ⟨⟨x, c⟩, hp⟩ : ∃ p, (backF ops L s)[k]? = some p := ⟨_, List.getElem?_eq_getElem (by rw [HNN.out]; exact hlt)⟩
                obtain ⟨hxL, o, ho, hoc, hon, hcost⟩ := backF_spec (List.mem_of_getElem? hp)
                obtain ⟨gg, cap, hv, hgl, e0, e1⟩ := arow_at (by rw [HNN.out]; exact hrow) hp
                simp only [Value.slice.injEq] at hv
                obtain ⟨rfl, hmid, rfl⟩ := hv
                clear hmid
                simp only at hxL hoc hon hcost e0 e1
                have hc0 := HCO.out o ho
                rw [hcost] at hc0
                have hdrop := drop_getS hp
                rw [hdrop] at hli
                have hdlo : 0 ≤ d := by rw [← hds]; exact (hli.inv.lo (D' s) (List.mem_map.2 ⟨s, hsL, rfl⟩)).1
                have hxlo := hli.inv.lo (D' x) (List.mem_map.2 ⟨x, hxL, rfl⟩)
                have hbig2 : bigC = 1000000000 := rfl
                rw [hbig2] at hxlo hsb
                have hql : A'.length ≤ 2000 := by
                  obtain ⟨_, _, _, _, _, hqr⟩ := hst.q
                  have := hli.few hqr.ndA; omega
                have KA := (Keeps.refl (fun _ => False) wx).alloc (.cells #[.int .u32 (x : Int), .int .i64 c] 151)
                have hsA := hst.keeps0 KA
                have hb15 := heap_alloc_new wx (.cells #[.int .u32 (x : Int), .int .i64 c] 151)
                have hlko := (hsA.out.run_lookup_hit (P := Try.prog) Try.underlying106 Try.underlying90 (outV_nodup HSH.out.1 D') (outV_mem D' hxL)).2
                have hrA := KA.ownsRow hrow (fun _ _ h => h)
                have hmA := hmk.keeps (KeepsD.of0 KA)
                have HSA := Lib.hid hsA; have HLI := Lib.hid hli; have HMA := Lib.hid hmA; have HRA := Lib.hid hrA; have HB15 := Lib.hid hb15
                clear hst hli hmk hrow hp hdrop hsA hmA hrA KA hb15
                by_cases hlow : d + c < D' x
                · obtain ⟨ix, hix⟩ := List.mem_iff_getElem?.1 hxL
                  obtain ⟨W4, hrunU, hI4, hk4⟩ := HSA.out.out.run_update_old (P := Try.prog) Try.underlying106 Try.underlying90 (outV_nodup HSH.out.1 D') (outV_get D' hix) (.int .i64 (d + c))
                  rw [outV_set HSH.out.1 D' hix] at hI4
                  have hbo15 : ¬ wx.heap.size = bo := fun e => by
                    obtain ⟨es, cc, hb, _⟩ := HSA.out.out
                    rw [← e, HB15.out] at hb; cases hb
                  have hb4 := hk4.heap HB15.out hbo15
                  have c150 : W4.cell? ⟨wx.heap.size, 0, none⟩ = some (.int .u32 (x : Int)) := by rw [cell_of_blk hb4]; rfl
                  have c151 : W4.cell? ⟨wx.heap.size, 1, none⟩ = some (.int .i64 c) := by rw [cell_of_blk hb4]; rfl
                  have hb4l := lt_of_heap hb4
                  have HS4 := Lib.hid (HSA.out.outed hI4 hk4)
                  have HM4 := Lib.hid (HMA.out.keeps (KeepsD.of hk4 (fun k hk => by subst hk; exact map_not_deferred HSA.out.out)))
                  have HR4 := Lib.hid (hk4.ownsRow HRA.out (fun k hk e => by subst e; exact (HSA.out.lG _ (HVG.out _ hk)).2.2.2 rfl))
                  clear hI4 hk4 hb4
                  gi_wp2
                  refine ⟨trivial, ?_⟩
                  refine (callsIn_wide.2 (U.set_both W4 Q A' t' F' HS4.out.q (x : Int) (d + c) ⟨ht0, by omega⟩ (by omega))).mono ?_; rintro e W5 ⟨rfl, F5, hq5, hF5, hk5⟩
                  have HS5 := Lib.hid (HS4.out.queued hq5 hF5 hk5)
                  have HM5 := Lib.hid (HM4.out.keeps (HS4.out.kd hk5))
                  have HR5 := Lib.hid (hk5.ownsRow HR4.out (fun k hk hF => (HS4.out.lF k hF).2.2.2.2 (HVG.out k hk)))
                  have hturn := HLI.out.turn HSH.out.1 hsL hxL ho hoc hon hcost hc0.1 (by rw [hds]; exact hsb) (by rw [hds]; exact hlow)
                  rw [hds] at hturn
                  obtain ⟨t1, t2, t3, t4⟩ := hturn
                  have hpl := putA_len A' (x : Int) (d + c)
                  have HT1 := Lib.hid t1
                  clear t1 hq5 hF5 hk5 HS4 HM4 HR4 HSA HLI HMA HRA HB15 hrunU hlko c150 c151
                  gi_wp2
                  refine ⟨⟨k + 1, ⟨upd D' x (d + c), putA A' (x : Int) (d + c), t' + 1, ⟨_, HS5.out⟩, HT1.out, t3, by omega, by omega, by omega, HM5.out, HR5.out⟩, by omega, ex_fnD rfl⟩, ?_⟩
                  show nb - (intOf (.int .i64 (((k + 1 : Nat) : Int)))).toNat < nb - (intOf (.int .i64 (k : Int))).toNat
                  simp only [intOf]; omega
                · have HT1 := Lib.hid (HLI.out.skip (by rw [hds]; omega))
                  gi_wp2
                  refine ⟨⟨k + 1, ⟨D', A', t', ⟨F', HSA.out⟩, HT1.out, hds, ht0, htw, hM, HMA.out, HRA.out⟩, by omega, ex_fnD rfl⟩, ?_⟩
                  show nb - (intOf (.int .i64 (((k + 1 : Nat) : Int)))).toNat < nb - (intOf (.int .i64 (k : Int))).toNat
                  simp only [intOf]; omega
              · have hke : k = nb := by omega
                subst hke
                rw [List.drop_of_length_le (by rw [HNN.out]; exact Nat.le_refl _)] at hli
                have HSX := Lib.hid hst; have HLX := Lib.hid (hli.anyS (s' := 0)); have HMX := Lib.hid hmk
                clear hst hli hmk hrow
                gi_wp2
                exact ⟨_, by rw [HMM.out]; exact hM, D', A', t', F', G, HSX.out, HLX.out, ht0, htw, rfl, HMX.out, ex_fnD rfl⟩

theorem costs_any (w : World) (b st g0 base : Nat) (v vl : Value) (ops : List Wop) (L : List Nat) (hw : WordsAt w base b st g0 v ops) (hops : WopsOk ops) (hmany : ops.length ≤ 40) (hg0 : g0 < 4294967296) (hsh : Shut ops L) (hfew : L.length ≤ 2000)
    (hL32 : ∀ x ∈ L, x < 4294967296) (hcost : ∀ o ∈ ops, 0 ≤ o.cost ∧ o.cost ≤ 1000000) (hvl : Sl w vl L.length (L.map encW)) :
    Calls Try.prog 78 #[.pointer (some ⟨b, 0, none⟩), vl] w (CostsPost ops L (goalB g0) w) := callsIn_wide.1 (costs_in w b st g0 base v vl ops L hw hops hmany hg0 hsh hfew hL32 hcost hvl)

end Go.Proofs.Ytcfcmmajlkkabaa
