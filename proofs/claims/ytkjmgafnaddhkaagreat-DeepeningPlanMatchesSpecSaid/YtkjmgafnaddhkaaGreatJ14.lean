/- relaxplan: the walk of levels. relaxplan: the walk of supporters. relaxplan: the walks of Plan's closures: achieve (which calls itself), and the look at the levels. relaxplan: the walk of Plan. astar.Value at the kind Plan; and what Value says at every kind. The laws' helpers valueOf and values. The laws' helper values: the values of a heuristic at all states. No condition beyond what each theorem says. -/
import Derived.Test.YtkjmgafnaddhkaaGreatJ13
import Derived.Test.YtkjmgafnaddhkaaGreatJ10
import Derived.Test.YtkjmgafnaddhkaaGreatJ11
import Derived.Test.YtkjmgafnaddhkaaGreatJ12

namespace Go.Proofs.YtkjmgafnaddhkaaGreat
open Go.RowKit Go.Shelf

theorem IArr.get {W : World} {g : Nat} {v : List Int} (h : IArr W g v) {j : Nat} (hj : j < v.length) : W.cell? ⟨g, j, none⟩ = some (.int .i64 (getV v (j : Int))) := h.cell (getV_at hj)

set_option maxRecDepth 100000 in
set_option maxHeartbeats 2000000 in
theorem lev1_any (W : World) (b5 b9 g n : Nat) (v : List Int) (k x : Int) (h5 : W.cell? ⟨b5, 0, none⟩ = some (.slice (some ⟨g, 0, none⟩) n n)) (h9 : W.cell? ⟨b9, 0, none⟩ = some (.int .i64 k)) (hv : IArr W g v) (hl : v.length = n) (hx : 0 ≤ x ∧ x < (n : Int)) :
    Calls Tryz.prog 126 #[.int .i64 x, .pointer (some ⟨b5, 0, none⟩), .pointer (some ⟨b9, 0, none⟩)] W fun e W' => e = .returned (.bool (decide (getV v x < 0 ∨ k ≤ getV v x))) ∧ Keeps (fun _ => False) W W' := by
  obtain ⟨j, rfl⟩ := Int.eq_ofNat_of_zero_le hx.1
  have hg := hv.get (j := j) (by omega)
  have hgl := hv.lt
  have hb5 : b5 < W.heap.size := World.block_lt_of_cell? W _ h5
  have hb9 : b9 < W.heap.size := World.block_lt_of_cell? W _ h9
  have hxn := hx.2
  clear hv hx
  generalize getV v (j : Int) = y at hg ⊢
  go_enter Tryz.func126, Tryz.ntmps126
  by_cases h0 : y < 0
  · have hd : decide (y < 0) = true := by simpa using h0
    have HR := Lib.hid (show decide (y < 0 ∨ k ≤ y) = true by simp [h0])
    clear h0
    go_wp2_with fail
    go_quiet (fail)
    go_wp2_with fail
    go_ret
    exact ⟨congrArg (fun b => Ending.returned (Value.bool b)) HR.out.symm, (Keeps.refl _ _).drewN _⟩
  · have hd : decide (y < 0) = false := by simpa using h0
    have HR := Lib.hid (show decide (y < 0 ∨ k ≤ y) = decide (k ≤ y) by simp [h0])
    clear h0
    go_wp2_with fail
    go_quiet (fail)
    go_wp2_with fail
    go_ret
    exact ⟨congrArg (fun b => Ending.returned (Value.bool b)) HR.out.symm, (Keeps.refl _ _).drewN _⟩

section
variable (w3 : World) (g n : Nat)
def ArrAt (v : List Int) (wr : World) : Prop := IArr wr g v ∧ Keeps (fun b => b = g) w3 wr
/-- At a level: its box, and the levels so far. -/
def LevAt (ops : List Opr) (v0 : List Int) (m : Nat) (v9 : Value) (wr : World) : Prop :=
  ∃ k b9 : Nat, k + m = n ∧ v9 = .pointer (some ⟨b9, 0, none⟩) ∧ w3.heap.size ≤ b9 ∧ wr.heap[b9]? = some (.cells #[.int .i64 ((k : Int) + 1)] 3 (0, 0)) ∧ ArrAt w3 g (levTo ops v0 k) wr
end

set_option maxRecDepth 100000 in
set_option maxHeartbeats 8000000 in
theorem levels_any (w : World) (vi vg vo vs : Value) (t : Tsk) (s : List Int) (h : TaskAt w vi vg vo t) (ok : t.Ok) (hs : Ints w vs s) (hsb : ∀ p ∈ s, 0 ≤ p ∧ p < t.n) :
    Calls Tryz.prog 104 #[.agg #[.int .i64 t.n, vi, vg, vo], vs] w fun e w' => ∃ g, e = .returned (.slice (some ⟨g, 0, none⟩) t.n.toNat t.n.toNat) ∧ IArr w' g (levelsV t s) ∧ w.heap.size ≤ g ∧ Keeps (fun _ => False) w w' := by
  obtain ⟨ai, ci, h1, _⟩ := h.init.form
  obtain ⟨ag, cg, h2, _⟩ := h.goal.form
  obtain ⟨ao, co, h3, hmo⟩ := h.ops.form
  obtain ⟨a4, cs, h4, hms⟩ := hs.form
  subst h1 h2 h3 h4
  have hn0 : 0 ≤ t.n ∧ t.n ≤ 24 := ⟨by have := ok.n0; omega, ok.n1⟩
  obtain ⟨n, hn⟩ : ∃ n : Nat, t.n = (n : Int) := ⟨t.n.toNat, by omega⟩
  have HNT := Lib.hid (show t.n.toNat = n by omega)
  have hn24 : n ≤ 24 := by omega
  have HN := Lib.hid hn; clear hn
  have K1 := (Keeps.refl (fun _ => False) w).alloc (.cells #[.int .i64 t.n, .slice ai t.init.length ci, .slice ag t.goal.length cg, .slice ao t.ops.length co] 25)
  have HB := Lib.hid (Four.new w (.int .i64 t.n) (.slice ai t.init.length ci) (.slice ag t.goal.length cg) (.slice ao t.ops.length co) 25)
  have HT := Lib.hid (h.keeps0 K1); have HS := Lib.hid (hs.keeps0 K1); have HK1 := Lib.hid K1; have OK := Lib.hid ok; have HSB := Lib.hid hsb
  have HPRE := Lib.hid (show ∀ o ∈ t.ops, ∀ p ∈ o.pre, 0 ≤ p ∧ p < (n : Int) from fun o ho => by have := (isSet_iff.1 (ok.ops o ho).pre).1; rw [HN.out] at this; exact this)
  have HADD := Lib.hid (show ∀ o ∈ t.ops, ∀ p ∈ o.add, 0 ≤ p ∧ p < (n : Int) from fun o ho => by have := (isSet_iff.1 (ok.ops o ho).add).1; rw [HN.out] at this; exact this)
  have hen := enters_of (P := Tryz.prog) Tryz.func126 (by kernel_rfl) rfl
  have HEN := Lib.hid hen
  clear h ok hs hsb K1 hen
  go_enter Tryz.func104, Tryz.ntmps104
  go_upto_region 1 with fail
  generalize (w.alloc (.cells #[.int .i64 t.n, .slice ai t.init.length ci, .slice ag t.goal.length cg, .slice ao t.ops.length co] 25)) = w1 at HT HB HK1 HS ⊢
  obtain ⟨d0, d1, d2, d3⟩ := HB.out
  have hbx := HB.out.lt
  have hmk := run_make_ints w1 t.n n HN.out (by omega)
  go_upto_region 2 with fail
  have KM := ((Keeps.refl (fun _ => False) w1).alloc (.cells (Array.replicate n (Value.int .i64 0)) 3))
  have KM2 := (Keeps.refl (fun _ => False) (w1.alloc (.cells (Array.replicate n (Value.int .i64 0)) 3))).alloc (.cells #[.slice (some ⟨w1.heap.size, 0, none⟩) n n] 22)
  have HA := Lib.hid ((IArr.zeros w1 n).keeps KM2 (fun h => h))
  have h5 := heap_alloc_new (w1.alloc (.cells (Array.replicate n (Value.int .i64 0)) 3)) (.cells #[.slice (some ⟨w1.heap.size, 0, none⟩) n n] 22)
  rw [World.size_alloc] at h5
  have HKM := Lib.hid (KM.trans KM2)
  obtain ⟨g, hg⟩ : ∃ g, w1.heap.size = g := ⟨_, rfl⟩
  have HG := Lib.hid hg
  rw [hg] at HA h5 HKM ⊢
  have H5 := Lib.hid h5
  have hgw : w.heap.size < g := by omega
  have HGW := Lib.hid hgw
  clear d0 d1 d2 d3 hbx hmk KM KM2 h5 hgw
  generalize (w1.alloc (.cells (Array.replicate n (Value.int .i64 0)) 3)).alloc (.cells #[.slice (some ⟨g, 0, none⟩) n n] 22) = w3 at HA H5 HKM ⊢
  have HKW : ∀ wq : World, Keeps (fun b => b = g) w3 wq → Keeps (fun _ => False) w1 wq := fun wq hk => HKM.out.trans' hk (fun i hi => .inr (by have := HG.out; omega))
  replace HKW := Lib.hid HKW
  have HC5 : ∀ wq : World, Keeps (fun b => b = g) w3 wq → wq.cell? ⟨g + 1, 0, none⟩ = some (.slice (some ⟨g, 0, none⟩) n n) := fun wq hk => (cell_of_blk (hk.heap H5.out (by omega))).trans rfl
  replace HC5 := Lib.hid HC5
  clear hg
  have c5 := HC5.out w3 (Keeps.refl _ _)
  have hl5 := lt_of_heap H5.out
  go_wp2_with fail
  clear c5 hl5
  go_loopw [19] (fun v19 wr => ∃ k : Nat, v19 = .int .i64 (k : Int) ∧ k ≤ n ∧ Keeps (fun b => b = g) w3 wr ∧ ∃ l : List Int, l.length = n ∧ (∀ j, j < k → l[j]? = some (-1)) ∧ IArr wr g l) (fun v19 _ => n - (intOf v19).toNat)
  case atStart => exact ⟨0, rfl, Nat.zero_le _, Keeps.refl _ _, _, List.length_replicate, fun j hj => absurd hj (by omega), HA.out⟩
  case round =>
    obtain ⟨k, rfl, hk, hkr, l, hl, hlj, hla⟩ := hrel
    have hc5 := HC5.out wr hkr
    have hb5 : g + 1 < wr.heap.size := World.block_lt_of_cell? wr _ hc5
    by_cases hlt : k < n
    · have hnk : (k : Int) < (n : Int) := by omega
      obtain ⟨x, hx⟩ : ∃ x, l[k]? = some x := ⟨_, List.getElem?_eq_getElem (by omega)⟩
      have hc := hla.cell hx
      have hf := hla.frozen k
      have hlt' := hla.lt
      have HN1 := Lib.hid (show Keeps (fun b => b = g) w3 (wr.setCell ⟨g, k, none⟩ (.int .i64 (-1))) ∧ ∃ l' : List Int, l'.length = n ∧ (∀ j, j < k + 1 → l'[j]? = some (-1)) ∧ IArr (wr.setCell ⟨g, k, none⟩ (.int .i64 (-1))) g l' from
        ⟨hkr.trans (keeps_set _ _ _ _), l.set k (-1), by rw [List.length_set]; exact hl, fun j hj => by
          rw [List.getElem?_set]
          split
          · rw [if_pos (by omega)]
          · exact hlj j (by omega), hla.set k _⟩)
      clear hkr hl hlj hla hx
      go_wp2_with fail
      go_roundw
      case rel => exact ⟨k + 1, by go_num, by omega, HN1.out⟩
      case measure => simp [intOf]; omega
    · have HV := Lib.hid (show IArr wr g (List.replicate n (-1)) by
        have e : l = List.replicate n (-1) := List.eq_replicate_iff.2 ⟨hl, fun b hb => by
          obtain ⟨j, hj⟩ := List.mem_iff_getElem?.1 hb
          have h1 := hlj j (by have := (List.getElem?_eq_some_iff.1 hj).1; omega)
          rw [h1] at hj; cases hj; rfl⟩
        rw [← e]; exact hla)
      have HKR := Lib.hid hkr
      have HLE := Lib.hid (show lev0 t.n s = zeroV (List.replicate n (-1)) s by unfold lev0; rw [HNT.out])
      clear hkr hl hlj hla hc5 hb5
      go_wp2_with fail
      go_loopw [28] (fun v28 wr => ∃ k : Nat, v28 = .int .i64 (k : Int) ∧ k ≤ s.length ∧ Keeps (fun b => b = g) w3 wr ∧ IArr wr g (zeroV (List.replicate n (-1)) (s.take k))) (fun v28 _ => s.length - (intOf v28).toNat)
      case atStart => exact ⟨0, rfl, Nat.zero_le _, HKR.out, HV.out⟩
      case round =>
        obtain ⟨k2, rfl, hk2, hkq, hza⟩ := hrel
        have HKW1 := Lib.hid (HKW.out wr hkq)
        by_cases hls : k2 < s.length
        · have hc5 := HC5.out wr hkq
          have hb5 : g + 1 < wr.heap.size := World.block_lt_of_cell? wr _ hc5
          obtain ⟨bs, ofs, rfl, hcs⟩ := (HS.out.keeps0 HKW1.out).cell rfl (by omega)
          obtain ⟨p, hp⟩ : ∃ p, s[k2]? = some p := ⟨_, List.getElem?_eq_getElem hls⟩
          have hc1 := hcs k2 p hp
          have hpb := HSB.out p (List.mem_of_getElem? hp)
          obtain ⟨j, rfl⟩ := Int.eq_ofNat_of_zero_le hpb.1
          have hjn : (j : Int) < (n : Int) := by have := HN.out; omega
          have hzl : (zeroV (List.replicate n (-1)) (s.take k2)).length = n := (zeroV_lev (n := n) (m := 0) (s.take k2) (List.replicate n (-1)) ⟨List.length_replicate, fun y hy => by rw [(List.mem_replicate.1 hy).2]; omega⟩).1
          have hg2 := hza.get (j := j) (by rw [hzl]; omega)
          have hf := hza.frozen j
          have hlt' := hza.lt
          have HN2 := Lib.hid (show Keeps (fun b => b = g) w3 (wr.setCell ⟨g, j, none⟩ (.int .i64 0)) ∧ IArr (wr.setCell ⟨g, j, none⟩ (.int .i64 0)) g (zeroV (List.replicate n (-1)) (s.take (k2 + 1))) from
            ⟨hkq.trans (keeps_set _ _ _ _), by rw [take_getS hp, zeroV_snoc, Int.toNat_natCast]; exact hza.set j 0⟩)
          generalize getV (zeroV (List.replicate n (-1)) (s.take k2)) (j : Int) = y at hg2
          clear hkq hza hcs hp hpb hzl
          go_wp2_with fail
          go_roundw
          case rel => exact ⟨k2 + 1, by go_num, by omega, HN2.out⟩
          case measure => simp [intOf]; omega
        · rw [List.take_of_length_le (by omega), ← HLE.out] at hza
          have HZA := Lib.hid hza; have HKQ := Lib.hid hkq
          have HL0 := Lib.hid (show LevI n n (lev0 t.n s) by have h := lev0_ok t.n s n; rw [HNT.out] at h; exact h)
          have HLV := Lib.hid (show levelsV t s = levTo t.ops (lev0 t.n s) n by unfold levelsV; rw [HNT.out])
          generalize lev0 t.n s = v0 at HZA HL0 HLV
          have KA := (Keeps.refl (fun _ => False) wr).alloc (.cells #[.int .i64 1] 3)
          have HLA := Lib.hid (show LevAt w3 g n t.ops v0 n (.pointer (some ⟨wr.heap.size, 0, none⟩)) (wr.alloc (.cells #[.int .i64 1] 3)) from
            ⟨0, wr.heap.size, by omega, rfl, HKQ.out.size, heap_alloc_new wr _, HZA.out.keeps KA (fun h => h), HKQ.out.trans (KA.mono (fun _ _ h => h.elim))⟩)
          have HG3 := Lib.hid (show g < w3.heap.size by have := lt_of_heap H5.out; omega)
          clear hza hkq KA HZA HKQ
          go_wp2_with fail
          go_loopg [9] n (fun m v9 wr' => LevAt w3 g n t.ops v0 m v9 wr')
          case atStart => exact HLA.out
          case round =>
            obtain ⟨k, b9, hkm, rfl, hb9, h9, hva, hkv⟩ := hrel
            have HKV := Lib.hid hkv; have HVA := Lib.hid hva; have H9 := Lib.hid h9; have HKM9 := Lib.hid hkm
            have KW := Lib.hid (HKW.out wr hkv)
            have c9 : wr.cell? ⟨b9, 0, none⟩ = some (.int .i64 ((k : Int) + 1)) := (cell_of_blk h9).trans rfl
            have l9 := lt_of_heap h9
            obtain ⟨d0, d1, d2, d3⟩ := (HB.out.keeps0 KW.out)
            have hbx : w.heap.size < wr.heap.size := World.block_lt_of_cell? wr _ d0
            have HB9 := Lib.hid (show ¬ b9 = g from fun e => by have := HG3.out; omega)
            have HB93 := Lib.hid hb9
            have hnn : t.n = (n : Int) := HN.out
            clear hkv hva h9 hb9
            by_cases hlt : k < n
            · have hd : decide ((k : Int) + 1 ≤ t.n) = true := by simp; omega
              have hk24 : (k : Int) + 1 ≤ 24 := by omega
              clear hnn
              go_wp2_with fail
              clear d0 d1 d2 d3 hbx c9 l9 hd
              have HLI := Lib.hid (show LevI n n (levTo t.ops v0 k) from levTo_ok t.ops HL0.out k (by omega))
              have HNK := Lib.hid (show levTo t.ops v0 (k + 1) = levR ((k : Int) + 1) t.ops (levTo t.ops v0 k) by rw [levTo]; rfl)
              generalize levTo t.ops v0 k = vk at HVA HLI HNK
              generalize hw7 : wr = w7 at HKV HVA H9 KW ⊢
              clear hw7
              go_loopw [45] (fun v45 wr' => ∃ j : Nat, v45 = .int .i64 (j : Int) ∧ j ≤ t.ops.length ∧ ArrAt w7 g (levR ((k : Int) + 1) (t.ops.take j) vk) wr') (fun v45 _ => t.ops.length - (intOf v45).toNat)
              case atStart => exact ⟨0, rfl, Nat.zero_le _, HVA.out, Keeps.refl _ _⟩
              case round =>
                obtain ⟨j, rfl, hj, hva, hkv⟩ := hrel
                have HVJ := Lib.hid hva; have HKJ := Lib.hid hkv
                clear hva hkv
                by_cases hjl : j < t.ops.length
                · have KW2 := Lib.hid (HKW.out wr (HKV.out.trans HKJ.out))
                  obtain ⟨bo, oo, rfl, hcell⟩ := HT.out.ops.cell rfl (by omega)
                  obtain ⟨o, ho⟩ : ∃ o, t.ops[j]? = some o := ⟨_, List.getElem?_eq_getElem hjl⟩
                  obtain ⟨va, vb, vd, p0', p1', p2', p3', i1, i2, i3⟩ := hcell j o ho
                  have p0 := KW2.out.cell p0' (fun h => h); have p1 := KW2.out.cell p1' (fun h => h); have p2 := KW2.out.cell p2' (fun h => h); have p3 := KW2.out.cell p3' (fun h => h)
                  clear p0' p1' p2' p3'
                  obtain ⟨a1, k1, f1, _⟩ := i1.form
                  obtain ⟨a2, k3, f2, _⟩ := i2.form
                  obtain ⟨a3, k4, f3, _⟩ := i3.form
                  subst f1 f2 f3
                  have I1 := Lib.hid i1; have I2 := Lib.hid i2
                  have HPO := Lib.hid (HPRE.out o (List.mem_of_getElem? ho)); have HAO := Lib.hid (HADD.out o (List.mem_of_getElem? ho))
                  have HNX := Lib.hid (show levR ((k : Int) + 1) (t.ops.take (j + 1)) vk = levOp ((k : Int) + 1) o (levR ((k : Int) + 1) (t.ops.take j) vk) by rw [take_getS ho, levR_snoc])
                  have HLJ := Lib.hid (show LevI n n (levR ((k : Int) + 1) (t.ops.take j) vk) from levR_ok (by omega) _ _ HLI.out)
                  have K4 := (Keeps.refl (fun _ => False) wr).alloc (.cells #[.slice a1 o.pre.length k1, .slice a2 o.add.length k3, .slice a3 o.del.length k4, .int .i64 o.cost] 109)
                  have HO4 := Lib.hid (Four.new wr (.slice a1 o.pre.length k1) (.slice a2 o.add.length k3) (.slice a3 o.del.length k4) (.int .i64 o.cost) 109)
                  have HVJ4 := Lib.hid (HVJ.out.keeps K4 (fun h => h)); have HKJ4 := Lib.hid (HKJ.out.trans (K4.mono (fun _ _ h => h.elim))); have KW4 := Lib.hid (KW2.out.trans K4)
                  clear hcell ho i1 i2 i3 K4 HVJ HKJ KW2
                  go_upto_region 18 with fail
                  generalize hw4 : (wr.alloc (.cells #[.slice a1 o.pre.length k1, .slice a2 o.add.length k3, .slice a3 o.del.length k4, .int .i64 o.cost] 109)) = w4 at HVJ4 HKJ4 HO4 KW4 ⊢
                  clear p0 p1 p2 p3 hw4
                  obtain ⟨b4, hb4⟩ : ∃ b4, wr.heap.size = b4 := ⟨_, rfl⟩
                  rw [hb4] at HO4 ⊢
                  clear hb4
                  generalize levR ((k : Int) + 1) (t.ops.take j) vk = vj at HVJ4 HNX HLJ ⊢
                  have HC54 := Lib.hid (HC5.out w4 (HKV.out.trans HKJ4.out))
                  have H94 := Lib.hid (HKJ4.out.heap H9.out HB9.out)
                  obtain ⟨q0, q1, q2, q3⟩ := HO4.out
                  have hq4 := HO4.out.lt
                  go_wp2_with fail
                  refine (containsF2_any 126 (g + 1) b9 (fun p => decide (getV vj p < 0 ∨ ((k : Int) + 1) ≤ getV vj p)) HEN.out w4 _ o.pre (I1.out.keeps0 KW4.out) (fun W x hk hx => lev1_any W (g + 1) b9 g n vj ((k : Int) + 1) x (hk.cell HC54.out (fun h => h)) (hk.cell ((cell_of_blk H94.out).trans rfl) (fun h => h)) (HVJ4.out.keeps hk (fun h => h)) HLJ.out.1 (HPO.out x hx))).mono ?_
                  rintro e w5 ⟨rfl, hk5⟩
                  have HVJ5 := Lib.hid (HVJ4.out.keeps hk5 (fun h => h)); have HKJ5 := Lib.hid (HKJ4.out.trans (hk5.mono (fun _ _ h => h.elim))); have HO5 := Lib.hid (HO4.out.keeps0 hk5)
                  have HBAD := Lib.hid (show (o.pre.any fun p => decide (getV vj p < 0 ∨ ((k : Int) + 1) ≤ getV vj p)) = levBad ((k : Int) + 1) vj o.pre from rfl)
                  rw [HBAD.out]
                  clear hk5 HVJ4 HKJ4 HO4 q0 q1 q2 q3 hq4 HC54 H94
                  cases hb : levBad ((k : Int) + 1) vj o.pre with
                  | true =>
                    have HNE := Lib.hid (show levR ((k : Int) + 1) (t.ops.take (j + 1)) vk = vj by rw [HNX.out]; unfold levOp; rw [if_pos hb])
                    clear hb
                    go_wp2_with fail
                    go_roundw
                    case rel => exact ⟨j + 1, by go_num, by omega, by rw [HNE.out]; exact HVJ5.out, HKJ5.out⟩
                    case measure => simp [intOf]; omega
                  | false =>
                    have HNE := Lib.hid (show levR ((k : Int) + 1) (t.ops.take (j + 1)) vk = levAdd ((k : Int) + 1) vj o.add by rw [HNX.out]; unfold levOp; rw [hb]; rfl)
                    obtain ⟨q0, q1, q2, q3⟩ := HO5.out
                    have hq5 := HO5.out.lt
                    clear hb
                    go_wp2_with fail
                    clear q0 q1 q2 q3 hq5
                    go_loopw [56] (fun v56 wr' => ∃ i : Nat, v56 = .int .i64 (i : Int) ∧ i ≤ o.add.length ∧ ArrAt w7 g (levAdd ((k : Int) + 1) vj (o.add.take i)) wr') (fun v56 _ => o.add.length - (intOf v56).toNat)
                    case atStart => exact ⟨0, rfl, Nat.zero_le _, HVJ5.out, HKJ5.out⟩
                    case round =>
                      obtain ⟨i, rfl, hi, hva, hkv⟩ := hrel
                      by_cases hil : i < o.add.length
                      · have KW6 := Lib.hid (HKW.out wr (HKV.out.trans hkv))
                        have hc5 := HC5.out wr (HKV.out.trans hkv)
                        have hl5 : g + 1 < wr.heap.size := World.block_lt_of_cell? wr _ hc5
                        have h9r := hkv.heap H9.out HB9.out
                        have c9 : wr.cell? ⟨b9, 0, none⟩ = some (.int .i64 ((k : Int) + 1)) := (cell_of_blk h9r).trans rfl
                        have l9 := lt_of_heap h9r
                        obtain ⟨b2, o2, rfl, hca⟩ := (I2.out.keeps0 KW6.out).cell rfl (by omega)
                        obtain ⟨p, hp⟩ : ∃ p, o.add[i]? = some p := ⟨_, List.getElem?_eq_getElem hil⟩
                        have hpb := HAO.out p (List.mem_of_getElem? hp)
                        obtain ⟨p, rfl⟩ := Int.eq_ofNat_of_zero_le hpb.1
                        have hc2 := hca i _ hp
                        have hpi : (p : Int) < (n : Int) := by omega
                        have HTK := Lib.hid (show levAdd ((k : Int) + 1) vj (o.add.take (i + 1)) = if getV (levAdd ((k : Int) + 1) vj (o.add.take i)) (p : Int) < 0 then (levAdd ((k : Int) + 1) vj (o.add.take i)).set p ((k : Int) + 1) else levAdd ((k : Int) + 1) vj (o.add.take i) by rw [take_getS hp, levAdd_snoc, Int.toNat_natCast])
                        have hlen : (levAdd ((k : Int) + 1) vj (o.add.take i)).length = n := (levAdd_ok (by omega) (o.add.take i) vj HLJ.out).1
                        generalize levAdd ((k : Int) + 1) vj (o.add.take i) = vi at hva HTK hlen
                        have hg2 := hva.get (j := p) (by omega)
                        have hgf := hva.frozen p
                        have hgl := hva.lt
                        have HVI := Lib.hid hva; have HKI := Lib.hid hkv
                        clear hca hp hpb hlen hva hkv h9r
                        by_cases hneg : getV vi (p : Int) < 0
                        · have hd : decide (getV vi (p : Int) < 0) = true := by simpa using hneg
                          have HN := Lib.hid (show levAdd ((k : Int) + 1) vj (o.add.take (i + 1)) = vi.set p ((k : Int) + 1) by rw [HTK.out, if_pos hneg])
                          clear hneg
                          generalize getV vi (p : Int) = y at hg2 hd
                          go_wp2_with fail
                          go_roundw
                          case rel => exact ⟨i + 1, by go_num, by omega, by rw [HN.out]; exact HVI.out.set p _, HKI.out.trans (keeps_set _ _ _ _)⟩
                          case measure => simp [intOf]; omega
                        · have hd : decide (getV vi (p : Int) < 0) = false := by simpa using hneg
                          have HN := Lib.hid (show levAdd ((k : Int) + 1) vj (o.add.take (i + 1)) = vi by rw [HTK.out, if_neg hneg])
                          clear hneg
                          generalize getV vi (p : Int) = y at hg2 hd
                          go_wp2_with fail
                          go_roundw
                          case rel => exact ⟨i + 1, by go_num, by omega, by rw [HN.out]; exact HVI.out, HKI.out⟩
                          case measure => simp [intOf]; omega
                      · rw [List.take_of_length_le (by omega), ← HNE.out] at hva
                        have HVI := Lib.hid hva; have HKI := Lib.hid hkv
                        clear hva hkv
                        go_wp2_with fail
                        go_roundw
                        case rel => exact ⟨j + 1, by go_num, by omega, HVI.out, HKI.out⟩
                        case measure => simp [intOf]; omega
                · rw [List.take_of_length_le (by omega), ← HNK.out] at HVJ
                  have h9r := HKJ.out.heap H9.out HB9.out
                  have c9 : wr.cell? ⟨b9, 0, none⟩ = some (.int .i64 ((k : Int) + 1)) := (cell_of_blk h9r).trans rfl
                  have l9 := lt_of_heap h9r
                  obtain ⟨m, hm⟩ : ∃ m, n = k + 1 + m := ⟨n - (k + 1), by omega⟩
                  have KA := (Keeps.refl (fun _ => False) wr).alloc (.cells #[.int .i64 ((k : Int) + 1 + 1)] 3)
                  have HNEW := Lib.hid (show LevAt w3 g n t.ops v0 m (.pointer (some ⟨wr.heap.size, 0, none⟩)) (wr.alloc (.cells #[.int .i64 ((k : Int) + 1 + 1)] 3)) from
                    ⟨k + 1, wr.heap.size, by omega, rfl, by have := HKV.out.size; have := HKJ.out.size; omega, by have h := heap_alloc_new wr (.cells #[.int .i64 ((k : Int) + 1 + 1)] 3); rw [show (((k + 1 : Nat) : Int) + 1) = (k : Int) + 1 + 1 by omega]; exact h, HVJ.out.keeps KA (fun h => h), (HKV.out.trans HKJ.out).trans (KA.mono (fun _ _ h => h.elim))⟩)
                  clear h9r KA
                  go_wp2_with fail
                  go_roundg m
                  case rel => exact HNEW.out
                  case measure => have := HKM9.out; omega
            · have hkn : k = n := by omega
              have hd : decide ((k : Int) + 1 ≤ t.n) = false := by simp; omega
              have HVV := Lib.hid (show IArr wr g (levelsV t s) by rw [HLV.out, ← hkn]; exact HVA.out)
              have hc5 := HC5.out wr HKV.out
              have hl5 : g + 1 < wr.heap.size := World.block_lt_of_cell? wr _ hc5
              have hd2 : ¬ ((k : Int) + 1 ≤ t.n) := by omega
              have hd3 : decide ((k : Int) < t.n) = false := by simp; omega
              clear hnn
              go_wp2_with fail
              go_ret
              exact ⟨g, by rw [HNT.out]; rfl, HVV.out, by have := HGW.out; omega, HK1.out.trans KW.out⟩

end Go.Proofs.YtkjmgafnaddhkaaGreat

namespace Go.Proofs.YtkjmgafnaddhkaaGreat
open Go.RowKit Go.Shelf

theorem supPre_ok {t : Tsk} (ok : t.Ok) (s : List Int) {ps : List Int} (hp : isSetB ps t.n = true) (k : Nat) : -24 ≤ (supPre t.n (levelsV t s) (ps.take k)).1 ∧ (supPre t.n (levelsV t s) (ps.take k)).1 ≤ 576 ∧ -1 ≤ (supPre t.n (levelsV t s) (ps.take k)).2 ∧ (supPre t.n (levelsV t s) (ps.take k)).2 ≤ t.n := by
  have n0 := ok.n0; have n1 := ok.n1
  have hl : ((ps.take k).length : Int) ≤ 24 := by
    have h1 : (ps.take k).length ≤ ps.length := by rw [List.length_take]; omega
    rcases setFrom_length hp with h | h
    · rw [h] at h1; simp at h1; rw [h]; simp
    · omega
  have h := supPre_low (levelsV_ok t s) n0 (by omega) (ps.take k) (fun p hpp => (isSet_iff.1 hp).1 p (List.mem_of_mem_take hpp)) (0, -1) (by simp only; omega)
  have hm : t.n * ((ps.take k).length : Int) ≤ 24 * 24 := Int.mul_le_mul n1 hl (by omega) (by decide)
  unfold supPre
  have h1 := h.1; have h2 := h.2.1
  simp only at h1 h2
  exact ⟨by omega, by omega, h.2.2⟩

section
variable (w3 : World) (g1 g2 : Nat)
/-- The supporters and their sums in memory. -/
def SupAt (st : List Int × List Int) (wr : World) : Prop := IArr wr g1 st.1 ∧ IArr wr g2 st.2 ∧ Keeps (fun b => b = g1 ∨ b = g2) w3 wr
end

set_option maxRecDepth 100000 in
set_option maxHeartbeats 8000000 in
theorem supporters_any (w : World) (vi vg vo vs : Value) (t : Tsk) (s : List Int) (h : TaskAt w vi vg vo t) (ok : t.Ok) (hs : Ints w vs s) (hsb : ∀ p ∈ s, 0 ≤ p ∧ p < t.n) :
    Calls Tryz.prog 105 #[.agg #[.int .i64 t.n, vi, vg, vo], vs] w fun e w' => ∃ g, e = .returned (.slice (some ⟨g, 0, none⟩) t.n.toNat t.n.toNat) ∧ IArr w' g (supV t s) ∧ w.heap.size ≤ g ∧ Keeps (fun _ => False) w w' := by
  obtain ⟨ai, ci, h1, _⟩ := h.init.form
  obtain ⟨ag, cg, h2, _⟩ := h.goal.form
  obtain ⟨ao, co, h3, hmo⟩ := h.ops.form
  subst h1 h2 h3
  have hn0 : 0 ≤ t.n ∧ t.n ≤ 24 := ⟨by have := ok.n0; omega, ok.n1⟩
  obtain ⟨n, hn⟩ : ∃ n : Nat, t.n = (n : Int) := ⟨t.n.toNat, by omega⟩
  have HNT := Lib.hid (show t.n.toNat = n by omega)
  have hn24 : n ≤ 24 := by omega
  have HN := Lib.hid hn; clear hn
  have K1 := (Keeps.refl (fun _ => False) w).alloc (.cells #[.int .i64 t.n, .slice ai t.init.length ci, .slice ag t.goal.length cg, .slice ao t.ops.length co] 25)
  have HB := Lib.hid (Four.new w (.int .i64 t.n) (.slice ai t.init.length ci) (.slice ag t.goal.length cg) (.slice ao t.ops.length co) 25)
  have HT := Lib.hid (h.keeps0 K1); have HS := Lib.hid (hs.keeps0 K1); have HK1 := Lib.hid K1; have OK := Lib.hid ok; have HSB := Lib.hid hsb
  have HPRE := Lib.hid (show ∀ o ∈ t.ops, ∀ p ∈ o.pre, 0 ≤ p ∧ p < (n : Int) from fun o ho => by have := (isSet_iff.1 (ok.ops o ho).pre).1; rw [HN.out] at this; exact this)
  have HADD := Lib.hid (show ∀ o ∈ t.ops, ∀ p ∈ o.add, 0 ≤ p ∧ p < (n : Int) from fun o ho => by have := (isSet_iff.1 (ok.ops o ho).add).1; rw [HN.out] at this; exact this)
  have hop40 : t.ops.length ≤ 40 := ok.few
  clear h ok hs hsb K1
  go_enter Tryz.func105, Tryz.ntmps105
  go_upto_region 1 with fail
  generalize (w.alloc (.cells #[.int .i64 t.n, .slice ai t.init.length ci, .slice ag t.goal.length cg, .slice ao t.ops.length co] 25)) = w1 at HT HB HK1 HS ⊢
  obtain ⟨d0, d1, d2, d3⟩ := HB.out
  have hbx := HB.out.lt
  go_wp2_with fail
  refine (levels_any _ _ _ _ _ t s HT.out OK.out HS.out HSB.out).mono ?_; rintro e w2 ⟨g0, rfl, hia, hgl, hk2⟩
  rw [HNT.out]
  have HLV := Lib.hid hia; have HK2 := Lib.hid (HK1.out.trans hk2)
  have HB2 := Lib.hid (HB.out.keeps0 hk2); have HT2 := Lib.hid (HT.out.keeps0 hk2)
  clear d0 d1 d2 d3 hbx hia hgl hk2
  obtain ⟨d0, d1, d2, d3⟩ := HB2.out
  have hbx := HB2.out.lt
  have hmk := run_make_ints w2 t.n n HN.out (by omega)
  go_upto_region 3 with fail
  have KM := (Keeps.refl (fun _ => False) w2).alloc (.cells (Array.replicate n (Value.int .i64 0)) 3)
  have HA1 := Lib.hid (IArr.zeros w2 n)
  have hg0 : g0 < w2.heap.size := HLV.out.lt
  have HKM := Lib.hid KM
  obtain ⟨g1, hg1⟩ : ∃ g, w2.heap.size = g := ⟨_, rfl⟩
  have HG1 := Lib.hid hg1
  rw [hg1] at HA1 hg0 ⊢
  generalize (w2.alloc (.cells (Array.replicate n (Value.int .i64 0)) 3)) = w3 at HA1 HKM ⊢
  clear d0 d1 d2 d3 hbx hmk KM hg1
  obtain ⟨d0, d1, d2, d3⟩ := (HB2.out.keeps0 HKM.out)
  have hbx := (HB2.out.keeps0 HKM.out).lt
  have hmk := run_make_ints w3 t.n n HN.out (by omega)
  go_upto_region 4 with fail
  have KM := (Keeps.refl (fun _ => False) w3).alloc (.cells (Array.replicate n (Value.int .i64 0)) 3)
  have HA2 := Lib.hid (IArr.zeros w3 n)
  have HA1' := Lib.hid (HA1.out.keeps KM (fun h => h))
  have hg1 : g1 < w3.heap.size := HA1.out.lt
  have HKM2 := Lib.hid (HKM.out.trans KM)
  obtain ⟨g2, hg2⟩ : ∃ g, w3.heap.size = g := ⟨_, rfl⟩
  rw [hg2] at HA2 hg1 ⊢
  generalize (w3.alloc (.cells (Array.replicate n (Value.int .i64 0)) 3)) = w4 at HA1' HA2 HKM2 ⊢
  have HGN := Lib.hid (show g1 ≠ g2 ∧ g0 ≠ g1 ∧ g0 ≠ g2 ∧ w2.heap.size ≤ g1 ∧ w2.heap.size ≤ g2 by have := HG1.out; omega)
  clear d0 d1 d2 d3 hbx hmk KM hg2 hg1 hg0 HA1 HKM
  have HKW : ∀ wq : World, Keeps (fun b => b = g1 ∨ b = g2) w4 wq → Keeps (fun _ => False) w2 wq := fun wq hk => HKM2.out.trans' hk (fun i hi => .inr (by have := HGN.out; rcases hi with e | e <;> omega))
  replace HKW := Lib.hid HKW
  go_wp2_with fail
  go_loopw [28] (fun v28 wr => ∃ k : Nat, v28 = .int .i64 (k : Int) ∧ k ≤ n ∧ Keeps (fun b => b = g1 ∨ b = g2) w4 wr ∧ IArr wr g2 (List.replicate n 0) ∧ ∃ l : List Int, l.length = n ∧ (∀ j, j < k → l[j]? = some (-1)) ∧ IArr wr g1 l) (fun v28 _ => n - (intOf v28).toNat)
  case atStart => exact ⟨0, rfl, Nat.zero_le _, Keeps.refl _ _, HA2.out, _, List.length_replicate, fun j hj => absurd hj (by omega), HA1'.out⟩
  case round =>
    obtain ⟨k, rfl, hk, hkr, hz2, l, hl, hlj, hla⟩ := hrel
    by_cases hlt : k < n
    · have hnk : (k : Int) < (n : Int) := by omega
      obtain ⟨x, hx⟩ : ∃ x, l[k]? = some x := ⟨_, List.getElem?_eq_getElem (by omega)⟩
      have hc := hla.cell hx
      have hf := hla.frozen k
      have hlt' := hla.lt
      have HN1 := Lib.hid (show Keeps (fun b => b = g1 ∨ b = g2) w4 (wr.setCell ⟨g1, k, none⟩ (.int .i64 (-1))) ∧ IArr (wr.setCell ⟨g1, k, none⟩ (.int .i64 (-1))) g2 (List.replicate n 0) ∧ ∃ l' : List Int, l'.length = n ∧ (∀ j, j < k + 1 → l'[j]? = some (-1)) ∧ IArr (wr.setCell ⟨g1, k, none⟩ (.int .i64 (-1))) g1 l' from
        ⟨hkr.trans ((keeps_set _ _ _ _).mono (fun _ _ h => .inl h)), hz2.keeps (keeps_set _ _ _ _) (fun e => HGN.out.1 e.symm), l.set k (-1), by rw [List.length_set]; exact hl, fun j hj => by
          rw [List.getElem?_set]
          split
          · rw [if_pos (by omega)]
          · exact hlj j (by omega), hla.set k _⟩)
      clear hkr hl hlj hla hx hz2
      go_wp2_with fail
      go_roundw
      case rel => exact ⟨k + 1, by go_num, by omega, HN1.out⟩
      case measure => simp [intOf]; omega
    · have HV := Lib.hid (show SupAt w4 g1 g2 (supTo t.n (levelsV t s) t.ops 0) wr from by
        have e : l = List.replicate n (-1) := List.eq_replicate_iff.2 ⟨hl, fun b hb => by
          obtain ⟨j, hj⟩ := List.mem_iff_getElem?.1 hb
          have h1 := hlj j (by have := (List.getElem?_eq_some_iff.1 hj).1; omega)
          rw [h1] at hj; cases hj; rfl⟩
        rw [e] at hla
        refine ⟨?_, ?_, hkr⟩
        · rw [supTo, HNT.out]; exact hla
        · rw [supTo, HNT.out]; exact hz2)
      have KW0 := Lib.hid (HKW.out wr hkr)
      clear hkr hl hlj hla hz2
      obtain ⟨d0, d1, d2, d3⟩ := (HB2.out.keeps0 KW0.out)
      have hbx := (HB2.out.keeps0 KW0.out).lt
      go_wp2_with fail
      clear d0 d1 d2 d3 hbx
      go_loopw [38] (fun v38 wr => ∃ k : Nat, v38 = .int .i64 (k : Int) ∧ k ≤ t.ops.length ∧ SupAt w4 g1 g2 (supTo t.n (levelsV t s) t.ops k) wr) (fun v38 _ => t.ops.length - (intOf v38).toNat)
      case atStart => exact ⟨0, rfl, Nat.zero_le _, HV.out⟩
      case round =>
        obtain ⟨k, rfl, hk, hs1, hs2, hks⟩ := hrel
        have KW := Lib.hid (HKW.out wr hks)
        by_cases hkl : k < t.ops.length
        · have HS1 := Lib.hid hs1; have HS2 := Lib.hid hs2; have HKS := Lib.hid hks
          clear hs1 hs2 hks
          obtain ⟨bo, oo, rfl, hcell⟩ := HT2.out.ops.cell rfl (by omega)
          obtain ⟨o, ho⟩ : ∃ o, t.ops[k]? = some o := ⟨_, List.getElem?_eq_getElem hkl⟩
          obtain ⟨va, vb, vd, p0', p1', p2', p3', i1, i2, i3⟩ := hcell k o ho
          have p0 := KW.out.cell p0' (fun h => h); have p1 := KW.out.cell p1' (fun h => h); have p2 := KW.out.cell p2' (fun h => h); have p3 := KW.out.cell p3' (fun h => h)
          clear p0' p1' p2' p3'
          obtain ⟨a1, k1, f1, _⟩ := i1.form
          obtain ⟨a2, k3, f2, _⟩ := i2.form
          obtain ⟨a3, k4, f3, _⟩ := i3.form
          subst f1 f2 f3
          have I1 := Lib.hid i1; have I2 := Lib.hid i2
          have HPO := Lib.hid (HPRE.out o (List.mem_of_getElem? ho)); have HAO := Lib.hid (HADD.out o (List.mem_of_getElem? ho))
          have HOS := Lib.hid (OK.out.ops o (List.mem_of_getElem? ho)).pre
          have HNX := Lib.hid (show supTo t.n (levelsV t s) t.ops (k + 1) = supAdd (k : Int) (supPre t.n (levelsV t s) o.pre).1 (supPre t.n (levelsV t s) o.pre).2 (levelsV t s) (supTo t.n (levelsV t s) t.ops k) o.add by rw [supTo, ho])
          have HSI := Lib.hid (supTo_ok OK.out s k (by omega))
          have HLI := Lib.hid (levelsV_ok t s)
          have K4 := (Keeps.refl (fun _ => False) wr).alloc (.cells #[.slice a1 o.pre.length k1, .slice a2 o.add.length k3, .slice a3 o.del.length k4, .int .i64 o.cost] 109)
          have HO4 := Lib.hid (Four.new wr (.slice a1 o.pre.length k1) (.slice a2 o.add.length k3) (.slice a3 o.del.length k4) (.int .i64 o.cost) 109)
          have HS14 := Lib.hid (HS1.out.keeps K4 (fun h => h)); have HS24 := Lib.hid (HS2.out.keeps K4 (fun h => h)); have HKS4 := Lib.hid (HKS.out.trans (K4.mono (fun _ _ h => h.elim))); have KW4 := Lib.hid (KW.out.trans K4)
          clear hcell ho i1 i2 i3 K4 HS1 HS2 HKS KW
          go_upto_region 13 with fail
          generalize hw5 : (wr.alloc (.cells #[.slice a1 o.pre.length k1, .slice a2 o.add.length k3, .slice a3 o.del.length k4, .int .i64 o.cost] 109)) = w5 at HS14 HS24 HKS4 HO4 KW4 ⊢
          clear p0 p1 p2 p3 hw5
          obtain ⟨b4, hb4⟩ : ∃ b4, wr.heap.size = b4 := ⟨_, rfl⟩
          try rw [hb4] at HO4
          try rw [hb4]
          clear hb4
          generalize supTo t.n (levelsV t s) t.ops k = st at HS14 HS24 HNX HSI
          have HL5 := Lib.hid (HLV.out.keeps KW4.out (fun h => h))
          obtain ⟨q0, q1, q2, q3⟩ := HO4.out
          have hq4 := HO4.out.lt
          obtain ⟨d0, d1, d2, d3⟩ := (HB2.out.keeps0 KW4.out)
          have hbx := (HB2.out.keeps0 KW4.out).lt
          go_wp2_with fail
          go_loop [11, 12, 46] (fun v11 v12 v46 => ∃ j : Nat, j ≤ o.pre.length ∧ v46 = .int .i64 (j : Int) ∧ v11 = .int .i64 (supPre t.n (levelsV t s) (o.pre.take j)).1 ∧ v12 = .int .i64 (supPre t.n (levelsV t s) (o.pre.take j)).2) (fun _ _ v46 => o.pre.length - (intOf v46).toNat)
          case atStart => exact ⟨0, Nat.zero_le _, rfl, rfl, rfl⟩
          case round =>
            obtain ⟨j, hj, rfl, rfl, rfl⟩ := hrel
            have hsp := supPre_ok OK.out s HOS.out j
            by_cases hjl : j < o.pre.length
            · obtain ⟨b1, o1, rfl, hca⟩ := (I1.out.keeps0 KW4.out).cell rfl (by omega)
              obtain ⟨p, hp⟩ : ∃ p, o.pre[j]? = some p := ⟨_, List.getElem?_eq_getElem hjl⟩
              have hpb := HPO.out p (List.mem_of_getElem? hp)
              obtain ⟨p, rfl⟩ := Int.eq_ofNat_of_zero_le hpb.1
              have hc2 := hca j _ hp
              have hpi : (p : Int) < (n : Int) := by omega
              have hg1 := HL5.out.get (j := p) (by have := HLI.out.1; rw [this, HNT.out]; omega)
              have hgl := HL5.out.lt
              have hyb := HLI.out.get (p := (p : Int)) (by rw [HNT.out]; omega)
              have HTK := Lib.hid (show supPre t.n (levelsV t s) (o.pre.take (j + 1)) = ((supPre t.n (levelsV t s) (o.pre.take j)).1 + getV (levelsV t s) (p : Int), if getV (levelsV t s) (p : Int) < 0 then t.n else max (supPre t.n (levelsV t s) (o.pre.take j)).2 (getV (levelsV t s) (p : Int))) by rw [take_getS hp, supPre_snoc])
              clear hca hp hpb
              rw [HNT.out] at hyb
              generalize supPre t.n (levelsV t s) (o.pre.take j) = a at hsp HTK ⊢
              generalize getV (levelsV t s) (p : Int) = y at hg1 hyb HTK
              by_cases hneg : y < 0
              · have hd : decide (y < 0) = true := by simpa using hneg
                have HN2 := Lib.hid (show supPre t.n (levelsV t s) (o.pre.take (j + 1)) = (a.1 + y, t.n) by rw [HTK.out, if_pos hneg])
                clear hneg HTK
                go_wp2_with fail
                go_round
                case rel => exact ⟨j + 1, by omega, by go_num, by rw [HN2.out], by rw [HN2.out]⟩
                case measure => simp [intOf]; omega
              · have hd : decide (y < 0) = false := by simpa using hneg
                have HN2 := Lib.hid (show supPre t.n (levelsV t s) (o.pre.take (j + 1)) = (a.1 + y, max a.2 y) by rw [HTK.out, if_neg hneg])
                clear hneg HTK
                go_wp2_with fail
                all_goals
                  go_round
                  case rel => exact ⟨j + 1, by omega, by go_num, by rw [HN2.out], by rw [HN2.out]⟩
                  case measure => simp [intOf]; omega
            · rw [List.take_of_length_le (by omega)] at hsp ⊢
              have hsp2 := hsp
              obtain ⟨sm, tp, hst⟩ : ∃ sm tp, supPre t.n (levelsV t s) o.pre = (sm, tp) := ⟨_, _, rfl⟩
              rw [hst] at HNX hsp ⊢
              simp only at HNX hsp ⊢
              clear hst hsp2
              go_wp2_with fail
              clear q0 q1 q2 q3 hq4 d0 d1 d2 d3 hbx
              go_loopw [73] (fun v73 wr' => ∃ i : Nat, v73 = .int .i64 (i : Int) ∧ i ≤ o.add.length ∧ SupAt w4 g1 g2 (supAdd (k : Int) sm tp (levelsV t s) st (o.add.take i)) wr') (fun v73 _ => o.add.length - (intOf v73).toNat)
              case atStart => exact ⟨0, rfl, Nat.zero_le _, HS14.out, HS24.out, HKS4.out⟩
              case round =>
                obtain ⟨i, rfl, hi, hs1, hs2, hks⟩ := hrel
                by_cases hil : i < o.add.length
                · have KW6 := Lib.hid (HKW.out wr hks)
                  obtain ⟨b2, o2, rfl, hca⟩ := (I2.out.keeps0 KW6.out).cell rfl (by omega)
                  obtain ⟨p, hp⟩ : ∃ p, o.add[i]? = some p := ⟨_, List.getElem?_eq_getElem hil⟩
                  have hpb := HAO.out p (List.mem_of_getElem? hp)
                  obtain ⟨p, rfl⟩ := Int.eq_ofNat_of_zero_le hpb.1
                  have hc2 := hca i _ hp
                  have hpi : (p : Int) < (n : Int) := by omega
                  have HTK := Lib.hid (show supAdd (k : Int) sm tp (levelsV t s) st (o.add.take (i + 1)) = if tp < getV (levelsV t s) (p : Int) ∧ 0 < getV (levelsV t s) (p : Int) ∧ (getV (supAdd (k : Int) sm tp (levelsV t s) st (o.add.take i)).1 (p : Int) < 0 ∨ sm < getV (supAdd (k : Int) sm tp (levelsV t s) st (o.add.take i)).2 (p : Int)) then ((supAdd (k : Int) sm tp (levelsV t s) st (o.add.take i)).1.set p (k : Int), (supAdd (k : Int) sm tp (levelsV t s) st (o.add.take i)).2.set p sm) else supAdd (k : Int) sm tp (levelsV t s) st (o.add.take i) by rw [take_getS hp, supAdd_snoc, Int.toNat_natCast])
                  have hsi := supAdd_ok (n := t.n.toNat) (m := k + 1) (c := 1000) (i := (k : Int)) (sum := sm) (top := tp) (by omega) (by omega) (levelsV t s) (o.add.take i) st ⟨HSI.out.1, HSI.out.2.1, fun y hy => by have := HSI.out.2.2.1 y hy; omega, HSI.out.2.2.2⟩
                  have hl1 := hsi.1; have hl2 := hsi.2.1
                  rw [HNT.out] at hl1 hl2
                  generalize supAdd (k : Int) sm tp (levelsV t s) st (o.add.take i) = st2 at hs1 hs2 HTK hl1 hl2
                  have hg0 := (HLV.out.keeps KW6.out (fun h => h)).get (j := p) (by have := HLI.out.1; rw [this, HNT.out]; omega)
                  have hgl0 := (HLV.out.keeps KW6.out (fun h => h)).lt
                  have hg1' := hs1.get (j := p) (by omega)
                  have hf1 := hs1.frozen p
                  have hgl1 := hs1.lt
                  have hg2' := hs2.get (j := p) (by omega)
                  have hf2 := hs2.frozen p
                  have hgl2 := hs2.lt
                  have HS1 := Lib.hid hs1; have HS2 := Lib.hid hs2; have HKS := Lib.hid hks
                  have hs2b := (hs2.keeps (keeps_set wr g1 p (.int .i64 (k : Int))) (fun e => HGN.out.1 e.symm))
                  have hg2b := hs2b.get (j := p) (by omega)
                  have hf2b := hs2b.frozen p
                  have HPUT := Lib.hid (show SupAt w4 g1 g2 (st2.1.set p (k : Int), st2.2.set p sm) ((wr.setCell ⟨g1, p, none⟩ (.int .i64 (k : Int))).setCell ⟨g2, p, none⟩ (.int .i64 sm)) from
                    ⟨(hs1.set p (k : Int)).keeps (keeps_set _ g2 p _) (fun e => HGN.out.1 e), hs2b.set p sm, (hks.trans ((keeps_set wr g1 p _).mono (fun _ _ h => .inl h))).trans ((keeps_set _ g2 p _).mono (fun _ _ h => .inr h))⟩)
                  clear hca hp hpb hs1 hs2 hks hsi hs2b
                  generalize getV (levelsV t s) (p : Int) = y at hg0 HTK
                  generalize getV st2.1 (p : Int) = ov at hg1' HTK
                  generalize getV st2.2 (p : Int) = lv at hg2' hg2b HTK
                  by_cases c1 : tp < y
                  · have b1 : decide (tp < y) = true := by simpa using c1
                    by_cases c2 : 0 < y
                    · have b2' : decide (0 < y) = true := by simpa using c2
                      by_cases c3 : ov < 0
                      · have b3 : decide (ov < 0) = true := by simpa using c3
                        have HN2 := Lib.hid (show supAdd (k : Int) sm tp (levelsV t s) st (o.add.take (i + 1)) = (st2.1.set p (k : Int), st2.2.set p sm) by rw [HTK.out, if_pos (by omega)])
                        clear HTK
                        go_wp2_with fail
                        go_roundw
                        case rel => exact ⟨i + 1, by go_num, by omega, by rw [HN2.out]; exact HPUT.out⟩
                        case measure => simp [intOf]; omega
                      · have b3 : decide (ov < 0) = false := by simpa using c3
                        by_cases c4 : sm < lv
                        · have b4' : decide (sm < lv) = true := by simpa using c4
                          have HN2 := Lib.hid (show supAdd (k : Int) sm tp (levelsV t s) st (o.add.take (i + 1)) = (st2.1.set p (k : Int), st2.2.set p sm) by rw [HTK.out, if_pos (by omega)])
                          clear HTK
                          go_wp2_with fail
                          go_roundw
                          case rel => exact ⟨i + 1, by go_num, by omega, by rw [HN2.out]; exact HPUT.out⟩
                          case measure => simp [intOf]; omega
                        · have b4' : decide (sm < lv) = false := by simpa using c4
                          have HN2 := Lib.hid (show supAdd (k : Int) sm tp (levelsV t s) st (o.add.take (i + 1)) = st2 by rw [HTK.out, if_neg (by omega)])
                          clear HTK
                          go_wp2_with fail
                          go_roundw
                          case rel => exact ⟨i + 1, by go_num, by omega, by rw [HN2.out]; exact ⟨HS1.out, HS2.out, HKS.out⟩⟩
                          case measure => simp [intOf]; omega
                    · have b2' : decide (0 < y) = false := by simpa using c2
                      have HN2 := Lib.hid (show supAdd (k : Int) sm tp (levelsV t s) st (o.add.take (i + 1)) = st2 by rw [HTK.out, if_neg (by omega)])
                      clear HTK
                      go_wp2_with fail
                      go_roundw
                      case rel => exact ⟨i + 1, by go_num, by omega, by rw [HN2.out]; exact ⟨HS1.out, HS2.out, HKS.out⟩⟩
                      case measure => simp [intOf]; omega
                  · have b1 : decide (tp < y) = false := by simpa using c1
                    have HN2 := Lib.hid (show supAdd (k : Int) sm tp (levelsV t s) st (o.add.take (i + 1)) = st2 by rw [HTK.out, if_neg (by omega)])
                    clear HTK
                    go_wp2_with fail
                    go_roundw
                    case rel => exact ⟨i + 1, by go_num, by omega, by rw [HN2.out]; exact ⟨HS1.out, HS2.out, HKS.out⟩⟩
                    case measure => simp [intOf]; omega
                · rw [List.take_of_length_le (by omega), ← HNX.out] at hs1 hs2
                  have HS1 := Lib.hid hs1; have HS2 := Lib.hid hs2; have HKS := Lib.hid hks
                  clear hs1 hs2 hks
                  go_wp2_with fail
                  go_roundw
                  case rel => exact ⟨k + 1, by go_num, by omega, HS1.out, HS2.out, HKS.out⟩
                  case measure => simp [intOf]; omega
        · have hkn : k = t.ops.length := by omega
          have HS1 := Lib.hid (show IArr wr g1 (supV t s) by unfold supV; rw [← hkn]; exact hs1)
          clear hs1 hs2 hks
          go_wp2_with fail
          go_ret
          exact ⟨g1, by rw [HNT.out]; rfl, HS1.out, by have := HGN.out; have := HK2.out.size; omega, HK2.out.trans KW.out⟩

end Go.Proofs.YtkjmgafnaddhkaaGreat

namespace Go.Proofs.YtkjmgafnaddhkaaGreat
open Go.RowKit Go.Shelf

set_option maxRecDepth 100000 in
set_option maxHeartbeats 2000000 in
theorem below_any (W : World) (b8 g n : Nat) (v : List Int) (x : Int) (h8 : W.cell? ⟨b8, 0, none⟩ = some (.slice (some ⟨g, 0, none⟩) n n)) (hv : IArr W g v) (hl : v.length = n) (hx : 0 ≤ x ∧ x < (n : Int)) :
    Calls Tryz.prog 107 #[.int .i64 x, .pointer (some ⟨b8, 0, none⟩)] W fun e W' => e = .returned (.bool (decide (getV v x < 0))) ∧ Keeps (fun _ => False) W W' := by
  obtain ⟨j, rfl⟩ := Int.eq_ofNat_of_zero_le hx.1
  have hg := hv.get (j := j) (by omega)
  have hgl := hv.lt
  have hb8 : b8 < W.heap.size := World.block_lt_of_cell? W _ h8
  have hxn := hx.2
  clear hv hx
  generalize getV v (j : Int) = y at hg ⊢
  go_enter Tryz.func107, Tryz.ntmps107
  go_wp2_with fail
  go_ret
  exact ⟨rfl, Keeps.refl _ _⟩

/-- What achieve is given: the boxes of its variables, and the supporters. -/
structure AchW (wb w0 : World) (b2 b9 b10 b11 b12 gs gd n m : Nat) (vi vg vo : Value) (t : Tsk) (sup : List Int) : Prop where
  task : TaskAt wb vi vg vo t
  low : ∀ W, Keeps (fun b => b = gd ∨ b = b10) w0 W → Keeps (fun _ => False) wb W
  x2 : Four w0 b2 (.int .i64 t.n) vi vg vo
  x9 : w0.heap[b9]? = some (.cells #[.slice (some ⟨gs, 0, none⟩) n n] 22 (0, 0))
  x11 : w0.heap[b11]? = some (.cells #[.slice (some ⟨gd, 0, none⟩) m m] 60 (0, 0))
  x12 : w0.heap[b12]? = some (.cells #[.func (.func 108) #[] #[.pointer (some ⟨b9, 0, none⟩), .pointer (some ⟨b11, 0, none⟩), .pointer (some ⟨b2, 0, none⟩), .pointer (some ⟨b12, 0, none⟩), .pointer (some ⟨b10, 0, none⟩)]] 162 (0, 0))
  sup : IArr w0 gs sup
  l10 : b10 < w0.heap.size
  ld : gd < w0.heap.size
  n2 : b2 ≠ gd ∧ b2 ≠ b10
  n9 : b9 ≠ gd ∧ b9 ≠ b10
  n11 : b11 ≠ gd ∧ b11 ≠ b10
  n12 : b12 ≠ gd ∧ b12 ≠ b10
  ns : gs ≠ gd ∧ gs ≠ b10
  nd : gd ≠ b10
/-- The steps so far, and the done ones, in memory. -/
def AchAt (w0 : World) (gd b10 : Nat) (st : List Bool × List Int) (W : World) : Prop :=
  BArr W gd st.1 ∧ (∃ vp, W.heap[b10]? = some (.cells #[vp] 22 (0, 0)) ∧ W.ownsRow w0.heap.size 3 1 vp st.2.length (st.2.map (Value.int .i64))) ∧ Keeps (fun b => b = gd ∨ b = b10) w0 W

theorem opPre_at {ops : List Opr} {i : Nat} {o : Opr} (h : ops[i]? = some o) : opPre ops (i : Int) = o.pre := by
  unfold opPre; rw [Int.toNat_natCast, h]; rfl

set_option maxRecDepth 100000 in
set_option maxHeartbeats 8000000 in
theorem achieve_any {wb w0 : World} {b2 b9 b10 b11 b12 gs gd n m : Nat} {vi vg vo : Value} {t : Tsk} {sup : List Int} (hw : AchW wb w0 b2 b9 b10 b11 b12 gs gd n m vi vg vo t sup) (ok : t.Ok) (hn : AchNeed sup t.ops) (hl : sup.length = n) (hm : t.ops.length = m) :
    ∀ (k : Nat) (p : Int) (st : List Bool × List Int) (W : World), 0 ≤ p → p < (n : Int) → st.1.length = m → (∀ i ∈ st.2, 0 ≤ i ∧ i < (m : Int)) → offs st.1 + st.2.length ≤ m → offs st.1 < k → AchAt w0 gd b10 st W →
    Calls Tryz.prog 108 #[.int .i64 p, .pointer (some ⟨b9, 0, none⟩), .pointer (some ⟨b11, 0, none⟩), .pointer (some ⟨b2, 0, none⟩), .pointer (some ⟨b12, 0, none⟩), .pointer (some ⟨b10, 0, none⟩)] W fun e w' =>
      e = .returned (.tuple #[]) ∧ AchAt w0 gd b10 (ach sup t.ops k p st) w' := by
  obtain ⟨ai, ci, h1, _⟩ := hw.task.init.form
  obtain ⟨ag, cg, h2, _⟩ := hw.task.goal.form
  obtain ⟨ao, co, h3, hmo⟩ := hw.task.ops.form
  subst h1 h2 h3
  obtain ⟨i0, hi0, hz0, hz1, hz2⟩ := info_parts Tryz.info3
  have HW := Lib.hid hw; have OK := Lib.hid ok; have HN := Lib.hid hn
  have hm40 : m ≤ 40 := by have := ok.few; omega
  clear hw ok hn
  intro k
  induction k with
  | zero => intro p st W _ _ _ _ _ h; exact absurd h (by omega)
  | succ k ih =>
    intro p st W hp0 hpn hsl hso hmore hk hat
    have IH := Lib.hid ih; clear ih
    obtain ⟨hbd, ⟨vp, hbp, hrow⟩, hkw⟩ := hat
    obtain ⟨j, rfl⟩ := Int.eq_ofNat_of_zero_le hp0
    have hsa : IArr W gs sup := HW.out.sup.keeps hkw (fun e => by have := HW.out.ns; rcases e with e | e <;> omega)
    have hg := hsa.get (j := j) (by omega)
    have hgl := hsa.lt
    have hin := HN.out.inn (j : Int) hp0 (by omega)
    have c9 := Boxed.cell (hkw.heap HW.out.x9 (fun e => by have := HW.out.n9; rcases e with e | e <;> omega))
    have l9 := lt_of_heap (hkw.heap HW.out.x9 (fun e => by have := HW.out.n9; rcases e with e | e <;> omega))
    have HBD := Lib.hid hbd; have HBP := Lib.hid hbp; have HROW := Lib.hid hrow; have HKW := Lib.hid hkw; have HSO := Lib.hid hso
    clear hbd hbp hrow hkw hso hsa
    obtain ⟨y, hy⟩ : ∃ y, getV sup (j : Int) = y := ⟨_, rfl⟩
    have HY := Lib.hid hy
    rw [hy] at hg hin
    clear hy
    go_enter Tryz.func108, Tryz.ntmps108
    by_cases hneg : y < 0
    · have hd : decide (y < 0) = true := by simpa using hneg
      have HR := Lib.hid (show ach sup t.ops (k + 1) (j : Int) st = st from ach_skip (by rw [HY.out]; exact .inl hneg))
      clear hneg
      go_wp2_with fail
      refine bodyPost_ret (results_none rfl _ _ _) rfl ?_
      exact ⟨rfl, by rw [HR.out]; exact ⟨HBD.out, ⟨_, HBP.out, HROW.out⟩, HKW.out⟩⟩
    · have hd : decide (y < 0) = false := by simpa using hneg
      obtain ⟨i, rfl⟩ := Int.eq_ofNat_of_zero_le (show 0 ≤ y by omega)
      have hil : i < m := by omega
      have c11 := Boxed.cell (HKW.out.heap HW.out.x11 (fun e => by have := HW.out.n11; rcases e with e | e <;> omega))
      have l11 := lt_of_heap (HKW.out.heap HW.out.x11 (fun e => by have := HW.out.n11; rcases e with e | e <;> omega))
      have hgb := HBD.out.get (j := i) (by omega)
      have hbl := HBD.out.lt
      have him : (i : Int) < (m : Int) := by omega
      cases hb : getB st.1 (i : Int) with
      | true =>
        rw [hb] at hgb
        have HR := Lib.hid (show ach sup t.ops (k + 1) (j : Int) st = st from ach_skip (by rw [HY.out]; exact .inr hb))
        clear hneg hb
        go_wp2_with fail
        refine bodyPost_ret (results_none rfl _ _ _) rfl ?_
        exact ⟨rfl, by rw [HR.out]; exact ⟨HBD.out, ⟨_, HBP.out, HROW.out⟩, HKW.out⟩⟩
      | false =>
        rw [hb] at hgb
        obtain ⟨o, ho⟩ : ∃ o, t.ops[i]? = some o := ⟨_, List.getElem?_eq_getElem (by omega)⟩
        have HR := Lib.hid (show ach sup t.ops (k + 1) (j : Int) st = ((achs sup t.ops k (st.1.set i true, st.2) o.pre).1, (achs sup t.ops k (st.1.set i true, st.2) o.pre).2 ++ [(i : Int)]) by
          have h := ach_go (sup := sup) (ops := t.ops) (k := k) (p := (j : Int)) (st := st) (by rw [HY.out, hb]; simp)
          rw [HY.out, opPre_at ho, Int.toNat_natCast] at h; exact h)
        have hoff := offs_set st.1 i (getB_false (q := (i : Int)) (by rw [Int.toNat_natCast]; omega) hb)
        have HA0 := Lib.hid (show ∀ jj, AchI m (st.1.set i true, st.2) (achs sup t.ops k (st.1.set i true, st.2) (o.pre.take jj)) from fun jj => by
          have h := achs_ok HN.out k (o.pre.take jj) (st.1.set i true, st.2) (fun q hq => HN.out.pre o (List.mem_of_getElem? ho) q (List.mem_of_mem_take hq)) (by simp only; rw [List.length_set]; omega) (by rw [hm]; exact HSO.out)
          rw [hm] at h; exact h)
        have hfz := HBD.out.frozen i
        have hs1 : AchAt w0 gd b10 (st.1.set i true, st.2) (W.setCell ⟨gd, i, none⟩ (.bool true)) := ⟨HBD.out.set i true, ⟨vp, (keeps_set W gd i (.bool true)).heap HBP.out (fun e => by have := HW.out.nd; omega), (keeps_set W gd i (.bool true)).ownsRow HROW.out (fun k hk e => by have h1 := (World.ownsRow.lt HROW.out k hk).1; have h2 := HW.out.ld; have h3 : k = gd := e; omega)⟩, HKW.out.trans ((keeps_set W gd i (.bool true)).mono (fun _ _ h => .inl h))⟩
        have HS1 := Lib.hid hs1
        have HPRE := Lib.hid (show ∀ q ∈ o.pre, 0 ≤ q ∧ q < (n : Int) from fun q hq => by have := HN.out.pre o (List.mem_of_getElem? ho) q hq; omega)
        have HOM := Lib.hid ho
        clear hneg hb hs1 ho
        go_upto_region 3 with fail
        generalize W.setCell ⟨gd, i, none⟩ (.bool true) = w1 at HS1 ⊢
        clear c9 l9 c11 l11 hg hgl hgb hbl hfz
        have KW1 := Lib.hid (HW.out.low w1 HS1.out.2.2)
        obtain ⟨d0, d1, d2, d3⟩ := HW.out.x2.keepsB HS1.out.2.2 (fun e => by have := HW.out.n2; rcases e with e | e <;> omega)
        have hbx := (HW.out.x2.keepsB HS1.out.2.2 (fun e => by have := HW.out.n2; rcases e with e | e <;> omega)).lt
        obtain ⟨bo, oo, rfl, hcell⟩ := HW.out.task.ops.cell rfl (by omega)
        obtain ⟨va, vb, vd, p0', p1', p2', p3', i1, i2, i3⟩ := hcell i o HOM.out
        have p0 := KW1.out.cell p0' (fun h => h)
        obtain ⟨a1, k1, f1, _⟩ := i1.form
        subst f1
        have I1 := Lib.hid i1
        have HST := Lib.hid hoff
        have himo : (i : Int) < ((t.ops.length : Nat) : Int) := by omega
        clear p0' p1' p2' p3' hcell i1 i2 i3 hoff
        go_wp2_with fail
        clear p0 d0 d1 d2 d3 hbx
        go_loopw [32] (fun v32 wr => ∃ jj : Nat, v32 = .int .i64 (jj : Int) ∧ jj ≤ o.pre.length ∧ AchAt w0 gd b10 (achs sup t.ops k (st.1.set i true, st.2) (o.pre.take jj)) wr) (fun v32 _ => o.pre.length - (intOf v32).toNat)
        case atStart => exact ⟨0, rfl, Nat.zero_le _, HS1.out⟩
        case round =>
          obtain ⟨jj, rfl, hjj, hat⟩ := hrel
          have HAT := Lib.hid hat; clear hat
          by_cases hjl : jj < o.pre.length
          · have KW2 := Lib.hid (HW.out.low wr HAT.out.2.2)
            obtain ⟨b1, o1, rfl, hca⟩ := (I1.out.keeps0 KW2.out).cell rfl (by omega)
            obtain ⟨q, hq⟩ : ∃ q, o.pre[jj]? = some q := ⟨_, List.getElem?_eq_getElem hjl⟩
            have hqb := HPRE.out q (List.mem_of_getElem? hq)
            have hc2 := hca jj _ hq
            have HTK := Lib.hid (show achs sup t.ops k (st.1.set i true, st.2) (o.pre.take (jj + 1)) = ach sup t.ops k q (achs sup t.ops k (st.1.set i true, st.2) (o.pre.take jj)) by rw [take_getS hq, achs_snoc])
            have hA := HA0.out jj
            have c12 := Boxed.cell (HAT.out.2.2.heap HW.out.x12 (fun e => by have := HW.out.n12; rcases e with e | e <;> omega))
            have l12 := lt_of_heap (HAT.out.2.2.heap HW.out.x12 (fun e => by have := HW.out.n12; rcases e with e | e <;> omega))
            have HCALL := Lib.hid (IH.out q (achs sup t.ops k (st.1.set i true, st.2) (o.pre.take jj)) wr hqb.1 hqb.2 hA.len hA.ops (by have h1 := hA.more; have h2 := HST.out; simp only at h1; omega) (by have h1 := hA.fewer; have h2 := HST.out; simp only at h1; omega) HAT.out)
            clear hca hq hA
            go_wp2_with fail
            refine HCALL.out.mono ?_; rintro e w2 ⟨rfl, hat2⟩
            have HAT2 := Lib.hid hat2; clear hat2 c12 l12 hc2
            go_wp2_with fail
            go_roundw
            case rel => exact ⟨jj + 1, by go_num, by omega, by rw [HTK.out]; exact HAT2.out⟩
            case measure => simp [intOf]; omega
          · have hA := HA0.out jj
            rw [List.take_of_length_le (by omega)] at HAT hA
            have HAI := Lib.hid hA; clear hA
            generalize achs sup t.ops k (st.1.set i true, st.2) o.pre = st2 at HAT HAI HR
            obtain ⟨hbd, ⟨vq, hbq, hrow⟩, hkr⟩ := HAT.out
            obtain ⟨ao3, cap3, hv3⟩ := ownsRow_form1 hrow
            subst hv3
            have hl2 : st2.2.length ≤ 40 := by have h1 := HAI.out.more; have h2 := HST.out; simp only at h1; omega
            have c10 := Boxed.cell hbq
            have z10 := Boxed.frozen hbq
            have l10 := lt_of_heap hbq
            have HBD2 := Lib.hid hbd; have HBQ := Lib.hid hbq; have HRO := Lib.hid hrow; have HKR := Lib.hid hkr
            have hs3 := hkr.size
            clear hbd hbq hrow hkr
            go_wp2_with (at_builtin; go_loud (refine wpList_append_lies _ rfl _ _ _ rfl w0.heap.size 3 i0 _ 1 8 Tryz.underlying22 hi0 hz0 hz1 hz2 rfl (by omega) _ st2.2.length _ (by rfl) (HRO.out.alloc _) ⟨wr.heap.size, 0, none⟩ 1 1 [.int .i64 (i : Int)] (by rfl) (by rfl) ?hnews ?hone (by omega) (by unfold maxLen; omega) (by omega) (by simp; omega) (wr.heap.size + 1) (by simp) ?_))
            case hnews => exact World.news_of_block (cs := #[.int .i64 (i : Int)]) (t := 3) (fr := (0, 0)) (heap_alloc_new _ _)
            case hone => simp [Value.oneCell']
            intro g2 cap2 w6 hown2 hgrow hat hlt3
            have k6 := ((Keeps.refl (fun b => (Value.slice ao3 st2.2.length cap3).ownBlock = some b) wr).alloc (.cells #[.int .i64 (i : Int)] 3)).grown hgrow (fun k hk => .inl hk)
            have hl10 := HW.out.l10
            have kk := HKR.out.trans' k6 (fun i hi => .inr (HRO.out.lt i hi).1)
            have hb6 := k6.heap HBQ.out (fun e => by have := (HRO.out.lt b10 e).1; omega)
            have c6 := Boxed.cell hb6
            have z6 := Boxed.frozen hb6
            have l6 := lt_of_heap hb6
            have HFIN := Lib.hid (show AchAt w0 gd b10 (st2.1, st2.2 ++ [(i : Int)]) (w6.setCell ⟨b10, 0, none⟩ (.slice (some ⟨g2, 0, none⟩) (st2.2.length + 1) cap2)) from
              ⟨(HBD2.out.keeps k6 (fun e => by have h1 := (HRO.out.lt gd e).1; have h2 := HW.out.ld; omega)).keeps (keeps_set _ _ _ _) (fun e => HW.out.nd e),
               ⟨_, Boxed.set _ hb6, (keeps_set w6 b10 0 _).ownsRow (by
                rw [show (st2.1, st2.2 ++ [(i : Int)]).2.length = st2.2.length + 1 by simp, show (st2.1, st2.2 ++ [(i : Int)]).2.map (Value.int .i64) = st2.2.map (Value.int .i64) ++ [.int .i64 (i : Int)] by simp]
                exact hown2) (fun k hk e => by have h1 := (World.ownsRow.lt hown2 k hk).1; have h3 : k = b10 := e; omega)⟩,
               kk.trans ((keeps_set _ _ _ _).mono (fun _ _ h => .inr h))⟩)
            clear hown2 hgrow hat k6 kk hb6 c10 z10 l10
            go_wp2_with fail
            refine bodyPost_end (results_none rfl _ _ _) rfl ?_
            exact ⟨rfl, by rw [HR.out]; exact HFIN.out⟩

end Go.Proofs.YtkjmgafnaddhkaaGreat

namespace Go.Proofs.YtkjmgafnaddhkaaGreat
open Go.RowKit Go.Shelf

theorem store_func {P : Program} {w : World} (a : Addr) (m : Mode) (fn : Fn) (first captured : Array Value) : (store a (.func fn first captured) m).run P w = stored P w a (.func fn first captured) m := run_store P w a _ m rfl
attribute [local go_sem] store_func

theorem achs_take {sup : List Int} {ops : List Opr} (k : Nat) (st : List Bool × List Int) {ps : List Int} {j : Nat} {p : Int} (h : ps[j]? = some p) : achs sup ops k st (ps.take (j + 1)) = ach sup ops k p (achs sup ops k st (ps.take j)) := by
  rw [take_getS h, achs_snoc]

theorem keep_set {w : World} {B k i : Nat} {x v : Value} (h : w.cell? ⟨k, i, none⟩ = some v) (hne : k ≠ B) : (w.setCell ⟨B, 0, none⟩ x).cell? ⟨k, i, none⟩ = some v := (keeps_set w B 0 x).cell h hne
theorem keep_alloc {w : World} {o : Obj} {k i : Nat} {v : Value} (h : w.cell? ⟨k, i, none⟩ = some v) : (w.alloc o).cell? ⟨k, i, none⟩ = some v := ((Keeps.refl (fun _ => False) w).alloc o).cell h (fun h => h)
theorem box_set {w : World} {B k : Nat} {T : TypeId} {x v : Value} (h : Boxed w k T v) (hne : k ≠ B) : Boxed (w.setCell ⟨B, 0, none⟩ x) k T v := (keeps_set w B 0 x).heap h hne
theorem box_alloc {w : World} {o : Obj} {k : Nat} {T : TypeId} {v : Value} (h : Boxed w k T v) : Boxed (w.alloc o) k T v := ((Keeps.refl (fun _ => False) w).alloc o).heap h (fun h => h)
theorem box_new {w : World} {k : Nat} {T : TypeId} {v : Value} (h : w.heap.size = k) : Boxed (w.alloc (.cells #[v] T)) k T v := by subst h; exact heap_alloc_new w _
theorem iarr_set {w : World} {B g : Nat} {l : List Int} {x : Value} (h : IArr w g l) (hne : g ≠ B) : IArr (w.setCell ⟨B, 0, none⟩ x) g l := h.keeps (keeps_set w B 0 x) hne
theorem iarr_alloc {w : World} {o : Obj} {g : Nat} {l : List Int} (h : IArr w g l) : IArr (w.alloc o) g l := h.keeps ((Keeps.refl (fun _ => False) w).alloc o) (fun h => h)
theorem keeps_set_new {w0 w : World} {B : Nat} {x : Value} (h : Keeps (fun _ => False) w0 w) (hB : w0.heap.size ≤ B) : Keeps (fun _ => False) w0 (w.setCell ⟨B, 0, none⟩ x) := h.trans' (keeps_set w B 0 x) (fun i hi => .inr (by have : i = B := hi; omega))
theorem one_new {w wa : World} {o : Obj} (h : Keeps (fun _ => False) (w.alloc o) wa) : wa.heap[w.heap.size]? = some o ∧ w.heap.size < wa.heap.size := by
  have h1 := h.heap (heap_alloc_new w o) (fun h => h)
  exact ⟨h1, lt_of_heap h1⟩
theorem two_new {w wa : World} {o o2 : Obj} (h : Keeps (fun _ => False) ((w.alloc o).alloc o2) wa) : wa.heap[w.heap.size]? = some o ∧ wa.heap[w.heap.size + 1]? = some o2 ∧ w.heap.size + 1 < wa.heap.size := by
  have h1 := h.heap (((Keeps.refl (fun _ => False) _).alloc _).heap (heap_alloc_new w o) (fun h => h)) (fun h => h)
  have h2 := heap_alloc_new (w.alloc o) o2
  rw [World.size_alloc] at h2
  have h3 := h.heap h2 (fun h => h)
  exact ⟨h1, h3, lt_of_heap h3⟩
theorem one_newD {w wa : World} {o : Obj} {g : Nat} (h : Keeps (fun _ => False) (w.alloc o).drew wa) (hg : (w.alloc o).drew.heap.size ≤ g) : wa.heap[w.heap.size]? = some o ∧ w.heap.size < wa.heap.size ∧ w.heap.size + 1 ≤ g := by
  have h2 : (w.alloc o).heap.size ≤ g := hg
  rw [World.size_alloc] at h2
  have h1 := one_new (w := w.drew) (o := o) h
  exact ⟨h1.1, h1.2, h2⟩
theorem two_newD {w wa : World} {o o2 : Obj} {g : Nat} (h : Keeps (fun _ => False) ((w.alloc o).alloc o2).drew wa) (hg : ((w.alloc o).alloc o2).drew.heap.size ≤ g) : wa.heap[w.heap.size]? = some o ∧ wa.heap[w.heap.size + 1]? = some o2 ∧ w.heap.size + 1 < wa.heap.size ∧ w.heap.size + 2 ≤ g := by
  have h2 : ((w.alloc o).alloc o2).heap.size ≤ g := hg
  rw [World.size_alloc, World.size_alloc] at h2
  have h1 := two_new (w := w.drew) (o := o) (o2 := o2) h
  exact ⟨h1.1, h1.2.1, h1.2.2, h2⟩
theorem nil_box {w : World} {b : Nat} {v : Value} {T : TypeId} (h : w.heap[b]? = some (.cells #[v] T)) : w.cell? ⟨b, 0, none⟩ = some v ∧ w.frozen? ⟨b, 0, none⟩ = false ∧ b < w.heap.size := ⟨Boxed.cell h, Boxed.frozen h, lt_of_heap h⟩

set_option maxRecDepth 100000 in
set_option maxHeartbeats 8000000 in
theorem rplan_any (w : World) (vi vg vo vs : Value) (t : Tsk) (x : Nat) (h : TaskAt w vi vg vo t) (ok : t.Ok) (hg : Good t.n x) (hs : Ints w vs (facts x)) :
    Calls Tryz.prog 82 #[.agg #[.int .i64 t.n, vi, vg, vo], vs] w fun e w' => ∃ vx, e = .returned (.tuple #[vx, .bool (relOk t (facts x)), fltV 0 0]) ∧ (relOk t (facts x) = true → Ints w' vx (relP t (facts x))) ∧ Keeps (fun _ => False) w w' := by
  obtain ⟨ai, ci, h1, _⟩ := h.init.form
  obtain ⟨ag, cg, h2, _⟩ := h.goal.form
  obtain ⟨ao, co, h3, hmo⟩ := h.ops.form
  subst h1 h2 h3
  obtain ⟨aa, cs, h4, _⟩ := hs.form
  subst h4
  have HE := Lib.hid (show stateFault t (facts x) = (0, 0) by unfold stateFault; rw [if_pos (taskFault_zero.2 ok), if_pos hg.1])
  have HSB := Lib.hid (isSet_iff.1 hg.1).1
  have HGB := Lib.hid (isSet_iff.1 ok.goal).1
  have HN0 := Lib.hid ok.n0
  have K1 := (Keeps.refl (fun _ => False) w).alloc (.cells #[.int .i64 t.n, .slice ai t.init.length ci, .slice ag t.goal.length cg, .slice ao t.ops.length co] 25)
  have KA2 := K1.alloc (.cells #[.int .i64 0, .int .i64 0] 31)
  have HT := Lib.hid (h.keeps0 KA2)
  have HB := Lib.hid ((Four.new w (.int .i64 t.n) (.slice ai t.init.length ci) (.slice ag t.goal.length cg) (.slice ao t.ops.length co) 25).keeps0 ((Keeps.refl _ _).alloc (.cells #[.int .i64 0, .int .i64 0] 31)))
  have HF : Flt w ((w.alloc (.cells #[.int .i64 t.n, .slice ai t.init.length ci, .slice ag t.goal.length cg, .slice ao t.ops.length co] 25)).alloc (.cells #[.int .i64 0, .int .i64 0] 31)) (w.heap.size + 1) 31 :=
    ⟨by have := heap_alloc_new (w.alloc (.cells #[.int .i64 t.n, .slice ai t.init.length ci, .slice ag t.goal.length cg, .slice ao t.ops.length co] 25)) (.cells #[.int .i64 0, .int .i64 0] 31); rwa [World.size_alloc] at this, by omega, KA2⟩
  replace HF := Lib.hid HF
  have HS := Lib.hid (show Ints _ (.slice aa (facts x).length cs) (facts x) from hs.keeps0 KA2)
  have OK := Lib.hid ok
  have hfew := ok.few
  have hn24 : t.n ≤ 24 := ok.n1
  have hen := enters_of (P := Tryz.prog) Tryz.func107 (by kernel_rfl) rfl
  have HEN := Lib.hid hen
  clear h hs ok hg K1 KA2 hen
  generalize facts x = s at HE HSB HS ⊢
  go_enter Tryz.func82, Tryz.ntmps82
  go_upto_region 1 with fail
  generalize ((w.alloc (.cells #[.int .i64 t.n, .slice ai t.init.length ci, .slice ag t.goal.length cg, .slice ao t.ops.length co] 25)).alloc (.cells #[.int .i64 0, .int .i64 0] 31)) = w1 at HT HB HF HS ⊢
  obtain ⟨d0, d1, d2, d3⟩ := HB.out
  have hbx := HB.out.lt
  go_wp2_with fail
  refine (stateFault_any _ _ _ _ _ t s HT.out HS.out).mono ?_; rintro e w2 ⟨rfl, hk⟩
  rw [HE.out]
  have KA := hk.trans ((Keeps.refl (fun _ => False) w2).alloc (.cells #[.int .i64 0, .int .i64 0] 31))
  have HT3 := Lib.hid (HT.out.keeps0 KA); have HB3 := Lib.hid (HB.out.keeps0 KA); have HF3 := Lib.hid (HF.out.keeps0 KA); have HS3 := Lib.hid (HS.out.keeps0 KA)
  have F0 := Lib.hid (heap_alloc_new w2 (.cells #[.int .i64 0, .int .i64 0] 31))
  clear d0 d1 d2 d3 hbx hk KA HT HB HF HS
  go_upto_region 2 with fail
  generalize (w2.alloc (.cells #[.int .i64 0, .int .i64 0] 31)) = w3 at HT3 HB3 HF3 HS3 F0 ⊢
  generalize w2.heap.size = b7 at F0 ⊢
  obtain ⟨f0, f1, y0, y1, fl⟩ := pair_cells F0.out
  clear y0 y1
  obtain ⟨d0, d1, d2, d3⟩ := HB3.out
  have hbx := HB3.out.lt
  have HB3x := hbx
  go_upto_region 4 with fail
  clear f0 f1 fl d0 d1 d2 d3 hbx
  have KD := (Keeps.refl (fun _ => False) w3).drew
  have HT4 := Lib.hid (HT3.out.keeps0 KD); have HB4 := Lib.hid (HB3.out.keeps0 KD); have HF4 := Lib.hid (HF3.out.keeps0 KD); have HS4 := Lib.hid (HS3.out.keeps0 KD)
  clear KD HT3 HB3 HF3 HS3 F0
  obtain ⟨d0, d1, d2, d3⟩ := HB4.out
  have hbx := HB4.out.lt
  have hw2 : w.heap.size < w3.heap.size := HB3x
  have hdr : w3.drew.heap.size = w3.heap.size := rfl
  go_cut [8, 9] from 15 (fun v8 v9 wc => ∃ b8 b9 gl gs : Nat, v8 = .pointer (some ⟨b8, 0, none⟩) ∧ v9 = .pointer (some ⟨b9, 0, none⟩) ∧ Boxed wc b8 22 (.slice (some ⟨gl, 0, none⟩) t.n.toNat t.n.toNat) ∧ Boxed wc b9 22 (.slice (some ⟨gs, 0, none⟩) t.n.toNat t.n.toNat) ∧ IArr wc gl (levelsV t s) ∧ IArr wc gs (supV t s) ∧ Keeps (fun _ => False) w3.drew wc)
  case first =>
    go_region_held3 (fun w' => w'.cell? ⟨w.heap.size, 0, none⟩ = some (.int .i64 t.n) ∧ w'.cell? ⟨w.heap.size, 1, none⟩ = some (.slice ai t.init.length ci) ∧ w'.cell? ⟨w.heap.size, 2, none⟩ = some (.slice ag t.goal.length cg) ∧ w'.cell? ⟨w.heap.size, 3, none⟩ = some (.slice ao t.ops.length co))
      (first | (go_keep; done) | ((try dsimp only); (repeat' apply And.intro) <;> (first | (go_keep; done) | (repeat first | assumption | refine keep_set ?_ (by omega) | refine keep_alloc ?_))))
      (first
        | (go_at_call 104; (refine (levels_any _ _ _ _ _ t s (HT4.out.keeps0 (by first | exact Keeps.refl _ _ | exact (Keeps.refl _ _).alloc _ | exact ((Keeps.refl _ _).alloc _).alloc _)) OK.out (HS4.out.keeps0 (by first | exact Keeps.refl _ _ | exact (Keeps.refl _ _).alloc _ | exact ((Keeps.refl _ _).alloc _).alloc _)) HSB.out).mono ?_; rintro en wa ⟨gl, rfl, hia, hga, hka⟩; have HIA := Lib.hid hia; have KWA : Keeps (fun _ => False) w3.drew wa := (by first | exact hka | exact ((Keeps.refl _ _).alloc _).trans hka | exact (((Keeps.refl _ _).alloc _).alloc _).trans hka); have hla := hia.lt; (first | (have XX := two_newD (w := w3) (o := (.cells #[.slice none 0 0] 22)) (o2 := (.cells #[.slice none 0 0] 22)) hka hga; obtain ⟨X1, X2, X3, X4⟩ := XX; have XK : True := trivial; obtain ⟨x1, x2, x3⟩ := nil_box X1; obtain ⟨x4, x5, x6⟩ := nil_box X2) | (have XX := one_newD (w := w3) (o := (.cells #[.slice none 0 0] 22)) hka hga; obtain ⟨X1, X3, X4⟩ := XX; obtain ⟨x1, x2, x3⟩ := nil_box X1) | skip); obtain ⟨a0, a1, a2, a3⟩ := HB4.out.keeps0 KWA; have abx := (HB4.out.keeps0 KWA).lt; clear hia hka))
        | (go_at_call 105; (refine (supporters_any _ _ _ _ _ t s (HT4.out.keeps0 (by first | exact KWA | exact KWA.alloc _ | exact (KWA.alloc _).alloc _)) OK.out (HS4.out.keeps0 (by first | exact KWA | exact KWA.alloc _ | exact (KWA.alloc _).alloc _)) HSB.out).mono ?_; rintro en wb ⟨gs, rfl, hib, hgb, hkb⟩; have HIB := Lib.hid hib; have hlb := hib.lt; have KAB : Keeps (fun _ => False) wa wb := (by first | exact hkb | exact ((Keeps.refl _ _).alloc _).trans hkb | exact (((Keeps.refl _ _).alloc _).alloc _).trans hkb); have KWB : Keeps (fun _ => False) w3.drew wb := KWA.trans KAB; have HIA2 := Lib.hid (HIA.out.keeps KAB (fun h => h)); have hsz := KAB.size; (try simp only [World.size_alloc] at hgb); (try (have Y1 := KAB.heap X1 (fun h => h); obtain ⟨y1, y2, y3⟩ := nil_box Y1)); (try (have Y2 := KAB.heap X2 (fun h => h); obtain ⟨y4, y5, y6⟩ := nil_box Y2)); (first | (have ZZ := two_new (w := wa) (o := (.cells #[.slice none 0 0] 22)) (o2 := (.cells #[.slice none 0 0] 22)) hkb; obtain ⟨Z1, Z2, Z3⟩ := ZZ; obtain ⟨z1, z2, z3⟩ := nil_box Z1; obtain ⟨z4, z5, z6⟩ := nil_box Z2) | (have ZZ := one_new (w := wa) (o := (.cells #[.slice none 0 0] 22)) hkb; obtain ⟨Z1, Z3⟩ := ZZ; obtain ⟨z1, z2, z3⟩ := nil_box Z1) | skip); obtain ⟨e0, e1, e2, e3⟩ := HB4.out.keeps0 KWB; have ebx := (HB4.out.keeps0 KWB).lt; clear hib hkb))
        )
    all_goals go_wp2_with fail
    all_goals go_meet
    all_goals
      clear a0 a1 a2 a3 e0 e1 e2 e3
      refine ⟨_, _, gl, gs, rfl, rfl, ?_, ?_, ?_, ?_, ?_⟩
      · repeat first | exact Y1 | exact Y2 | exact Z1 | exact Z2 | exact box_new (by first | rfl | simp) | exact Boxed.set (v := .slice none 0 0) _ (by first | exact Y1 | exact Y2 | exact Z1 | exact Z2) | refine Boxed.set (v := .slice none 0 0) _ ?_ | refine box_set ?_ (by omega) | refine box_alloc ?_
      · repeat first | exact Y1 | exact Y2 | exact Z1 | exact Z2 | exact box_new (by first | rfl | simp) | exact Boxed.set (v := .slice none 0 0) _ (by first | exact Y1 | exact Y2 | exact Z1 | exact Z2) | refine Boxed.set (v := .slice none 0 0) _ ?_ | refine box_set ?_ (by omega) | refine box_alloc ?_
      · repeat first | exact HIA2.out | refine iarr_set ?_ (by omega) | refine iarr_alloc ?_
      · repeat first | exact HIB.out | refine iarr_set ?_ (by omega) | refine iarr_alloc ?_
      · repeat first | exact KWB | refine keeps_set_new ?_ (by omega) | refine Keeps.alloc ?_ _
  case rest =>
    obtain ⟨b8, b9, gl, gs, rfl, rfl, hx8, hx9, hil, his, hkc⟩ := hcut
    have HT5 := Lib.hid (HT4.out.keeps0 hkc); have HB5 := Lib.hid (HB4.out.keeps0 hkc); have HF5 := Lib.hid (HF4.out.keeps0 hkc)
    have HX8 := Lib.hid hx8; have HX9 := Lib.hid hx9; have HIL := Lib.hid hil; have HIS := Lib.hid his
    clear d0 d1 d2 d3 hbx hx8 hx9 hil his hkc HT4 HB4 HF4 HS4 hw2 hdr HB3x
    obtain ⟨d0, d1, d2, d3⟩ := HB5.out
    have hbx := HB5.out.lt
    have HN := Lib.hid (show ((t.n.toNat : Nat) : Int) = t.n by have := HN0.out; omega)
    generalize t.n.toNat = n at HX8 HX9 HN
    go_wp2_with fail
    refine (containsF1_any 107 b8 (fun p => decide (getV (levelsV t s) p < 0)) HEN.out _ _ t.goal HT5.out.goal (fun W p hk hp => below_any W b8 gl n (levelsV t s) p (Boxed.cell (hk.heap HX8.out (fun h => h))) (HIL.out.keeps hk (fun h => h)) (by have := (levelsV_ok t s).1; have := HN.out; omega) (by have := HGB.out p hp; have := HN.out; omega))).mono ?_
    rintro e w5 ⟨rfl, hk5⟩
    have HT6 := Lib.hid (HT5.out.keeps0 hk5); have HB6 := Lib.hid (HB5.out.keeps0 hk5); have HF6 := Lib.hid (HF5.out.keeps0 hk5)
    have HX9' := Lib.hid (show Boxed w5 b9 _ _ from hk5.heap HX9.out (fun h => h)); have HIS' := Lib.hid (HIS.out.keeps hk5 (fun h => h))
    clear d0 d1 d2 d3 hbx hk5 HT5 HB5 HF5 HX8 HX9 HIL HIS
    cases hany : t.goal.any (fun p => decide (getV (levelsV t s) p < 0)) with
    | true =>
      have HR := Lib.hid (show relOk t s = false by unfold relOk; rw [hany]; rfl)
      clear hany
      obtain ⟨c0, c1, z0, z1, hF⟩ := HF6.out.cells
      have HST := Lib.hid (HF6.out.set (.int .i64 0) (.int .i64 0))
      go_wp2_with fail
      refine bodyPost_ret (results_tmp2_cell _ _ (w.heap.size + 1) 31 #[.int .i64 0, .int .i64 0] (0, 0) _ rfl rfl HST.out.1 Tryz.underlying31 rfl (by kernel_rfl)) rfl ?_
      exact ⟨_, by rw [HR.out]; rfl, (fun h => by rw [HR.out] at h; cases h), HST.out.2⟩
    | false =>
      have HR := Lib.hid (show relOk t s = true by unfold relOk; rw [hany]; rfl)
      clear hany
      go_upto_region 8 with fail
      have K6 := (Keeps.refl (fun _ => False) w5).alloc (.cells #[.slice none 0 0] 22)
      have HX10 := Lib.hid (show Boxed (w5.alloc (.cells #[.slice none 0 0] 22)) w5.heap.size 22 (.slice none 0 0) from box_new rfl)
      have HZ6 := Lib.hid (show (w5.alloc (.cells #[.slice none 0 0] 22)).heap.size = w5.heap.size + 1 from World.size_alloc ..)
      have HK6 := Lib.hid K6
      have HB7 := Lib.hid (HB6.out.keeps0 K6)
      obtain ⟨b10, hb10⟩ : ∃ b10, w5.heap.size = b10 := ⟨_, rfl⟩
      rw [hb10] at HX10 HZ6 ⊢
      have HE10 := Lib.hid hb10
      generalize (w5.alloc (.cells #[.slice none 0 0] 22)) = w6 at HX10 HZ6 HK6 HB7 ⊢
      clear K6 hb10
      obtain ⟨d0, d1, d2, d3⟩ := HB7.out
      have hbx := HB7.out.lt
      have hmk := run_make_bools w6 (t.ops.length : Int) t.ops.length rfl (by omega)
      go_upto_region 9 with fail
      have K7 := ((Keeps.refl (fun _ => False) w6).alloc (.cells (Array.replicate t.ops.length (Value.bool false)) 4)).alloc (.cells #[.slice (some ⟨w6.heap.size, 0, none⟩) t.ops.length t.ops.length] 60)
      have HBD := Lib.hid (((BArr.falses w6 t.ops.length).keeps ((Keeps.refl (fun _ => False) _).alloc (.cells #[.slice (some ⟨w6.heap.size, 0, none⟩) t.ops.length t.ops.length] 60)) (fun h => h)))
      have hx11 := heap_alloc_new (w6.alloc (.cells (Array.replicate t.ops.length (Value.bool false)) 4)) (.cells #[.slice (some ⟨w6.heap.size, 0, none⟩) t.ops.length t.ops.length] 60)
      rw [World.size_alloc] at hx11
      have HX11 := Lib.hid hx11
      have HK7 := Lib.hid K7
      rw [HZ6.out] at HBD HX11 HK7 ⊢
      clear d0 d1 d2 d3 hbx hmk K7 hx11
      have HZ7 := Lib.hid (show ((w6.alloc (.cells (Array.replicate t.ops.length (Value.bool false)) 4)).alloc (.cells #[.slice (some ⟨b10 + 1, 0, none⟩) t.ops.length t.ops.length] 60)).heap.size = b10 + 1 + 1 + 1 by rw [World.size_alloc, World.size_alloc, HZ6.out])
      generalize ((w6.alloc (.cells (Array.replicate t.ops.length (Value.bool false)) 4)).alloc (.cells #[.slice (some ⟨b10 + 1, 0, none⟩) t.ops.length t.ops.length] 60)) = w7 at HBD HX11 HK7 HZ7 ⊢
      go_upto_region 10 with fail
      have K8 := (Keeps.refl (fun _ => False) w7).alloc (.cells #[.nilFunc] 162)
      have hx12 : Boxed (w7.alloc (.cells #[.nilFunc] 162)) w7.heap.size 162 .nilFunc := heap_alloc_new w7 _
      rw [HZ7.out] at hx12 ⊢
      generalize (w7.alloc (.cells #[.nilFunc] 162)) = w7a at hx12 K8 ⊢
      have x12 := hx12.cell
      have z12 := hx12.frozen
      have l12 := lt_of_heap hx12
      have HX12 := Lib.hid (hx12.set (.func (.func 108) #[] #[.pointer (some ⟨b9, 0, none⟩), .pointer (some ⟨b10 + 1 + 1, 0, none⟩), .pointer (some ⟨w.heap.size, 0, none⟩), .pointer (some ⟨b10 + 1 + 1 + 1, 0, none⟩), .pointer (some ⟨b10, 0, none⟩)]))
      have HK8 := Lib.hid (K8.trans' (keeps_set w7a (b10 + 1 + 1 + 1) 0 (.func (.func 108) #[] #[.pointer (some ⟨b9, 0, none⟩), .pointer (some ⟨b10 + 1 + 1, 0, none⟩), .pointer (some ⟨w.heap.size, 0, none⟩), .pointer (some ⟨b10 + 1 + 1 + 1, 0, none⟩), .pointer (some ⟨b10, 0, none⟩)])) (fun i hi => .inr (by have h1 := HZ7.out; have h2 : i = b10 + 1 + 1 + 1 := hi; omega)))
      clear hx12 K8
      go_upto_region 11 with fail
      generalize w7a.setCell ⟨b10 + 1 + 1 + 1, 0, none⟩ (.func (.func 108) #[] #[.pointer (some ⟨b9, 0, none⟩), .pointer (some ⟨b10 + 1 + 1, 0, none⟩), .pointer (some ⟨w.heap.size, 0, none⟩), .pointer (some ⟨b10 + 1 + 1 + 1, 0, none⟩), .pointer (some ⟨b10, 0, none⟩)]) = w8 at HX12 HK8 ⊢
      clear x12 z12 l12
      have hwb : w.heap.size < b10 := by have h1 := HB6.out.lt; have h2 := HE10.out; omega
      have h9b : b9 < b10 := by have h1 := lt_of_heap HX9'.out; have h2 := HE10.out; omega
      have hgsb : gs < b10 := by have h1 := HIS'.out.lt; have h2 := HE10.out; omega
      have K58 := HK6.out.trans (HK7.out.trans HK8.out)
      have hl8 := lt_of_heap HX12.out
      have HAW := Lib.hid (show AchW w5 w8 w.heap.size b9 b10 (b10 + 1 + 1) (b10 + 1 + 1 + 1) gs (b10 + 1) n t.ops.length (.slice ai t.init.length ci) (.slice ag t.goal.length cg) (.slice ao t.ops.length co) t (supV t s) from
        ⟨HT6.out, fun W hk => K58.trans' hk (fun i hi => .inr (by have h2 := HE10.out; rcases hi with e | e <;> omega)), HB6.out.keeps0 K58, K58.heap HX9'.out (fun h => h), HK8.out.heap HX11.out (fun h => h), HX12.out, HIS'.out.keeps K58 (fun h => h), by omega, by omega, by omega, by omega, by omega, by omega, by omega, by omega⟩)
      have HAT := Lib.hid (show AchAt w8 (b10 + 1) b10 (List.replicate t.ops.length false, []) w8 from
        ⟨HBD.out.keeps HK8.out (fun h => h), ⟨_, HK8.out.heap (HK7.out.heap HX10.out (fun h => h)) (fun h => h), World.ownsRow_nil _ _ _ _⟩, Keeps.refl _ _⟩)
      have HFL := Lib.hid (HF6.out.keeps0 K58)
      have HSN := Lib.hid (sup_need OK.out s)
      have HSL := Lib.hid (show (supV t s).length = n by have := (supV_ok OK.out s).1; have := HN.out; omega)
      have HAI := Lib.hid (show ∀ j, AchI t.ops.length (List.replicate t.ops.length false, []) (achs (supV t s) t.ops (t.ops.length + 1) (List.replicate t.ops.length false, []) (t.goal.take j)) from fun j =>
        achs_ok HSN.out _ (t.goal.take j) _ (fun p hp => by have := HGB.out p (List.mem_of_mem_take hp); have := HSL.out; have := HN.out; omega) (by simp) (fun i hi => by cases hi))
      have HRP := Lib.hid (show relP t s = (achs (supV t s) t.ops (t.ops.length + 1) (List.replicate t.ops.length false, []) t.goal).2 from rfl)
      clear K58 HX12 HK8 HK7 HK6 HX11 HBD HX10 HB7
      obtain ⟨d0, d1, d2, d3⟩ := HAW.out.x2
      have hbx := HAW.out.x2.lt
      go_wp2_with fail
      clear d0 d1 d2 d3 hbx
      go_loopw [41] (fun v41 wr => ∃ k : Nat, v41 = .int .i64 (k : Int) ∧ k ≤ t.goal.length ∧ AchAt w8 (b10 + 1) b10 (achs (supV t s) t.ops (t.ops.length + 1) (List.replicate t.ops.length false, []) (t.goal.take k)) wr) (fun v41 _ => t.goal.length - (intOf v41).toNat)
      case atStart => exact ⟨0, rfl, Nat.zero_le _, HAT.out⟩
      case round =>
        obtain ⟨k, rfl, hk, hat⟩ := hrel
        have HA := Lib.hid hat; clear hat
        by_cases hkl : k < t.goal.length
        · have KW := Lib.hid (HAW.out.low wr HA.out.2.2)
          obtain ⟨b1, o1, rfl, hca⟩ := (HT6.out.goal.keeps0 KW.out).cell rfl (by omega)
          obtain ⟨p, hp⟩ : ∃ p, t.goal[k]? = some p := ⟨_, List.getElem?_eq_getElem hkl⟩
          have hc1 := hca k p hp
          have hpb := HGB.out p (List.mem_of_getElem? hp)
          have hA := HAI.out k
          have HTK := Lib.hid (achs_take (sup := supV t s) (ops := t.ops) (t.ops.length + 1) (List.replicate t.ops.length false, []) hp)
          have HCALL := Lib.hid (achieve_any HAW.out OK.out HSN.out HSL.out rfl (t.ops.length + 1) p _ wr hpb.1 (by have := HN.out; omega) hA.len hA.ops (by have h1 := hA.more; simp only [offs_falses, List.length_nil] at h1; omega) (by have h1 := hA.fewer; simp only [offs_falses] at h1; omega) HA.out)
          have x12 := Boxed.cell (HA.out.2.2.heap HAW.out.x12 (fun e => by rcases e with e | e <;> omega))
          have l12 := lt_of_heap (HA.out.2.2.heap HAW.out.x12 (fun e => by rcases e with e | e <;> omega))
          clear hca hp hpb hA
          go_wp2_with fail
          refine HCALL.out.mono ?_; rintro e w9 ⟨rfl, hat2⟩
          have HA2 := Lib.hid hat2
          clear hat2 x12 l12 hc1
          go_wp2_with fail
          go_roundw
          case rel => exact ⟨k + 1, by go_num, by omega, by rw [HTK.out]; exact HA2.out⟩
          case measure => simp [intOf]; omega
        · rw [List.take_of_length_le (by omega)] at HA
          obtain ⟨_, ⟨vp, hbp, hrow⟩, hkr⟩ := HA.out
          rw [← HRP.out] at hrow
          obtain ⟨ap, cp, hvp⟩ := ownsRow_form1 hrow
          subst hvp
          have hfl := HF6.out.cells.2.2.2.2
          have hbe := HE10.out
          have x10 := Boxed.cell hbp
          have l10 := lt_of_heap hbp
          have HFW := Lib.hid (HFL.out.keepsS hkr (fun e => by rcases e with e | e <;> omega) (fun i hi => by rcases hi with e | e <;> omega))
          have HROW := Lib.hid hrow
          have HSZ := Lib.hid HAW.out.ld
          clear hbp hrow hkr HA
          obtain ⟨c0, c1, z0, z1, hF⟩ := HFW.out.cells
          have HST := Lib.hid (HFW.out.set (.int .i64 0) (.int .i64 0))
          have HFIN := Lib.hid (show Ints ((wr.setCell ⟨w.heap.size + 1, 0, none⟩ (.int .i64 0)).setCell ⟨w.heap.size + 1, 1, none⟩ (.int .i64 0)) (.slice ap (relP t s).length cp) (relP t s) from
            Ints.of_own ((keeps_pair (w := wr) (w.heap.size + 1) (.int .i64 0) (.int .i64 0)).ownsRow HROW.out (fun k hk e => by have h1 := (World.ownsRow.lt HROW.out k hk).1; have h2 := HSZ.out; have h3 : k = w.heap.size + 1 := e; omega)))
          go_wp2_with fail
          refine bodyPost_ret (results_tmp2_cell _ _ (w.heap.size + 1) 31 #[.int .i64 0, .int .i64 0] (0, 0) _ rfl rfl HST.out.1 Tryz.underlying31 rfl (by kernel_rfl)) rfl ?_
          exact ⟨_, by rw [HR.out]; rfl, (fun _ => HFIN.out), HST.out.2⟩

end Go.Proofs.YtkjmgafnaddhkaaGreat

namespace Go.Proofs.YtkjmgafnaddhkaaGreat
open Go.RowKit Go.Shelf

/-- What the steps of a plan cost. -/
def pcost (t : Tsk) (l : List Int) : Int := l.foldl (fun a i => a + ((t.ops[i.toNat]?).map Opr.cost).getD 0) 0
theorem pcost_snoc (t : Tsk) (l : List Int) (i : Int) : pcost t (l ++ [i]) = pcost t l + ((t.ops[i.toNat]?).map Opr.cost).getD 0 := by unfold pcost; rw [List.foldl_append]; rfl
theorem pcost_take {t : Tsk} {l : List Int} {j i : Nat} {o : Opr} (h : l[j]? = some (i : Int)) (ho : t.ops[i]? = some o) : pcost t (l.take (j + 1)) = pcost t (l.take j) + o.cost := by
  rw [take_getS h, pcost_snoc, Int.toNat_natCast, ho]; rfl
theorem pcost_ok {t : Tsk} (ok : t.Ok) : ∀ (l : List Int) (a : Int), 0 ≤ a → a ≤ (l.foldl (fun a i => a + ((t.ops[i.toNat]?).map Opr.cost).getD 0) a) ∧ (l.foldl (fun a i => a + ((t.ops[i.toNat]?).map Opr.cost).getD 0) a) ≤ a + 100 * (l.length : Int)
  | [], a, h => by simp
  | i :: r, a, h => by
    have hc : 0 ≤ ((t.ops[i.toNat]?).map Opr.cost).getD 0 ∧ ((t.ops[i.toNat]?).map Opr.cost).getD 0 ≤ 100 := by
      cases ho : t.ops[i.toNat]? with
      | none => simp
      | some o => have := ok.ops o (List.mem_of_getElem? ho); exact ⟨this.cost0, this.cost1⟩
    have ih := pcost_ok ok r (a + ((t.ops[i.toNat]?).map Opr.cost).getD 0) (by omega)
    rw [List.foldl_cons, List.length_cons]
    exact ⟨by omega, by omega⟩
/-- What a plan without deletions costs. -/
def planH (t : Tsk) (x : Nat) : Int := if relOk t (facts x) = true then pcost t (relP t (facts x)) else 1000000000

/-- What Value says of a state, at every kind. -/
def kindV (t : Tsk) (k : Int) : Nat → Int := if k = 3 then planH t else kindH t k
theorem kindV_adm {t : Tsk} {k : Int} (h : admK k = true) : kindV t k = kindH t k := by
  unfold kindV
  rw [if_neg]
  rintro rfl
  revert h; decide
end Go.Proofs.YtkjmgafnaddhkaaGreat

namespace Go.Proofs.YtkjmgafnaddhkaaGreat
open Go.RowKit Go.Shelf

set_option maxRecDepth 100000 in
set_option maxHeartbeats 4000000 in
theorem valueOf1_any (w : World) (vi vg vo vs : Value) (t : Tsk) (x : Nat) (h : TaskAt w vi vg vo t) (ok : t.Ok) (hg : Good t.n x) (hs : Ints w vs (facts x)) :
    Calls Tryz.prog 52 #[.agg #[.int .i64 t.n, vi, vg, vo], .int .i64 1, vs] w fun e w' => e = .returned (.int .i64 (maxH t x)) ∧ Keeps (fun _ => False) w w' := by
  obtain ⟨ai, ci, h1, _⟩ := h.init.form
  obtain ⟨ag, cg, h2, _⟩ := h.goal.form
  obtain ⟨ao, co, h3, hmo⟩ := h.ops.form
  subst h1 h2 h3
  have K1 := (Keeps.refl (fun _ => False) w).alloc (.cells #[.int .i64 t.n, .slice ai t.init.length ci, .slice ag t.goal.length cg, .slice ao t.ops.length co] 25)
  have HB := Lib.hid (Four.new w (.int .i64 t.n) (.slice ai t.init.length ci) (.slice ag t.goal.length cg) (.slice ao t.ops.length co) 25)
  have HT := Lib.hid (h.keeps0 K1); have HS := Lib.hid (hs.keeps0 K1); have HK1 := Lib.hid K1
  have OK := Lib.hid ok; have HX := Lib.hid hg
  clear h hs K1 ok hg
  go_enter Tryz.func52, Tryz.ntmps52
  go_upto_region 4 with fail
  generalize (w.alloc (.cells #[.int .i64 t.n, .slice ai t.init.length ci, .slice ag t.goal.length cg, .slice ao t.ops.length co] 25)) = w1 at HT HB HK1 HS ⊢
  obtain ⟨d0, d1, d2, d3⟩ := HB.out
  have hbx := HB.out.lt
  go_wp2_with fail
  refine (rmax_any _ _ _ _ _ t x HT.out OK.out HX.out HS.out).mono ?_
  rintro e w2 ⟨g, rfl, _, _, hk⟩
  have HK2 := Lib.hid (HK1.out.trans hk)
  unfold fltV
  clear hk d0 d1 d2 d3
  go_wp2_with fail
  go_ret
  exact ⟨rfl, HK2.out.trans ((Keeps.refl (fun _ => False) w2).alloc _)⟩

set_option maxRecDepth 100000 in
set_option maxHeartbeats 4000000 in
theorem valueOf2_any (w : World) (vi vg vo vs : Value) (t : Tsk) (x : Nat) (h : TaskAt w vi vg vo t) (ok : t.Ok) (hg : Good t.n x) (hs : Ints w vs (facts x)) :
    Calls Tryz.prog 52 #[.agg #[.int .i64 t.n, vi, vg, vo], .int .i64 2, vs] w fun e w' => e = .returned (.int .i64 (addH t x)) ∧ Keeps (fun _ => False) w w' := by
  obtain ⟨ai, ci, h1, _⟩ := h.init.form
  obtain ⟨ag, cg, h2, _⟩ := h.goal.form
  obtain ⟨ao, co, h3, hmo⟩ := h.ops.form
  subst h1 h2 h3
  have K1 := (Keeps.refl (fun _ => False) w).alloc (.cells #[.int .i64 t.n, .slice ai t.init.length ci, .slice ag t.goal.length cg, .slice ao t.ops.length co] 25)
  have HB := Lib.hid (Four.new w (.int .i64 t.n) (.slice ai t.init.length ci) (.slice ag t.goal.length cg) (.slice ao t.ops.length co) 25)
  have HT := Lib.hid (h.keeps0 K1); have HS := Lib.hid (hs.keeps0 K1); have HK1 := Lib.hid K1
  have OK := Lib.hid ok; have HX := Lib.hid hg
  clear h hs K1 ok hg
  go_enter Tryz.func52, Tryz.ntmps52
  go_upto_region 7 with fail
  generalize (w.alloc (.cells #[.int .i64 t.n, .slice ai t.init.length ci, .slice ag t.goal.length cg, .slice ao t.ops.length co] 25)) = w1 at HT HB HK1 HS ⊢
  obtain ⟨d0, d1, d2, d3⟩ := HB.out
  have hbx := HB.out.lt
  go_wp2_with fail
  refine (radd_any _ _ _ _ _ t x HT.out OK.out HX.out HS.out).mono ?_
  rintro e w2 ⟨g, rfl, _, _, hk⟩
  have HK2 := Lib.hid (HK1.out.trans hk)
  unfold fltV
  clear hk d0 d1 d2 d3
  go_wp2_with fail
  go_ret
  exact ⟨rfl, HK2.out.trans ((Keeps.refl (fun _ => False) w2).alloc _)⟩

set_option maxRecDepth 100000 in
set_option maxHeartbeats 4000000 in
theorem valueOf4_any (w : World) (vi vg vo vs : Value) (t : Tsk) (x : Nat) (h : TaskAt w vi vg vo t) (ok : t.Ok) (hg : Good t.n x) (hs : Ints w vs (facts x)) :
    Calls Tryz.prog 52 #[.agg #[.int .i64 t.n, vi, vg, vo], .int .i64 4, vs] w fun e w' => e = .returned (.int .i64 (cutsH t x)) ∧ Keeps (fun _ => False) w w' := by
  obtain ⟨ai, ci, h1, _⟩ := h.init.form
  obtain ⟨ag, cg, h2, _⟩ := h.goal.form
  obtain ⟨ao, co, h3, hmo⟩ := h.ops.form
  subst h1 h2 h3
  have K1 := (Keeps.refl (fun _ => False) w).alloc (.cells #[.int .i64 t.n, .slice ai t.init.length ci, .slice ag t.goal.length cg, .slice ao t.ops.length co] 25)
  have HB := Lib.hid (Four.new w (.int .i64 t.n) (.slice ai t.init.length ci) (.slice ag t.goal.length cg) (.slice ao t.ops.length co) 25)
  have HT := Lib.hid (h.keeps0 K1); have HS := Lib.hid (hs.keeps0 K1); have HK1 := Lib.hid K1
  have OK := Lib.hid ok; have HX := Lib.hid hg
  clear h hs K1 ok hg
  go_enter Tryz.func52, Tryz.ntmps52
  go_upto_region 19 with fail
  generalize (w.alloc (.cells #[.int .i64 t.n, .slice ai t.init.length ci, .slice ag t.goal.length cg, .slice ao t.ops.length co] 25)) = w1 at HT HB HK1 HS ⊢
  obtain ⟨d0, d1, d2, d3⟩ := HB.out
  have hbx := HB.out.lt
  go_wp2_with fail
  refine (cuts_any _ _ _ _ _ t x HT.out OK.out HX.out HS.out).mono ?_
  rintro e w2 ⟨vx, rfl, hk⟩
  have HK2 := Lib.hid (HK1.out.trans hk)
  unfold fltV
  clear hk d0 d1 d2 d3
  go_wp2_with fail
  go_ret
  exact ⟨rfl, HK2.out.trans ((Keeps.refl (fun _ => False) w2).alloc _)⟩

set_option maxRecDepth 100000 in
set_option maxHeartbeats 4000000 in
theorem valueOf5_any (w : World) (vi vg vo vs : Value) (t : Tsk) (x : Nat) (h : TaskAt w vi vg vo t) (ok : t.Ok) (hg : Good t.n x) (hs : Ints w vs (facts x)) :
    Calls Tryz.prog 52 #[.agg #[.int .i64 t.n, vi, vg, vo], .int .i64 5, vs] w fun e w' => e = .returned (.int .i64 (pairsH t x)) ∧ Keeps (fun _ => False) w w' := by
  obtain ⟨ai, ci, h1, _⟩ := h.init.form
  obtain ⟨ag, cg, h2, _⟩ := h.goal.form
  obtain ⟨ao, co, h3, hmo⟩ := h.ops.form
  subst h1 h2 h3
  have K1 := (Keeps.refl (fun _ => False) w).alloc (.cells #[.int .i64 t.n, .slice ai t.init.length ci, .slice ag t.goal.length cg, .slice ao t.ops.length co] 25)
  have HB := Lib.hid (Four.new w (.int .i64 t.n) (.slice ai t.init.length ci) (.slice ag t.goal.length cg) (.slice ao t.ops.length co) 25)
  have HT := Lib.hid (h.keeps0 K1); have HS := Lib.hid (hs.keeps0 K1); have HK1 := Lib.hid K1
  have OK := Lib.hid ok; have HX := Lib.hid hg
  clear h hs K1 ok hg
  go_enter Tryz.func52, Tryz.ntmps52
  go_upto_region 22 with fail
  generalize (w.alloc (.cells #[.int .i64 t.n, .slice ai t.init.length ci, .slice ag t.goal.length cg, .slice ao t.ops.length co] 25)) = w1 at HT HB HK1 HS ⊢
  obtain ⟨d0, d1, d2, d3⟩ := HB.out
  have hbx := HB.out.lt
  go_wp2_with fail
  refine (pgoal_any _ _ _ _ _ t x HT.out OK.out HX.out HS.out).mono ?_
  rintro e w2 ⟨rfl, hk⟩
  have HK2 := Lib.hid (HK1.out.trans hk)
  unfold fltV
  clear hk d0 d1 d2 d3
  go_wp2_with fail
  go_ret
  exact ⟨rfl, HK2.out.trans ((Keeps.refl (fun _ => False) w2).alloc _)⟩

set_option maxRecDepth 100000 in
set_option maxHeartbeats 4000000 in
theorem valueOf3_any (w : World) (vi vg vo vs : Value) (t : Tsk) (x : Nat) (h : TaskAt w vi vg vo t) (ok : t.Ok) (hg : Good t.n x) (hs : Ints w vs (facts x)) :
    Calls Tryz.prog 52 #[.agg #[.int .i64 t.n, vi, vg, vo], .int .i64 3, vs] w fun e w' => e = .returned (.int .i64 (planH t x)) ∧ Keeps (fun _ => False) w w' := by
  obtain ⟨ai, ci, h1, _⟩ := h.init.form
  obtain ⟨ag, cg, h2, _⟩ := h.goal.form
  obtain ⟨ao, co, h3, hmo⟩ := h.ops.form
  subst h1 h2 h3
  have K1 := (Keeps.refl (fun _ => False) w).alloc (.cells #[.int .i64 t.n, .slice ai t.init.length ci, .slice ag t.goal.length cg, .slice ao t.ops.length co] 25)
  have HB := Lib.hid (Four.new w (.int .i64 t.n) (.slice ai t.init.length ci) (.slice ag t.goal.length cg) (.slice ao t.ops.length co) 25)
  have HT := Lib.hid (h.keeps0 K1); have HS := Lib.hid (hs.keeps0 K1); have HK1 := Lib.hid K1
  have OK := Lib.hid ok; have HX := Lib.hid hg
  clear h hs K1 ok hg
  have HRO := Lib.hid (relP_ok OK.out (facts x))
  go_enter Tryz.func52, Tryz.ntmps52
  go_upto_region 10 with fail
  generalize (w.alloc (.cells #[.int .i64 t.n, .slice ai t.init.length ci, .slice ag t.goal.length cg, .slice ao t.ops.length co] 25)) = w1 at HT HB HK1 HS ⊢
  obtain ⟨d0, d1, d2, d3⟩ := HB.out
  have hbx := HB.out.lt
  go_wp2_with fail
  refine (rplan_any _ _ _ _ _ t x HT.out OK.out HX.out HS.out).mono ?_
  rintro e w2 ⟨vx, rfl, hpl, hk⟩
  have K2 := hk.trans ((Keeps.refl (fun _ => False) w2).alloc (.cells #[.int .i64 0, .int .i64 0] 31))
  have HK2 := Lib.hid (HK1.out.trans K2); have HT2 := Lib.hid (HT.out.keeps0 K2); have HB2 := Lib.hid (HB.out.keeps0 K2)
  have HPL := Lib.hid (show relOk t (facts x) = true → Ints (w2.alloc (.cells #[.int .i64 0, .int .i64 0] 31)) vx (relP t (facts x)) from fun h => (hpl h).keeps0 ((Keeps.refl (fun _ => False) w2).alloc _))
  unfold fltV
  clear hk d0 d1 d2 d3 hbx hpl K2
  cases hr : relOk t (facts x) with
  | false =>
    have HR := Lib.hid (show planH t x = 1000000000 by unfold planH; rw [hr]; rfl)
    clear hr
    go_wp2_with fail
    go_ret
    exact ⟨by rw [HR.out]; rfl, HK2.out⟩
  | true =>
    have HR := Lib.hid (show planH t x = pcost t (relP t (facts x)) by unfold planH; rw [hr]; rfl)
    have HPI := Lib.hid (HPL.out hr)
    obtain ⟨ap, cp, hvx, _⟩ := HPI.out.form
    subst hvx
    clear hr HPL
    have hl40 := HRO.out.1
    go_upto_region 11 with fail
    generalize (w2.alloc (.cells #[.int .i64 0, .int .i64 0] 31)) = w3 at HK2 HT2 HB2 HPI ⊢
    generalize relP t (facts x) = l at HPI HR HRO hl40 ⊢
    go_wp2_with fail
    go_loopw [7, 17] (fun v7 v17 wr => ∃ j : Nat, j ≤ l.length ∧ v17 = .int .i64 (j : Int) ∧ v7 = .int .i64 (pcost t (l.take j)) ∧ Keeps (fun _ => False) w3 wr) (fun _ v17 _ => l.length - (intOf v17).toNat)
    case atStart => exact ⟨0, Nat.zero_le _, rfl, rfl, Keeps.refl _ _⟩
    case round =>
      obtain ⟨j, hj, rfl, rfl, hkr⟩ := hrel
      have HKR := Lib.hid hkr
      clear hkr
      by_cases hjl : j < l.length
      · obtain ⟨b1, o1, rfl, hca⟩ := (HPI.out.keeps0 HKR.out).cell rfl (by omega)
        obtain ⟨p, hp⟩ : ∃ p, l[j]? = some p := ⟨_, List.getElem?_eq_getElem hjl⟩
        have hpb := HRO.out.2 p (List.mem_of_getElem? hp)
        obtain ⟨i, rfl⟩ := Int.eq_ofNat_of_zero_le hpb.1
        have hc2 := hca j _ hp
        have HC2 := Lib.hid hc2
        have hil : (i : Int) < ((t.ops.length : Nat) : Int) := hpb.2
        obtain ⟨o, ho⟩ : ∃ o, t.ops[i]? = some o := ⟨_, List.getElem?_eq_getElem (by omega)⟩
        obtain ⟨bo, oo, rfl, hcell⟩ := HT2.out.ops.cell rfl (by omega)
        obtain ⟨va, vb, vd, p0, p1, p2, p3, i1, i2, i3⟩ := hcell i o ho
        have HP3 := Lib.hid p3
        have HTK := Lib.hid (pcost_take hp ho)
        have hb := pcost_ok OK.out (l.take j) 0 (Int.le_refl _)
        have hln : (l.take j).length ≤ 40 := by rw [List.length_take]; omega
        have hco := OK.out.ops o (List.mem_of_getElem? ho)
        have hc0 := hco.cost0; have hc1 := hco.cost1
        rw [show (l.take j).foldl (fun a i => a + ((t.ops[i.toNat]?).map Opr.cost).getD 0) 0 = pcost t (l.take j) from rfl] at hb
        generalize pcost t (l.take j) = a at hb HTK ⊢
        have HBr := Lib.hid (HB2.out.keeps0 HKR.out)
        obtain ⟨d0, d1, d2, d3⟩ := HBr.out
        have hbx := HBr.out.lt
        have j0 : (0 : Int) ≤ (j : Int) := by omega
        have j1 : (j : Int) < (l.length : Int) := by omega
        clear hca hp hpb ho hcell i1 i2 i3 hco p0 p1 p2 p3
        go_upto_region 16 with fail
        go_still_tail 8, (by kernel_rfl)
        change wpList _ _ _ _ _ wr.drew
        have KD := (Keeps.refl (fun _ => False) wr).drew
        have K4 := Lib.hid (HKR.out.trans KD); have HB4 := Lib.hid (HBr.out.keeps0 KD)
        have HC4 := Lib.hid (KD.cell HC2.out (fun h => h))
        clear KD d0 d1 d2 d3 hbx hc2 HBr
        generalize wr.drew = w4 at K4 HB4 HC4 ⊢
        go_wp2_with fail
        have hin : inB (i : Int) 0 ((t.ops.length : Int) - 1) = true := by unfold inB; simp; omega
        refine (in_val w4 hin).mono ?_; rintro e w5 ⟨rfl, rfl⟩
        obtain ⟨d0, d1, d2, d3⟩ := HB4.out
        have hbx := HB4.out.lt
        have c2 := HC4.out
        have c3 := K4.out.cell HP3.out (fun h => h)
        have i0 : (0 : Int) ≤ (i : Int) := by omega
        have hwr : IntKind.i64.wrap (a + o.cost) = a + o.cost := IntWalk.i64_in _ (by omega)
        have KX := Lib.hid (K4.out.trans ((Keeps.refl (fun _ => False) w5).drew))
        go_upto_region 17 with fail
        go_still_tail 10, (by kernel_rfl)
        change wpList _ _ _ _ _ w5.drew
        go_wp2_with fail
        go_roundw
        case rel => exact ⟨j + 1, by omega, by go_num, by rw [HTK.out], KX.out⟩
        case measure => simp only [intOf]; omega
      · rw [List.take_of_length_le (by omega)]
        go_wp2_with fail
        go_ret
        exact ⟨by rw [HR.out]; rfl, HK2.out.trans HKR.out⟩

set_option maxRecDepth 100000 in
set_option maxHeartbeats 4000000 in
theorem valueOf_any (w : World) (vi vg vo vs : Value) (t : Tsk) (k : Int) (x : Nat) (h : TaskAt w vi vg vo t) (ok : t.Ok) (hg : Good t.n x) (hs : Ints w vs (facts x)) :
    Calls Tryz.prog 52 #[.agg #[.int .i64 t.n, vi, vg, vo], .int .i64 k, vs] w fun e w' => e = .returned (.int .i64 (kindV t k x)) ∧ Keeps (fun _ => False) w w' := by
  by_cases k1 : k = 1
  · subst k1; exact valueOf1_any w vi vg vo vs t x h ok hg hs
  by_cases k2 : k = 2
  · subst k2; exact valueOf2_any w vi vg vo vs t x h ok hg hs
  by_cases k3 : k = 3
  · subst k3; exact valueOf3_any w vi vg vo vs t x h ok hg hs
  by_cases k4 : k = 4
  · subst k4; exact valueOf4_any w vi vg vo vs t x h ok hg hs
  by_cases k5 : k = 5
  · subst k5; exact valueOf5_any w vi vg vo vs t x h ok hg hs
  have HV := Lib.hid (show kindV t k x = 0 by unfold kindV kindH; rw [if_neg k3, if_neg k1, if_neg k2, if_neg k4, if_neg k5])
  have b1 : (k == 1) = false := by simpa using k1
  have b2 : (k == 2) = false := by simpa using k2
  have b3 : (k == 3) = false := by simpa using k3
  have b4 : (k == 4) = false := by simpa using k4
  have b5 : (k == 5) = false := by simpa using k5
  have K1 := Lib.hid ((Keeps.refl (fun _ => False) w).alloc (.cells #[.int .i64 t.n, vi, vg, vo] 25))
  clear h hs ok hg k1 k2 k3 k4 k5
  go_enter Tryz.func52, Tryz.ntmps52
  go_wp2_with fail
  go_ret
  exact ⟨by rw [HV.out]; rfl, K1.out⟩

end Go.Proofs.YtkjmgafnaddhkaaGreat

namespace Go.Proofs.YtkjmgafnaddhkaaGreat
open Go.RowKit Go.Shelf

theorem cells5L {w w' : World} {b bl : Nat} {i : Nat} {x0 x1 x2 x3 x4 : Value} {S : Nat → Prop} (hk : Keeps S w w') (h : w.cell? ⟨b, 0, none⟩ = some x0 ∧ w.cell? ⟨b, 1, none⟩ = some x1 ∧ w.cell? ⟨b, 2, none⟩ = some x2 ∧ w.cell? ⟨b, 3, none⟩ = some x3 ∧ w.cell? ⟨bl, i, none⟩ = some x4) (hb : ¬ S b) (hl : ¬ S bl) : w'.cell? ⟨b, 0, none⟩ = some x0 ∧ w'.cell? ⟨b, 1, none⟩ = some x1 ∧ w'.cell? ⟨b, 2, none⟩ = some x2 ∧ w'.cell? ⟨b, 3, none⟩ = some x3 ∧ w'.cell? ⟨bl, i, none⟩ = some x4 :=
  ⟨hk.cell h.1 hb, hk.cell h.2.1 hb, hk.cell h.2.2.1 hb, hk.cell h.2.2.2.1 hb, hk.cell h.2.2.2.2 hl⟩

theorem Sl.new1 (w : World) (v : Value) (T : TypeId) : Sl (w.alloc (.cells #[v] T)) (.slice (some ⟨w.heap.size, 0, none⟩) 1 1) 1 [v] :=
  ⟨_, 1, rfl, ⟨by unfold maxLen; omega, Nat.le_refl _⟩, fun _ => ⟨w.heap.size, 0, rfl, fun j x hj => by
    cases j with
    | zero => simp at hj; subst hj; exact (cell_of_blk (heap_alloc_new w _)).trans rfl
    | succ j => simp at hj⟩⟩

set_option maxRecDepth 100000 in
set_option maxHeartbeats 4000000 in
theorem valuesH_any (w : World) (vi vg vo : Value) (t : Tsk) (k : Int) (l : List Nat) (h : TaskAt w vi vg vo t) (ok : t.Ok) (hx : explored t = some l) :
    Calls Tryz.prog 19 #[.agg #[.int .i64 t.n, vi, vg, vo], .int .i64 k] w fun e w' => ∃ vl vh, e = .returned (.tuple #[vl, vh]) ∧ Lists w' vl (l.map facts) ∧ Ints w' vh (l.map (kindV t k)) ∧ Keeps (fun _ => False) w w' := by
  obtain ⟨i0, hi0, hz0, hz1, hz2⟩ := info_parts Tryz.info3
  obtain ⟨ai, ci, h1, _⟩ := h.init.form
  obtain ⟨ag, cg, h2, _⟩ := h.goal.form
  obtain ⟨ao, co, h3, hmo⟩ := h.ops.form
  subst h1 h2 h3
  have HB := Lib.hid (Four.new w (.int .i64 t.n) (.slice ai t.init.length ci) (.slice ag t.goal.length cg) (.slice ao t.ops.length co) 25)
  have K1 := (Keeps.refl (fun _ => False) w).alloc (.cells #[.int .i64 t.n, .slice ai t.init.length ci, .slice ag t.goal.length cg, .slice ao t.ops.length co] 25)
  have HT := Lib.hid (h.keeps0 K1); have HK := Lib.hid K1
  have OK := Lib.hid ok; have HX := Lib.hid hx
  have hfew : l.length ≤ 2000 := (costs_need ok hx (List.Perm.refl l)).2.2.2.2.1
  have HGD := Lib.hid (good_explored ok hx)
  clear h K1 ok hx
  go_enter Tryz.func19, Tryz.ntmps19
  go_upto_region 1 with fail
  generalize (w.alloc (.cells #[.int .i64 t.n, .slice ai t.init.length ci, .slice ag t.goal.length cg, .slice ao t.ops.length co] 25)) = w1 at HB HT HK ⊢
  generalize w.heap.size = bt at HB ⊢
  have hbx := HB.out.lt
  obtain ⟨d0, d1, d2, d3⟩ := HB.out
  go_wp2_with fail
  refine (reached_any _ _ _ _ t HT.out OK.out).mono ?_; rintro e w2 ⟨hk, hr⟩
  rcases hr with ⟨hn, _⟩ | ⟨l', hl', v, vw, vs, rfl, hrows⟩
  · exact absurd (hn.symm.trans HX.out) (by simp)
  obtain rfl : l = l' := by have := hl'.symm.trans HX.out; cases this; rfl
  have hli := hrows.lists
  obtain ⟨a5, c5, hv5, _⟩ := hli.form
  rw [List.length_map] at hv5
  subst hv5
  have HL2 := Lib.hid hli; have HB2 := Lib.hid (HB.out.keeps0 hk); have HT2 := Lib.hid (HT.out.keeps0 hk); have K2 := Lib.hid (HK.out.trans hk)
  have HCL := Lib.hid (hli.cell (show Value.slice a5 l.length c5 = .slice a5 (l.map facts).length c5 by rw [List.length_map]))
  have hbt := HB.out.lt
  have hw12 := hk.size
  clear hk hl' hrows hli d0 d1 d2 d3 hbx HB HT HK
  go_wp2_with fail
  go_loopw [8, 9] (fun v8 v9 wr => ∃ i : Nat, v9 = .int .i64 (i : Int) ∧ i ≤ l.length ∧ wr.ownsRow w2.heap.size 3 1 v8 i (((l.take i).map (kindV t k)).map (Value.int .i64)) ∧ Keeps (fun _ => False) w2 wr) (fun _ v9 _ => l.length - (intOf v9).toNat)
  case atStart => exact ⟨0, rfl, Nat.zero_le _, World.ownsRow_nil _ _ _ _, Keeps.refl _ _⟩
  case round =>
    obtain ⟨i, rfl, hi, hown, hkr⟩ := hrel
    obtain ⟨ao3, cap3, hv3⟩ := ownsRow_form1 hown
    subst hv3
    have HO := Lib.hid hown; have HKR := Lib.hid hkr
    clear hown hkr
    by_cases hlt : i < l.length
    · obtain ⟨x, hx⟩ : ∃ x, l[i]? = some x := ⟨_, List.getElem?_eq_getElem hlt⟩
      obtain ⟨bl, ol, rfl, hcl⟩ := HCL.out (by rw [List.length_map]; omega)
      obtain ⟨u, hu, hiu⟩ := hcl i (facts x) (by rw [List.getElem?_map, hx]; rfl)
      have KD := (Keeps.refl (fun _ => False) wr).drew
      have KW := Lib.hid (HKR.out.trans KD)
      have HIU := Lib.hid (hiu.keeps0 KW.out)
      have hlu : bl < w2.heap.size := World.block_lt_of_cell? w2 _ hu
      have HGX := Lib.hid (HGD.out x (List.mem_of_getElem? hx))
      have HTr := Lib.hid (HT2.out.keeps0 KW.out)
      have HS1 := Lib.hid (show wr.drew.cell? ⟨bt, 0, none⟩ = some (.int .i64 t.n) ∧ wr.drew.cell? ⟨bt, 1, none⟩ = some (.slice ai t.init.length ci) ∧ wr.drew.cell? ⟨bt, 2, none⟩ = some (.slice ag t.goal.length cg) ∧ wr.drew.cell? ⟨bt, 3, none⟩ = some (.slice ao t.ops.length co) ∧ wr.drew.cell? ⟨bl, ol + i, none⟩ = some u from by
        obtain ⟨e0, e1, e2, e3⟩ := HB2.out.keeps0 KW.out
        exact ⟨e0, e1, e2, e3, KW.out.cell hu (fun h => h)⟩)
      have HTK := Lib.hid (show ((l.take (i + 1)).map (kindV t k)).map (Value.int .i64) = ((l.take i).map (kindV t k)).map (Value.int .i64) ++ [.int .i64 (kindV t k x)] by rw [take_getS hx]; simp)
      have i0' : (0 : Int) ≤ (i : Int) := by omega
      have i1' : (i : Int) < (l.length : Int) := by omega
      have HLW := Lib.hid (show ∀ j, (Value.slice ao3 i cap3).ownBlock = some j → w2.heap.size ≤ j from fun j hj => (World.ownsRow.lt HO.out j hj).1)
      have HNB := Lib.hid (show ¬ (Value.slice ao3 i cap3).ownBlock = some bt ∧ ¬ (Value.slice ao3 i cap3).ownBlock = some bl from ⟨fun e => by have := HLW.out _ e; omega, fun e => by have := HLW.out _ e; omega⟩)
      have hr2 := HKR.out.size
      clear hcl hu hiu hx KD
      go_upto_region 6 with fail
      go_region_held3 (fun w' => w'.cell? ⟨bt, 0, none⟩ = some (.int .i64 t.n) ∧ w'.cell? ⟨bt, 1, none⟩ = some (.slice ai t.init.length ci) ∧ w'.cell? ⟨bt, 2, none⟩ = some (.slice ag t.goal.length cg) ∧ w'.cell? ⟨bt, 3, none⟩ = some (.slice ao t.ops.length co) ∧ w'.cell? ⟨bl, ol + i, none⟩ = some u)
        (with_reducible (first | exact HS1.out | exact HS2.out | exact HS3.out | exact HS4.out))
        (first
          | (go_at_call 52; refine (valueOf_any _ _ _ _ _ t k x HTr.out OK.out HGX.out HIU.out).mono ?_; rintro en wq ⟨rfl, hkq⟩; have HKQ := Lib.hid hkq; have HS2 := Lib.hid (cells5L hkq HS1.out (fun h => h) (fun h => h)); have HS3 := Lib.hid (cells5L ((Keeps.refl (fun _ => False) wq).alloc (.cells #[.int .i64 (kindV t k x)] 3)) HS2.out (fun h => h) (fun h => h)); have HOQ := Lib.hid (((Keeps.refl (fun _ => False) wr).drew.trans hkq).ownsRow HO.out (fun _ _ h => h)); have hzq := hkq.size; clear hkq)
          | (refine step_append_src rfl _ _ _ rfl w2.heap.size 3 i0 _ 8 Tryz.underlying22 hi0 hz0 hz1 hz2 rfl (.slice ao3 i cap3) i (((l.take i).map (kindV t k)).map (Value.int .i64)) (by rfl) (HOQ.out.alloc _) (.slice (some ⟨wq.heap.size, 0, none⟩) 1 1) 1 [.int .i64 (kindV t k x)] (by rfl) (Sl.new1 wq _ _) (by rfl) (by simp [Value.oneCell']) (by unfold maxLen; omega) (by omega) (by rw [World.size_alloc]; exact Nat.le_succ_of_le (Nat.le_trans hr2 hzq)) ?_; rintro v3 wB hrow3 hgr3; obtain ⟨ao4, cap4, hv4⟩ := ownsRow_form1 hrow3; subst hv4; have KBG := (Keeps.refl (fun j => (Value.slice ao3 i cap3).ownBlock = some j) (wq.alloc (.cells #[.int .i64 (kindV t k x)] 3))).grown hgr3 (fun k hk => .inl hk); have HS4 := Lib.hid (cells5L KBG HS3.out HNB.out.1 HNB.out.2)))
      all_goals
        have HFI := Lib.hid (show wB.ownsRow w2.heap.size 3 1 (.slice ao4 (i + 1) cap4) (i + 1) (((l.take (i + 1)).map (kindV t k)).map (Value.int .i64)) ∧ Keeps (fun _ => False) w2 wB from
          ⟨by rw [HTK.out]; exact hrow3, ((KW.out.trans HKQ.out).trans ((Keeps.refl (fun _ => False) wq).alloc (.cells #[.int .i64 (kindV t k x)] 3))).trans' KBG (fun j hj => .inr (HLW.out j hj))⟩)
        clear hrow3 hgr3 KBG
        go_wp2_with fail
        go_roundw
        case rel => exact ⟨i + 1, by go_num, by omega, HFI.out⟩
        case measure => simp [intOf]; omega
    · have hkn : i = l.length := by omega
      subst hkn
      rw [List.take_of_length_le (Nat.le_refl _)] at HO
      have HLI := Lib.hid (HL2.out.keeps0 HKR.out)
      go_wp2_with fail
      refine bodyPost_ret (results_tmp2 rfl _ _ _) rfl ?_
      exact ⟨_, _, rfl, HLI.out, Ints.of_own (show wr.ownsRow w2.heap.size 3 1 (.slice ao3 l.length cap3) (l.map (kindV t k)).length ((l.map (kindV t k)).map (Value.int .i64)) by rw [List.length_map]; exact HO.out), K2.out.trans HKR.out⟩

end Go.Proofs.YtkjmgafnaddhkaaGreat
