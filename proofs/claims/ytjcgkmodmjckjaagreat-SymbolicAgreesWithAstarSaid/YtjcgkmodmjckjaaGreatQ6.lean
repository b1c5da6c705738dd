/- diagram.Store: Not. diagram.Store: Exists. diagram.Store: Cube. diagram.Store: Pick. diagram.Store: Count. strips.Contains, Update, Can, Next. diagram.NewStore; slices.Grow of nothing; slices.Concat at int. slices.Concat at int. symbolic's sets: And and Exists with what they cost at the empty set; a literal more. No condition beyond what each theorem says. -/
import Derived.Test.YtjcgkmodmjckjaaGreatQ5
import Derived.StillTailTactics
import Derived.Test.YtjcgkmodmjckjaaGreatQ3
import Derived.Sort.OwnSortedInts
import Derived.Lib.AppendZeros
import Derived.Test.YtjcgkmodmjckjaaGreatQ1

namespace Go.Proofs.YtjcgkmodmjckjaaGreat
open Go.RowKit

def negT (f : Nat → Bool) (m : Nat) : Bool := !f m
def notBl (kb rb fb mb sb : Nat) : List (Nat × Obj) :=
  [(kb, .cells #[.map (some mb)] 73 (0, 0)), (rb, .cells #[.pointer (some ⟨sb, 0, none⟩)] 57 (0, 0)), (fb, .cells #[.func (.func 97) #[] #[.pointer (some ⟨kb, 0, none⟩), .pointer (some ⟨rb, 0, none⟩), .pointer (some ⟨fb, 0, none⟩)]] 63 (0, 0))]
theorem not_cells {w : World} {T : (Nat → Bool) → Nat → Bool} {kb rb fb mb sb L : Nat} {N : List Dn} {G : Nat → Prop} {kn : Nat → Option Nat} (h : WkS T (notBl kb rb fb mb sb) mb sb L N G kn w) :
    w.cell? ⟨kb, 0, none⟩ = some (.map (some mb)) ∧ w.cell? ⟨rb, 0, none⟩ = some (.pointer (some ⟨sb, 0, none⟩)) ∧ w.cell? ⟨fb, 0, none⟩ = some (.func (.func 97) #[] #[.pointer (some ⟨kb, 0, none⟩), .pointer (some ⟨rb, 0, none⟩), .pointer (some ⟨fb, 0, none⟩)]) ∧ kb < w.heap.size ∧ rb < w.heap.size ∧ fb < w.heap.size := by
  have h1 := h.bx _ (show (kb, Obj.cells #[.map (some mb)] 73 (0, 0)) ∈ notBl kb rb fb mb sb by simp [notBl])
  have h2 := h.bx _ (show (rb, Obj.cells #[.pointer (some ⟨sb, 0, none⟩)] 57 (0, 0)) ∈ notBl kb rb fb mb sb by simp [notBl])
  have h3 := h.bx _ (show (fb, Obj.cells #[.func (.func 97) #[] #[.pointer (some ⟨kb, 0, none⟩), .pointer (some ⟨rb, 0, none⟩), .pointer (some ⟨fb, 0, none⟩)]] 63 (0, 0)) ∈ notBl kb rb fb mb sb by simp [notBl])
  exact ⟨(cell_of_blk h1).trans rfl, (cell_of_blk h2).trans rfl, (cell_of_blk h3).trans rfl, lt_of_heap h1, lt_of_heap h2, lt_of_heap h3⟩
theorem node_at {N : List Dn} {k : Nat} (h2 : ¬ k < 2) (hk : k < N.length + 2) : ∃ i n, k = i + 2 ∧ N[i]? = some n := ⟨k - 2, N[k - 2]'(by omega), by omega, List.getElem?_eq_getElem (by omega)⟩

set_option maxRecDepth 100000 in
set_option maxHeartbeats 4000000 in
theorem not1_in (L : Nat) (hL : L ≤ 24) (kb rb fb mb sb : Nat) : ∀ (k : Nat) (w : World) (N : List Dn) (G : Nat → Prop) (kn : Nat → Option Nat), WkS negT (notBl kb rb fb mb sb) mb sb L N G kn w → kn 0 = some 1 ∧ kn 1 = some 0 → k < N.length + 2 → low N + lowB L (lev L N k) ≤ 5800000000000 →
    Calls Tryz.prog 97 #[.int .i64 (k : Int), .pointer (some ⟨kb, 0, none⟩), .pointer (some ⟨rb, 0, none⟩), .pointer (some ⟨fb, 0, none⟩)] w fun e w' => ∃ (x : Nat) (N' : List Dn) (G' : Nat → Prop) (kn' : Nat → Option Nat), e = .returned (.int .i64 (x : Int)) ∧ DgPost L N N' x (lowB L (lev L N k)) (lev L N k) (negT (dv N k)) ∧ WkS negT (notBl kb rb fb mb sb) mb sb L N' G' kn' w' ∧ (kn' 0 = some 1 ∧ kn' 1 = some 0) ∧ Keeps (fun q => G q ∨ q = mb) w w' ∧ ∀ q, G' q → G q ∨ w.heap.size ≤ q := by
  intro k
  induction k using Nat.strongRecOn with
  | _ k ih =>
  intro w N G kn h h01 hk hbig
  have eg : ∀ args w, (callFunc 97 args).run Tryz.prog w = .ok (.enter 97 args) w := enters_of Tryz.func97 (by kernel_rfl) rfl
  have HH := Lib.hid h; have H01 := Lib.hid h01; have HIH := Lib.hid ih; have HBIG := Lib.hid hbig; have HKL := Lib.hid hk
  obtain ⟨c1, c2, c3, l1, l2, l3⟩ := not_cells h
  have hz : (zeroValue 3).run Tryz.prog w = .ok (.int .i64 0) w := by kernel_rfl
  cases hf : kn k with
  | some x =>
    have hlk := (h.mp.look_some (P := Tryz.prog) Tryz.underlying73 Tryz.underlying3 hf).1
    replace hlk : (Instr.lookup 73 (.map (some mb)) (.int .i64 (k : Int)) true).run Tryz.prog w = .ok (.tuple #[.int .i64 (x : Int), .bool true]) w := hlk
    have HP := Lib.hid (show DgPost L N N x (lowB L (lev L N k)) (lev L N k) (negT (dv N k)) from by
      obtain ⟨_, g2, g3, g4⟩ := h.ok k x hf
      exact .same h.dg.ok g2 g4 g3)
    clear h h01 ih hbig hk hf
    go_enter Tryz.func97, Tryz.ntmps97
    go_wp2_with fail
    go_ret
    exact ⟨x, N, G, kn, rfl, HP.out, HH.out, H01.out, Keeps.refl _ _, fun q h => .inl h⟩
  | none =>
    have hlk := (h.mp.look_none (P := Tryz.prog) Tryz.underlying73 Tryz.underlying3 hz hf).1
    have hk2 : ¬ k < 2 := fun h2 => by
      rcases (by omega : k = 0 ∨ k = 1) with rfl | rfl
      · rw [h01.1] at hf; cases hf
      · rw [h01.2] at hf; cases hf
    obtain ⟨i, n, rfl, hn⟩ := node_at hk2 hk
    replace hlk : (Instr.lookup 73 (.map (some mb)) (.int .i64 ((i : Int) + 2)) true).run Tryz.prog w = .ok (.tuple #[.int .i64 0, .bool false]) w := hlk
    obtain ⟨mf, mp, v, fm, pm, hm, hq, hbd⟩ := h.dg
    obtain ⟨g, cap, rfl, d0, d1, d2, hmx⟩ := hm.node hn
    have c4 : w.cell? ⟨sb, 1, none⟩ = some (.slice (some ⟨g, 0, none⟩) N.length cap) := (cell_of_blk hm.blk).trans rfl
    have l4 := lt_of_heap hm.blk
    have hi : i < N.length := (List.getElem?_eq_some_iff.1 hn).1
    have hmx' : N.length ≤ 9223372036854775807 := by unfold maxLen at hmx; omega
    have i1 : (((i + 2 : Nat) : Int) - 2) = (i : Int) := by omega
    have i2 : (0 : Int) ≤ (i : Int) := by omega
    have i3 : (i : Int) < (N.length : Int) := by omega
    have ok := h.dg.ok
    have HOK := Lib.hid ok
    have HLV := Lib.hid (show lev L N (i + 2) = n.lv ∧ n.lv < L ∧ n.lo < i + 2 ∧ n.hi < i + 2 ∧ n.lv < lev L N n.lo ∧ n.lv < lev L N n.hi from ⟨lev_node hn, ok.lv _ _ hn, ok.lo _ _ hn, ok.hi _ _ hn, ok.llo _ _ hn, ok.lhi _ _ hn⟩)
    have HNX := Lib.hid (show ∀ m, negT (dv N (i + 2)) m = if m.testBit n.lv then negT (dv N n.hi) m else negT (dv N n.lo) m from fun m => by
      unfold negT; rw [dv_node ok hn]; cases m.testBit n.lv <;> rfl)
    have KA := (Keeps.refl (fun _ => False) w).alloc (.cells #[.int .i64 (n.lv : Int), .int .i64 (n.lo : Int), .int .i64 (n.hi : Int)] 110)
    have HKA := Lib.hid KA
    have HH1 := Lib.hid (h.keeps0 KA)
    have HXB := Lib.hid (heap_alloc_new w (.cells #[.int .i64 (n.lv : Int), .int .i64 (n.lo : Int), .int .i64 (n.hi : Int)] 110))
    have HBX := Lib.hid (show ¬ G w.heap.size ∧ w.heap.size ≠ mb from ⟨fun h => by have := hbd _ h; omega, by have := h.mp.lt; omega⟩)
    clear h h01 ih hbig hk hf hk2 hm hq hbd hmx hn ok KA HH hz
    go_enter Tryz.func97, Tryz.ntmps97
    go_upto_region 4 with fail
    generalize (w.alloc (.cells #[.int .i64 (n.lv : Int), .int .i64 (n.lo : Int), .int .i64 (n.hi : Int)] 110)) = w1 at HKA HH1 HXB ⊢
    generalize w.heap.size = bx at HBX HXB ⊢
    clear c1 c2 c3 c4 l1 l2 l3 l4 d0 d1 d2 hlk i1 i2 i3 hmx' hi
    have KD := (Keeps.refl (fun _ => False) w1).drew
    have HH2 := Lib.hid (HH1.out.keeps0 KD); have HXB2 := Lib.hid (KD.heap HXB.out (fun h => h)); have HK2 := Lib.hid (HKA.out.trans KD)
    clear KD
    obtain ⟨c1, c2, c3, l1, l2, l3⟩ := not_cells HH1.out
    have x0 : w1.cell? ⟨bx, 0, none⟩ = some (.int .i64 (n.lv : Int)) := by simp [World.cell?, HXB.out]
    have x1 : w1.cell? ⟨bx, 1, none⟩ = some (.int .i64 (n.lo : Int)) := by simp [World.cell?, HXB.out]
    have x2 : w1.cell? ⟨bx, 2, none⟩ = some (.int .i64 (n.hi : Int)) := by simp [World.cell?, HXB.out]
    have xl := lt_of_heap HXB.out
    clear c1 c2 c3 x0 x1 x2 xl l1 l2 l3
    obtain ⟨_, c2, c3, _, _, _⟩ := not_cells HH2.out
    have x0 : w1.drew.cell? ⟨bx, 0, none⟩ = some (.int .i64 (n.lv : Int)) := (cell_of_blk HXB2.out).trans rfl
    have x1 : w1.drew.cell? ⟨bx, 1, none⟩ = some (.int .i64 (n.lo : Int)) := (cell_of_blk HXB2.out).trans rfl
    have x2 : w1.drew.cell? ⟨bx, 2, none⟩ = some (.int .i64 (n.hi : Int)) := (cell_of_blk HXB2.out).trans rfl
    have HC1 := Lib.hid (HIH.out n.lo HLV.out.2.2.1 w1.drew N G kn HH2.out H01.out (by have := HKL.out; have := HLV.out.2.2.1; omega) (by
      have h1 := HBIG.out; have h2 := lowB_anti (L := L) (show n.lv ≤ lev L N n.lo from Nat.le_of_lt HLV.out.2.2.2.2.1); rw [HLV.out.1] at h1; omega))
    have HLO := Lib.hid (show n.lo < N.length + 2 ∧ n.hi < N.length + 2 from by have h0 := HKL.out; have h1 := HLV.out.2.2.1; have h2 := HLV.out.2.2.2.1; exact ⟨by omega, by omega⟩)
    have HBG := Lib.hid (show low N + lowB L n.lv ≤ 5800000000000 from by have h1 := HBIG.out; rw [HLV.out.1] at h1; exact h1)
    go_region_held3 (fun w' => w'.cell? ⟨rb, 0, none⟩ = some (.pointer (some ⟨sb, 0, none⟩)) ∧ w'.cell? ⟨fb, 0, none⟩ = some (.func (.func 97) #[] #[.pointer (some ⟨kb, 0, none⟩), .pointer (some ⟨rb, 0, none⟩), .pointer (some ⟨fb, 0, none⟩)]) ∧ w'.cell? ⟨bx, 0, none⟩ = some (.int .i64 (n.lv : Int)) ∧ w'.cell? ⟨bx, 1, none⟩ = some (.int .i64 (n.lo : Int)) ∧ w'.cell? ⟨bx, 2, none⟩ = some (.int .i64 (n.hi : Int)))
      (go_keep)
      (first
        | (go_at_call 64; refine HC3.out.mono ?_; rintro en w7 ⟨x, N3, G3, rfl, hp3, hd3, hk3, hn3⟩; have HP3 := Lib.hid hp3; have HS3 := Lib.hid (HS2.out.op hp3 hd3 hk3 hn3); have HK3 := Lib.hid hk3; have HN3 := Lib.hid hn3; have HXB7 := Lib.hid (hk3.heap HXB6.out HBX2.out.1); obtain ⟨_, u1, u2, _, _, _⟩ := not_cells HS3.out; have u3 : w7.cell? ⟨bx, 0, none⟩ = some (.int .i64 (n.lv : Int)) := (cell_of_blk HXB7.out).trans rfl; have u4 : w7.cell? ⟨bx, 1, none⟩ = some (.int .i64 (n.lo : Int)) := (cell_of_blk HXB7.out).trans rfl; have u5 : w7.cell? ⟨bx, 2, none⟩ = some (.int .i64 (n.hi : Int)) := (cell_of_blk HXB7.out).trans rfl; clear hp3 hd3 hk3 hn3)
        | (go_at_call 97; refine HC2.out.mono ?_; rintro en w6 ⟨k2, N2, G2, kn2, rfl, hp2, hs2, h012, hk2, hn2⟩; rw [HP1.out.le.lev HLO.out.2] at hp2; have HP2 := Lib.hid (hp2.min (l' := n.lv + 1) HLV.out.2.2.2.2.2); have HS2 := Lib.hid hs2; have H012 := Lib.hid h012; have HK2' := Lib.hid hk2; have HN2 := Lib.hid hn2; have HXB6 := Lib.hid (hk2.heap HXB5.out (fun h => h.elim HBX1.out.1 HBX1.out.2)); have HBX2 := Lib.hid (show ¬ G2 bx ∧ bx ≠ mb from ⟨fun h => (HN2.out _ h).elim HBX1.out.1 (fun h => by have := lt_of_heap HXB5.out; omega), HBX1.out.2⟩); have HNE := Lib.hid (node_need HP1.out HP2.out HBG.out HLV.out.2.1); have HC3 := Lib.hid (node_any w6 sb L N2 G2 n.lv k1 k2 hs2.dg hL HLV.out.2.1 HNE.out.1 HNE.out.2.1 HNE.out.2.2.1 HNE.out.2.2.2.1 HNE.out.2.2.2.2); obtain ⟨_, s1, s2, _, _, _⟩ := not_cells hs2; have s3 : w6.cell? ⟨bx, 0, none⟩ = some (.int .i64 (n.lv : Int)) := (cell_of_blk HXB6.out).trans rfl; have s4 : w6.cell? ⟨bx, 1, none⟩ = some (.int .i64 (n.lo : Int)) := (cell_of_blk HXB6.out).trans rfl; have s5 : w6.cell? ⟨bx, 2, none⟩ = some (.int .i64 (n.hi : Int)) := (cell_of_blk HXB6.out).trans rfl; clear hp2 hs2 h012 hk2 hn2)
        | (go_at_call 97; refine HC1.out.mono ?_; rintro en w5 ⟨k1, N1, G1, kn1, rfl, hp1, hs1, h011, hk1, hn1⟩; have HP1 := Lib.hid (hp1.min (l' := n.lv + 1) HLV.out.2.2.2.2.1); have HS1 := Lib.hid hs1; have H011 := Lib.hid h011; have HK1 := Lib.hid hk1; have HN1 := Lib.hid hn1; have HXB5 := Lib.hid (hk1.heap HXB2.out (fun h => h.elim HBX.out.1 HBX.out.2)); have HBX1 := Lib.hid (show ¬ G1 bx ∧ bx ≠ mb from ⟨fun h => (HN1.out _ h).elim HBX.out.1 (fun h => by have := lt_of_heap HXB2.out; omega), HBX.out.2⟩); have HC2 := Lib.hid (HIH.out n.hi HLV.out.2.2.2.1 w5 N1 G1 kn1 hs1 h011 (by have h1 := HP1.out.le.len; have h2 := HLO.out.2; omega) (by rw [HP1.out.le.lev HLO.out.2]; have h1 := HBG.out; have h2 := HP1.out.cnt; have h3 := lowB_step HLV.out.2.1; have h4 := lowB_anti (L := L) (show n.lv + 1 ≤ lev L N n.hi from HLV.out.2.2.2.2.2); omega)); obtain ⟨_, t1, t2, _, _, _⟩ := not_cells hs1; have t3 : w5.cell? ⟨bx, 0, none⟩ = some (.int .i64 (n.lv : Int)) := (cell_of_blk HXB5.out).trans rfl; have t4 : w5.cell? ⟨bx, 1, none⟩ = some (.int .i64 (n.lo : Int)) := (cell_of_blk HXB5.out).trans rfl; have t5 : w5.cell? ⟨bx, 2, none⟩ = some (.int .i64 (n.hi : Int)) := (cell_of_blk HXB5.out).trans rfl; clear hp1 hs1 h011 hk1 hn1))
    all_goals
      obtain ⟨c1, _, _, l1, _, _⟩ := not_cells HS3.out
      obtain ⟨w8, hr8, hm8, hk8⟩ := HS3.out.mp.put (P := Tryz.prog) Tryz.underlying73 Tryz.underlying3 (i + 2) x
      replace hr8 : (Instr.mapUpdate 73 (.map (some mb)) (.int .i64 ((i : Int) + 2)) (.int .i64 (x : Int))).run Tryz.prog w7 = .ok () w8 := hr8
      have HM8 := Lib.hid hm8; have HK8 := Lib.hid hk8
      clear hm8 hk8
      go_wp2_with fail
      go_ret
      have e1 : dv N1 n.hi = dv N n.hi := funext fun m => HP1.out.le.dv HOK.out HLO.out.2 m
      have hfin := node_step HP1.out HP2.out HP3.out (S := negT (dv N (i + 2))) (fun m => by rw [e1]; exact HNX.out m) HLV.out.2.1
      obtain ⟨hch, hnw⟩ := wk_chain HK2.out HK1.out HN1.out HK2'.out HN2.out HK3.out HN3.out HK8.out
      refine ⟨x, N3, G3, putP kn2 (i + 2) x, rfl, by rw [HLV.out.1]; exact hfin, HS3.out.made HM8.out HK8.out HOK.out HKL.out HLV.out.1 hfin, ?_, hch, hnw⟩
      rw [putP_other _ _ (by omega), putP_other _ _ (by omega)]
      exact H012.out

/-- diagram.Store.Not. -/
theorem KnOk.start {L : Nat} {N : List Dn} : KnOk negT L N (putP (putP (fun _ => none) 0 1) 1 0) := fun k x h => by
  unfold putP at h
  by_cases h1 : k = 1
  · rw [if_pos h1] at h; cases h; subst h1
    exact ⟨by omega, by omega, by rw [lev_lt (by omega), lev_lt (by omega)]; exact Nat.le_refl _, fun m => by unfold negT; rw [dv_zero, dv_one]; rfl⟩
  · rw [if_neg h1] at h
    by_cases h0 : k = 0
    · rw [if_pos h0] at h; cases h; subst h0
      exact ⟨by omega, by omega, by rw [lev_lt (by omega), lev_lt (by omega)]; exact Nat.le_refl _, fun m => by unfold negT; rw [dv_zero, dv_one]; rfl⟩
    · rw [if_neg h0] at h; cases h

set_option maxRecDepth 100000 in
set_option maxHeartbeats 2000000 in
theorem not_any (w : World) (sb L : Nat) (N : List Dn) (G : Nat → Prop) (k : Nat) (h : Dg w sb L N G) (hL : L ≤ 24) (hk : k < N.length + 2) (hbig : low N + lowB L (lev L N k) ≤ 5800000000000) :
    Calls Tryz.prog 70 #[.pointer (some ⟨sb, 0, none⟩), .int .i64 (k : Int)] w (DgR w sb L N G (lowB L (lev L N k)) (lev L N k) (negT (dv N k))) := by
  have eg : ∀ args w, (callFunc 97 args).run Tryz.prog w = .ok (.enter 97 args) w := enters_of Tryz.func97 (by kernel_rfl) rfl
  have hsf : ∀ (a : Addr) (fn : Fn) (first cap : Array Value) (m : Mode) (w : World), (store a (.func fn first cap) m).run Tryz.prog w = stored Tryz.prog w a (.func fn first cap) m := fun a fn first cap m w => run_store Tryz.prog w a _ m rfl
  have hmf : ∀ (fn : Fn) (first cap : Array Value) (w : World), (Instr.makeFunc fn first cap).run Tryz.prog w = .ok (.func fn first cap) w := fun _ _ _ _ => rfl
  have hmm := @run_makeMap Tryz.prog
  have K1 := (Keeps.refl (fun _ => False) w).alloc (.cells #[.pointer (some ⟨sb, 0, none⟩)] 57)
  have HR1 := heap_alloc_new w (.cells #[.pointer (some ⟨sb, 0, none⟩)] 57)
  have hm2 := NMap.made (w.alloc (.cells #[.pointer (some ⟨sb, 0, none⟩)] 57)) natV
  have K2 := (Keeps.refl (fun _ => False) (w.alloc (.cells #[.pointer (some ⟨sb, 0, none⟩)] 57))).alloc (.map #[] 0)
  rw [World.size_alloc] at hm2
  obtain ⟨W3, hr3, hm3, hk3⟩ := hm2.put (P := Tryz.prog) Tryz.underlying73 Tryz.underlying3 0 1
  obtain ⟨W4, hr4, hm4, hk4⟩ := hm3.put (P := Tryz.prog) Tryz.underlying73 Tryz.underlying3 1 0
  replace hr3 : (Instr.mapUpdate 73 (.map (some (w.heap.size + 1))) (.int .i64 0) (.int .i64 1)).run Tryz.prog ((w.alloc (.cells #[.pointer (some ⟨sb, 0, none⟩)] 57)).alloc (.map #[] 0)) = .ok () W3 := hr3
  replace hr4 : (Instr.mapUpdate 73 (.map (some (w.heap.size + 1))) (.int .i64 1) (.int .i64 0)).run Tryz.prog W3 = .ok () W4 := hr4
  have k24 : Keeps (fun j => j = w.heap.size + 1) (w.alloc (.cells #[.pointer (some ⟨sb, 0, none⟩)] 57)) W4 := ((K2.mono (fun _ _ h => h.elim)).trans hk3).trans hk4
  have HR4 := k24.heap HR1 (by omega)
  have HK4 := Lib.hid (K1.trans' k24 (fun i hi => .inr (by rw [(show i = _ from hi)]; omega)))
  have hs4 : w.heap.size + 1 < W4.heap.size := hm4.lt
  have HM4 := Lib.hid hm4; have HRB := Lib.hid HR4; have HD := Lib.hid h; have HS4 := Lib.hid hs4
  clear K1 HR1 hm2 K2 hm3 hk3 hm4 hk4 k24 HR4 h
  go_enter Tryz.func70, Tryz.ntmps70
  go_upto_region 2 with fail
  have hb5 := heap_alloc_new W4 (.cells #[.map (some (w.heap.size + 1))] 73)
  have K5 := (Keeps.refl (fun _ => False) W4).alloc (.cells #[.map (some (w.heap.size + 1))] 73)
  have hb6 := heap_alloc_new (W4.alloc (.cells #[.map (some (w.heap.size + 1))] 73)) (.cells #[(.func (.func 97) #[] #[.pointer (some ⟨W4.heap.size, 0, none⟩), .pointer (some ⟨w.heap.size, 0, none⟩), .pointer (some ⟨W4.heap.size + 1, 0, none⟩)])] 63)
  have K6 := (Keeps.refl (fun _ => False) (W4.alloc (.cells #[.map (some (w.heap.size + 1))] 73))).alloc (.cells #[(.func (.func 97) #[] #[.pointer (some ⟨W4.heap.size, 0, none⟩), .pointer (some ⟨w.heap.size, 0, none⟩), .pointer (some ⟨W4.heap.size + 1, 0, none⟩)])] 63)
  rw [World.size_alloc] at hb6
  have K46 := K5.trans K6
  have HK7 := Lib.hid (HK4.out.trans K46)
  have HKB := Lib.hid (K6.heap hb5 (fun h => h)); have HRB7 := Lib.hid (K46.heap HRB.out (fun h => h)); have HM7 := Lib.hid (HM4.out.keeps K46 (fun h => h)); have HFB7 := Lib.hid hb6
  have HS7 := Lib.hid (show w.heap.size ≠ w.heap.size + 1 ∧ W4.heap.size ≠ w.heap.size + 1 ∧ W4.heap.size + 1 ≠ w.heap.size + 1 ∧ w.heap.size ≤ W4.heap.size from by have := HS4.out; omega)
  clear hb5 K5 K6 hb6 K46 HRB HM4 HK4 HS4 hr3 hr4
  go_upto_region 4 with fail
  generalize (W4.alloc (.cells #[.map (some (w.heap.size + 1))] 73)).alloc (.cells #[(.func (.func 97) #[] #[.pointer (some ⟨W4.heap.size, 0, none⟩), .pointer (some ⟨w.heap.size, 0, none⟩), .pointer (some ⟨W4.heap.size + 1, 0, none⟩)])] 63) = W7 at HK7 HKB HRB7 HM7 HFB7 ⊢
  have HWS := Lib.hid (show WkS negT (notBl W4.heap.size w.heap.size (W4.heap.size + 1) (w.heap.size + 1) sb) (w.heap.size + 1) sb L N G (putP (putP (fun _ => none) 0 1) 1 0) W7 from
    ⟨fun p hp => by
      simp only [notBl, List.mem_cons, List.not_mem_nil, or_false] at hp
      rcases hp with rfl | rfl | rfl
      · exact HKB.out
      · exact HRB7.out
      · exact HFB7.out, fun p hp => by
      have hbd := HD.out.bnd
      have hs := HS7.out
      simp only [notBl, List.mem_cons, List.not_mem_nil, or_false] at hp
      rcases hp with rfl | rfl | rfl
      · exact ⟨fun h => by have := hbd _ h; omega, hs.2.1⟩
      · exact ⟨fun h => by have := hbd _ h; omega, hs.1⟩
      · exact ⟨fun h => by have := hbd _ h; omega, hs.2.2.1⟩, HM7.out, fun h => by have := HD.out.bnd _ h; omega, HD.out.keeps0 HK7.out, KnOk.start⟩)
  have HC := Lib.hid (not1_in L hL W4.heap.size w.heap.size (W4.heap.size + 1) (w.heap.size + 1) sb k W7 N G _ HWS.out ⟨rfl, rfl⟩ hk hbig)
  obtain ⟨c1, c2, c3, l1, l2, l3⟩ := not_cells HWS.out
  clear hL hk hbig
  generalize W4.heap.size = z at HKB HFB7 HWS HC c1 c2 c3 l1 l2 l3 ⊢
  go_wp2_with fail
  refine HC.out.mono ?_; rintro e W8 ⟨x, N', G', kn', rfl, hp, hs, _, hk8, hn8⟩
  have HP := Lib.hid hp; have HS8 := Lib.hid hs.dg; have HK8 := Lib.hid hk8; have HN8 := Lib.hid hn8
  clear hp hs hk8 hn8
  go_wp2_with fail
  go_ret
  exact ⟨x, N', G', rfl, HP.out, HS8.out, (HK7.out.mono (fun _ _ h => h.elim)).trans' HK8.out (fun i hi => hi.elim .inl (fun e => .inr (by rw [e]; omega))), fun q hq => (HN8.out q hq).imp (fun h => h) (fun h => Nat.le_trans HK7.out.size h)⟩

end Go.Proofs.YtjcgkmodmjckjaaGreat

namespace Go.Proofs.YtjcgkmodmjckjaaGreat
open Go.RowKit

/-- For some value of the fact p. -/
def exT (p : Nat) (f : Nat → Bool) (m : Nat) : Bool := f (m ||| 2 ^ p) || f ((m ||| 2 ^ p) ^^^ 2 ^ p)
theorem bit_set (m p j : Nat) : (m ||| 2 ^ p).testBit j = if j = p then true else m.testBit j := by
  by_cases h : j = p
  · subst h; simp
  · rw [if_neg h, Nat.testBit_or, Nat.testBit_two_pow_of_ne (by omega), Bool.or_false]
theorem bit_clr (m p j : Nat) : ((m ||| 2 ^ p) ^^^ 2 ^ p).testBit j = if j = p then false else m.testBit j := by
  rw [Nat.testBit_xor, bit_set]
  by_cases h : j = p
  · subst h; simp
  · rw [if_neg h, if_neg h, Nat.testBit_two_pow_of_ne (by omega), Bool.xor_false]
theorem ex_above {L : Nat} {N : List Dn} (ok : DgOk L N) {k p : Nat} (hk : k < N.length + 2) (h : p < lev L N k) (m : Nat) : dv N k m = exT p (dv N k) m := by
  have h1 : dv N k (m ||| 2 ^ p) = dv N k m := dv_indep ok k hk (fun j hj _ => by rw [bit_set, if_neg (by omega)])
  have h2 : dv N k ((m ||| 2 ^ p) ^^^ 2 ^ p) = dv N k m := dv_indep ok k hk (fun j hj _ => by rw [bit_clr, if_neg (by omega)])
  unfold exT; rw [h1, h2, Bool.or_self]
theorem ex_at {L : Nat} {N : List Dn} (ok : DgOk L N) {i : Nat} {n : Dn} (hn : N[i]? = some n) (m : Nat) : (dv N n.lo m || dv N n.hi m) = exT n.lv (dv N (i + 2)) m := by
  have hi := (List.getElem?_eq_some_iff.1 hn).1
  have a1 := ok.lo _ _ hn; have a2 := ok.hi _ _ hn; have a3 := ok.llo _ _ hn; have a4 := ok.lhi _ _ hn
  unfold exT
  rw [dv_node ok hn, dv_node ok hn, bit_set, if_pos rfl, bit_clr, if_pos rfl]
  simp only [if_true, Bool.false_eq_true, if_false]
  have h1 : dv N n.hi (m ||| 2 ^ n.lv) = dv N n.hi m := dv_indep ok n.hi (by omega) (fun j hj _ => by rw [bit_set, if_neg (by omega)])
  have h2 : dv N n.lo ((m ||| 2 ^ n.lv) ^^^ 2 ^ n.lv) = dv N n.lo m := dv_indep ok n.lo (by omega) (fun j hj _ => by rw [bit_clr, if_neg (by omega)])
  rw [h1, h2, Bool.or_comm]
theorem ex_below {L : Nat} {N : List Dn} (ok : DgOk L N) {i p : Nat} {n : Dn} (hn : N[i]? = some n) (hp : n.lv ≠ p) (m : Nat) : exT p (dv N (i + 2)) m = if m.testBit n.lv then exT p (dv N n.hi) m else exT p (dv N n.lo) m := by
  unfold exT
  rw [dv_node ok hn, dv_node ok hn, bit_set, if_neg hp, bit_clr, if_neg hp]
  cases m.testBit n.lv <;> rfl
def exBl (rb lb kb fb mb sb p : Nat) : List (Nat × Obj) :=
  [(rb, .cells #[.pointer (some ⟨sb, 0, none⟩)] 57 (0, 0)), (lb, .cells #[.int .i64 (p : Int)] 3 (0, 0)), (kb, .cells #[.map (some mb)] 73 (0, 0)), (fb, .cells #[(.func (.func 119) #[] #[.pointer (some ⟨rb, 0, none⟩), .pointer (some ⟨lb, 0, none⟩), .pointer (some ⟨kb, 0, none⟩), .pointer (some ⟨fb, 0, none⟩)])] 63 (0, 0))]
theorem ex_cells {w : World} {T : (Nat → Bool) → Nat → Bool} {rb lb kb fb mb sb p L : Nat} {N : List Dn} {G : Nat → Prop} {kn : Nat → Option Nat} (h : WkS T (exBl rb lb kb fb mb sb p) mb sb L N G kn w) :
    w.cell? ⟨kb, 0, none⟩ = some (.map (some mb)) ∧ w.cell? ⟨rb, 0, none⟩ = some (.pointer (some ⟨sb, 0, none⟩)) ∧ w.cell? ⟨fb, 0, none⟩ = some (.func (.func 119) #[] #[.pointer (some ⟨rb, 0, none⟩), .pointer (some ⟨lb, 0, none⟩), .pointer (some ⟨kb, 0, none⟩), .pointer (some ⟨fb, 0, none⟩)]) ∧ w.cell? ⟨lb, 0, none⟩ = some (.int .i64 (p : Int)) ∧ (kb < w.heap.size ∧ rb < w.heap.size ∧ fb < w.heap.size ∧ lb < w.heap.size) := by
  have h1 := h.bx _ (show (kb, Obj.cells #[.map (some mb)] 73 (0, 0)) ∈ exBl rb lb kb fb mb sb p by simp [exBl])
  have h2 := h.bx _ (show (rb, Obj.cells #[.pointer (some ⟨sb, 0, none⟩)] 57 (0, 0)) ∈ exBl rb lb kb fb mb sb p by simp [exBl])
  have h3 := h.bx _ (show (fb, Obj.cells #[(.func (.func 119) #[] #[.pointer (some ⟨rb, 0, none⟩), .pointer (some ⟨lb, 0, none⟩), .pointer (some ⟨kb, 0, none⟩), .pointer (some ⟨fb, 0, none⟩)])] 63 (0, 0)) ∈ exBl rb lb kb fb mb sb p by simp [exBl])
  have h4 := h.bx _ (show (lb, Obj.cells #[.int .i64 (p : Int)] 3 (0, 0)) ∈ exBl rb lb kb fb mb sb p by simp [exBl])
  exact ⟨(cell_of_blk h1).trans rfl, (cell_of_blk h2).trans rfl, (cell_of_blk h3).trans rfl, (cell_of_blk h4).trans rfl, lt_of_heap h1, lt_of_heap h2, lt_of_heap h3, lt_of_heap h4⟩

set_option maxRecDepth 100000 in
set_option maxHeartbeats 4000000 in
theorem ex1_in (L p : Nat) (hL : L ≤ 24) (hpL : p < L) (rb lb kb fb mb sb : Nat) : ∀ (k : Nat) (w : World) (N : List Dn) (G : Nat → Prop) (kn : Nat → Option Nat), WkS (exT p) (exBl rb lb kb fb mb sb p) mb sb L N G kn w → k < N.length + 2 → low N + lowB L (lev L N k) ≤ 5800000000000 →
    Calls Tryz.prog 119 #[.int .i64 (k : Int), .pointer (some ⟨rb, 0, none⟩), .pointer (some ⟨lb, 0, none⟩), .pointer (some ⟨kb, 0, none⟩), .pointer (some ⟨fb, 0, none⟩)] w fun e w' => ∃ (x : Nat) (N' : List Dn) (G' : Nat → Prop) (kn' : Nat → Option Nat), e = .returned (.int .i64 (x : Int)) ∧ DgPost L N N' x (lowB L (lev L N k)) (lev L N k) (exT p (dv N k)) ∧ WkS (exT p) (exBl rb lb kb fb mb sb p) mb sb L N' G' kn' w' ∧ Keeps (fun q => G q ∨ q = mb) w w' ∧ ∀ q, G' q → G q ∨ w.heap.size ≤ q := by
  intro k
  induction k using Nat.strongRecOn with
  | _ k ih =>
  intro w N G kn h hk hbig
  have eg : ∀ args w, (callFunc 119 args).run Tryz.prog w = .ok (.enter 119 args) w := enters_of Tryz.func119 (by kernel_rfl) rfl
  have HH := Lib.hid h; have HIH := Lib.hid ih; have HBIG := Lib.hid hbig; have HKL := Lib.hid hk
  obtain ⟨c1, c2, c3, c5, l1, l2, l3, l5⟩ := ex_cells h
  have hlv : Hid (∃ mf mp v fm pm, DgM w sb mf mp L N v fm pm) := Lib.hid (by obtain ⟨mf, mp, v, fm, pm, hm, _⟩ := h.dg; exact ⟨mf, mp, v, fm, pm, hm⟩)
  have HLVC := Lib.hid (show Calls Tryz.prog 67 #[.pointer (some ⟨sb, 0, none⟩), .int .i64 (k : Int)] w fun e w' => e = .returned (.int .i64 (lev L N k : Int)) ∧ w' = w from by
    obtain ⟨mf, mp, v, fm, pm, hm⟩ := hlv.out
    exact level_any w sb mf mp L N v fm pm k hm hk)
  clear hlv
  by_cases hgt : p < lev L N k
  · have q1 : decide ((p : Int) < (lev L N k : Int)) = true := by simp; omega
    have q2 : decide (p < lev L N k) = true := by simp; omega
    have HP := Lib.hid (show DgPost L N N k (lowB L (lev L N k)) (lev L N k) (exT p (dv N k)) from .same h.dg.ok hk (fun m => ex_above h.dg.ok hk hgt m) (Nat.le_refl _))
    clear h ih hbig hk hgt
    go_enter Tryz.func119, Tryz.ntmps119
    go_wp2_with fail
    refine HLVC.out.mono ?_; rintro e w2 ⟨rfl, rfl⟩
    go_wp2_with fail
    go_ret
    exact ⟨k, N, G, kn, rfl, HP.out, HH.out, Keeps.refl _ _, fun q h => .inl h⟩
  have hk2 : ¬ k < 2 := fun h2 => by rw [lev_lt h2] at hgt; omega
  have q1 : decide ((p : Int) < (lev L N k : Int)) = false := by simp; omega
  have q2 : decide (p < lev L N k) = false := by simp; omega
  by_cases heq : lev L N k = p
  · have q3 : ((lev L N k : Int) == (p : Int)) = true := by simp [heq]
    have q4 : (lev L N k == p) = true := by simp [heq]
    obtain ⟨i, n, rfl, hn⟩ := node_at hk2 hk
    obtain ⟨mf, mp, v, fm, pm, hm, hq, hbd⟩ := h.dg
    obtain ⟨g, cap, rfl, d0, d1, d2, hmx⟩ := hm.node hn
    have c4 : w.cell? ⟨sb, 1, none⟩ = some (.slice (some ⟨g, 0, none⟩) N.length cap) := (cell_of_blk hm.blk).trans rfl
    have l4 := lt_of_heap hm.blk
    have hi : i < N.length := (List.getElem?_eq_some_iff.1 hn).1
    have hmx' : N.length ≤ 9223372036854775807 := by unfold maxLen at hmx; omega
    have i1 : (((i + 2 : Nat) : Int) - 2) = (i : Int) := by omega
    have i0 : IntKind.i64.wrap ((i : Int) + 2 - 2) = (i : Int) := by rw [show ((i : Int) + 2 - 2) = (i : Int) from by omega]; exact IntWalk.i64_in _ (by omega)
    have i4 : IntKind.i64.wrap (i : Int) = (i : Int) := IntWalk.i64_in _ (by omega)
    have i5 : IntKind.i64.wrap (((i + 2 : Nat) : Int) - 2) = (i : Int) := by rw [i1]; exact i4
    have i2 : (0 : Int) ≤ (i : Int) := by omega
    have i3 : (i : Int) < (N.length : Int) := by omega
    have ok := h.dg.ok
    have e0 : lev L N (i + 2) = n.lv := lev_node hn
    have b1 := ok.lo _ _ hn; have b2 := ok.hi _ _ hn; have b3 := ok.llo _ _ hn; have b4 := ok.lhi _ _ hn
    have KD := (Keeps.refl (fun _ => False) w).drew
    have HC := Lib.hid (or_any w.drew sb L N G n.lo n.hi (h.dg.keeps0 KD) hL (by omega) (by omega) (by have h1 : lowB L (min (lev L N n.lo) (lev L N n.hi)) ≤ lowB L (lev L N (i + 2)) := lowB_anti (L := L) (by omega); omega))
    have HKD := Lib.hid KD
    have HCV := Lib.hid (show lowB L (min (lev L N n.lo) (lev L N n.hi)) ≤ lowB L (lev L N (i + 2)) ∧ lev L N (i + 2) ≤ min (lev L N n.lo) (lev L N n.hi) ∧ ∀ m, (dv N n.lo m || dv N n.hi m) = exT p (dv N (i + 2)) m from ⟨lowB_anti (L := L) (by omega), by omega, fun m => by rw [ex_at ok hn, ← e0, heq]⟩)
    clear h ih hbig hm hq hbd hmx hn ok e0 b1 b2 b3 b4 KD hk hgt heq hk2 c1 c3 l1 l3 HKL HBIG HIH
    go_enter Tryz.func119, Tryz.ntmps119
    go_wp2_with fail
    refine HLVC.out.mono ?_; rintro e w2 ⟨rfl, hw⟩
    rw [hw]; clear hw w2
    go_upto_region 5 with fail
    have KD2 := (Keeps.refl (fun _ => False) w).drew
    have e1 := KD2.cell c2 (fun h => h); have e2 := KD2.cell c4 (fun h => h); have e3 := KD2.cell d1 (fun h => h); have e4 := KD2.cell d2 (fun h => h)
    clear KD2
    go_still_tail 19, (by kernel_rfl)
    change wpList _ _ _ _ _ w.drew
    generalize w.drew = wd2 at HC HKD e1 e2 e3 e4 ⊢
    clear c2 c4 d0 d1 d2
    go_wp2_with fail
    refine HC.out.mono ?_; rintro en w5 ⟨x, N', G', rfl, hp, hd, hk, hn⟩
    have HP := Lib.hid (hp.weak HCV.out.1 HCV.out.2.1 HCV.out.2.2)
    have HS5 := Lib.hid ((HH.out.keeps0 HKD.out).op hp hd hk hn)
    have HK5 := Lib.hid hk; have HN5 := Lib.hid hn
    clear hp hd hk hn
    go_wp2_with fail
    go_ret
    exact ⟨x, N', G', kn, rfl, HP.out, HS5.out, (HKD.out.mono (fun _ _ h => h.elim)).trans (HK5.out.mono (fun _ _ h => .inl h)), fun q h => (HN5.out q h).imp (fun h => h) (fun h => Nat.le_trans HKD.out.size h)⟩
  have q3 : ((lev L N k : Int) == (p : Int)) = false := by simp; omega
  have q4 : (lev L N k == p) = false := by simp; omega
  have hz : (zeroValue 3).run Tryz.prog w = .ok (.int .i64 0) w := by kernel_rfl
  cases hf : kn k with
  | some x =>
    have hlk := (h.mp.look_some (P := Tryz.prog) Tryz.underlying73 Tryz.underlying3 hf).1
    replace hlk : (Instr.lookup 73 (.map (some mb)) (.int .i64 (k : Int)) true).run Tryz.prog w = .ok (.tuple #[.int .i64 (x : Int), .bool true]) w := hlk
    have HP := Lib.hid (show DgPost L N N x (lowB L (lev L N k)) (lev L N k) (exT p (dv N k)) from by
      obtain ⟨_, g2, g3, g4⟩ := h.ok k x hf
      exact .same h.dg.ok g2 g4 g3)
    clear h ih hbig hk hf hk2 hgt heq
    go_enter Tryz.func119, Tryz.ntmps119
    go_wp2_with fail
    refine HLVC.out.mono ?_; rintro e w2 ⟨rfl, hw⟩
    rw [hw]; clear hw w2
    go_wp2_with fail
    go_ret
    exact ⟨x, N, G, kn, rfl, HP.out, HH.out, Keeps.refl _ _, fun q h => .inl h⟩
  | none =>
    have hlk := (h.mp.look_none (P := Tryz.prog) Tryz.underlying73 Tryz.underlying3 hz hf).1
    go_enter Tryz.func119, Tryz.ntmps119
    go_wp2_with fail
    refine HLVC.out.mono ?_; rintro e w2 ⟨rfl, hw⟩
    rw [hw]; clear hw w2
    have HLT := Lib.hid (show lev L N k < p from by omega)
    go_upto_region 6 with fail
    clear q1 q2 q3 q4 HLVC hgt heq
    obtain ⟨i, n, rfl, hn⟩ := node_at hk2 hk
    replace hlk : (Instr.lookup 73 (.map (some mb)) (.int .i64 ((i : Int) + 2)) true).run Tryz.prog w = .ok (.tuple #[.int .i64 0, .bool false]) w := hlk
    obtain ⟨mf, mp, v, fm, pm, hm, hq, hbd⟩ := h.dg
    obtain ⟨g, cap, rfl, d0, d1, d2, hmx⟩ := hm.node hn
    have c4 : w.cell? ⟨sb, 1, none⟩ = some (.slice (some ⟨g, 0, none⟩) N.length cap) := (cell_of_blk hm.blk).trans rfl
    have l4 := lt_of_heap hm.blk
    have hi : i < N.length := (List.getElem?_eq_some_iff.1 hn).1
    have hmx' : N.length ≤ 9223372036854775807 := by unfold maxLen at hmx; omega
    have i1 : (((i + 2 : Nat) : Int) - 2) = (i : Int) := by omega
    have i2 : (0 : Int) ≤ (i : Int) := by omega
    have i3 : (i : Int) < (N.length : Int) := by omega
    have ok := h.dg.ok
    have HOK := Lib.hid ok
    have HLV := Lib.hid (show lev L N (i + 2) = n.lv ∧ n.lv < L ∧ n.lo < i + 2 ∧ n.hi < i + 2 ∧ n.lv < lev L N n.lo ∧ n.lv < lev L N n.hi from ⟨lev_node hn, ok.lv _ _ hn, ok.lo _ _ hn, ok.hi _ _ hn, ok.llo _ _ hn, ok.lhi _ _ hn⟩)
    have HNX := Lib.hid (show ∀ m, exT p (dv N (i + 2)) m = if m.testBit n.lv then exT p (dv N n.hi) m else exT p (dv N n.lo) m from fun m => ex_below ok hn (by have h1 := HLT.out; rw [lev_node hn] at h1; omega) m)
    have KA := (Keeps.refl (fun _ => False) w).alloc (.cells #[.int .i64 (n.lv : Int), .int .i64 (n.lo : Int), .int .i64 (n.hi : Int)] 110)
    have HKA := Lib.hid KA
    have HH1 := Lib.hid (h.keeps0 KA)
    have HXB := Lib.hid (heap_alloc_new w (.cells #[.int .i64 (n.lv : Int), .int .i64 (n.lo : Int), .int .i64 (n.hi : Int)] 110))
    have HBX := Lib.hid (show ¬ G w.heap.size ∧ w.heap.size ≠ mb from ⟨fun h => by have := hbd _ h; omega, by have := h.mp.lt; omega⟩)
    clear h ih hbig hk hf hk2 hm hq hbd hmx hn ok KA HH hz
    go_upto_region 9 with fail
    generalize (w.alloc (.cells #[.int .i64 (n.lv : Int), .int .i64 (n.lo : Int), .int .i64 (n.hi : Int)] 110)) = w1 at HKA HH1 HXB ⊢
    generalize w.heap.size = bx at HBX HXB ⊢
    clear c1 c2 c3 c4 l1 l2 l3 l4 d0 d1 d2 hlk i1 i2 i3 hmx' hi
    have KD := (Keeps.refl (fun _ => False) w1).drew
    have HH2 := Lib.hid (HH1.out.keeps0 KD); have HXB2 := Lib.hid (KD.heap HXB.out (fun h => h)); have HK2 := Lib.hid (HKA.out.trans KD)
    clear KD
    obtain ⟨c1, c2, c3, _, l1, l2, l3, _⟩ := ex_cells HH1.out
    have x0 : w1.cell? ⟨bx, 0, none⟩ = some (.int .i64 (n.lv : Int)) := by simp [World.cell?, HXB.out]
    have x1 : w1.cell? ⟨bx, 1, none⟩ = some (.int .i64 (n.lo : Int)) := by simp [World.cell?, HXB.out]
    have x2 : w1.cell? ⟨bx, 2, none⟩ = some (.int .i64 (n.hi : Int)) := by simp [World.cell?, HXB.out]
    have xl := lt_of_heap HXB.out
    clear c1 c2 c3 x0 x1 x2 xl l1 l2 l3
    obtain ⟨_, c2, c3, _, _, _, _, _⟩ := ex_cells HH2.out
    have x0 : w1.drew.cell? ⟨bx, 0, none⟩ = some (.int .i64 (n.lv : Int)) := (cell_of_blk HXB2.out).trans rfl
    have x1 : w1.drew.cell? ⟨bx, 1, none⟩ = some (.int .i64 (n.lo : Int)) := (cell_of_blk HXB2.out).trans rfl
    have x2 : w1.drew.cell? ⟨bx, 2, none⟩ = some (.int .i64 (n.hi : Int)) := (cell_of_blk HXB2.out).trans rfl
    have HC1 := Lib.hid (HIH.out n.lo HLV.out.2.2.1 w1.drew N G kn HH2.out (by have := HKL.out; have := HLV.out.2.2.1; omega) (by
      have h1 := HBIG.out; have h2 := lowB_anti (L := L) (show n.lv ≤ lev L N n.lo from Nat.le_of_lt HLV.out.2.2.2.2.1); rw [HLV.out.1] at h1; omega))
    have HLO := Lib.hid (show n.lo < N.length + 2 ∧ n.hi < N.length + 2 from by have h0 := HKL.out; have h1 := HLV.out.2.2.1; have h2 := HLV.out.2.2.2.1; exact ⟨by omega, by omega⟩)
    have HBG := Lib.hid (show low N + lowB L n.lv ≤ 5800000000000 from by have h1 := HBIG.out; rw [HLV.out.1] at h1; exact h1)
    go_region_held3 (fun w' => w'.cell? ⟨rb, 0, none⟩ = some (.pointer (some ⟨sb, 0, none⟩)) ∧ w'.cell? ⟨fb, 0, none⟩ = some (.func (.func 119) #[] #[.pointer (some ⟨rb, 0, none⟩), .pointer (some ⟨lb, 0, none⟩), .pointer (some ⟨kb, 0, none⟩), .pointer (some ⟨fb, 0, none⟩)]) ∧ w'.cell? ⟨bx, 0, none⟩ = some (.int .i64 (n.lv : Int)) ∧ w'.cell? ⟨bx, 1, none⟩ = some (.int .i64 (n.lo : Int)) ∧ w'.cell? ⟨bx, 2, none⟩ = some (.int .i64 (n.hi : Int)))
      (go_keep)
      (first
        | (go_at_call 64; refine HC3.out.mono ?_; rintro en w7 ⟨x, N3, G3, rfl, hp3, hd3, hk3, hn3⟩; have HP3 := Lib.hid hp3; have HS3 := Lib.hid (HS2.out.op hp3 hd3 hk3 hn3); have HK3 := Lib.hid hk3; have HN3 := Lib.hid hn3; have HXB7 := Lib.hid (hk3.heap HXB6.out HBX2.out.1); obtain ⟨_, u1, u2, _, _, _, _, _⟩ := ex_cells HS3.out; have u3 : w7.cell? ⟨bx, 0, none⟩ = some (.int .i64 (n.lv : Int)) := (cell_of_blk HXB7.out).trans rfl; have u4 : w7.cell? ⟨bx, 1, none⟩ = some (.int .i64 (n.lo : Int)) := (cell_of_blk HXB7.out).trans rfl; have u5 : w7.cell? ⟨bx, 2, none⟩ = some (.int .i64 (n.hi : Int)) := (cell_of_blk HXB7.out).trans rfl; clear hp3 hd3 hk3 hn3)
        | (go_at_call 119; refine HC2.out.mono ?_; rintro en w6 ⟨k2, N2, G2, kn2, rfl, hp2, hs2, hk2, hn2⟩; rw [HP1.out.le.lev HLO.out.2] at hp2; have HP2 := Lib.hid (hp2.min (l' := n.lv + 1) HLV.out.2.2.2.2.2); have HS2 := Lib.hid hs2; have HK2' := Lib.hid hk2; have HN2 := Lib.hid hn2; have HXB6 := Lib.hid (hk2.heap HXB5.out (fun h => h.elim HBX1.out.1 HBX1.out.2)); have HBX2 := Lib.hid (show ¬ G2 bx ∧ bx ≠ mb from ⟨fun h => (HN2.out _ h).elim HBX1.out.1 (fun h => by have := lt_of_heap HXB5.out; omega), HBX1.out.2⟩); have HNE := Lib.hid (node_need HP1.out HP2.out HBG.out HLV.out.2.1); have HC3 := Lib.hid (node_any w6 sb L N2 G2 n.lv k1 k2 hs2.dg hL HLV.out.2.1 HNE.out.1 HNE.out.2.1 HNE.out.2.2.1 HNE.out.2.2.2.1 HNE.out.2.2.2.2); obtain ⟨_, s1, s2, _, _, _, _, _⟩ := ex_cells hs2; have s3 : w6.cell? ⟨bx, 0, none⟩ = some (.int .i64 (n.lv : Int)) := (cell_of_blk HXB6.out).trans rfl; have s4 : w6.cell? ⟨bx, 1, none⟩ = some (.int .i64 (n.lo : Int)) := (cell_of_blk HXB6.out).trans rfl; have s5 : w6.cell? ⟨bx, 2, none⟩ = some (.int .i64 (n.hi : Int)) := (cell_of_blk HXB6.out).trans rfl; clear hp2 hs2 hk2 hn2)
        | (go_at_call 119; refine HC1.out.mono ?_; rintro en w5 ⟨k1, N1, G1, kn1, rfl, hp1, hs1, hk1, hn1⟩; have HP1 := Lib.hid (hp1.min (l' := n.lv + 1) HLV.out.2.2.2.2.1); have HS1 := Lib.hid hs1; have HK1 := Lib.hid hk1; have HN1 := Lib.hid hn1; have HXB5 := Lib.hid (hk1.heap HXB2.out (fun h => h.elim HBX.out.1 HBX.out.2)); have HBX1 := Lib.hid (show ¬ G1 bx ∧ bx ≠ mb from ⟨fun h => (HN1.out _ h).elim HBX.out.1 (fun h => by have := lt_of_heap HXB2.out; omega), HBX.out.2⟩); have HC2 := Lib.hid (HIH.out n.hi HLV.out.2.2.2.1 w5 N1 G1 kn1 hs1 (by have h1 := HP1.out.le.len; have h2 := HLO.out.2; omega) (by rw [HP1.out.le.lev HLO.out.2]; have h1 := HBG.out; have h2 := HP1.out.cnt; have h3 := lowB_step HLV.out.2.1; have h4 := lowB_anti (L := L) (show n.lv + 1 ≤ lev L N n.hi from HLV.out.2.2.2.2.2); omega)); obtain ⟨_, t1, t2, _, _, _, _, _⟩ := ex_cells hs1; have t3 : w5.cell? ⟨bx, 0, none⟩ = some (.int .i64 (n.lv : Int)) := (cell_of_blk HXB5.out).trans rfl; have t4 : w5.cell? ⟨bx, 1, none⟩ = some (.int .i64 (n.lo : Int)) := (cell_of_blk HXB5.out).trans rfl; have t5 : w5.cell? ⟨bx, 2, none⟩ = some (.int .i64 (n.hi : Int)) := (cell_of_blk HXB5.out).trans rfl; clear hp1 hs1 hk1 hn1))
    all_goals
      obtain ⟨c1, _, _, _, l1, _, _, _⟩ := ex_cells HS3.out
      obtain ⟨w8, hr8, hm8, hk8⟩ := HS3.out.mp.put (P := Tryz.prog) Tryz.underlying73 Tryz.underlying3 (i + 2) x
      replace hr8 : (Instr.mapUpdate 73 (.map (some mb)) (.int .i64 ((i : Int) + 2)) (.int .i64 (x : Int))).run Tryz.prog w7 = .ok () w8 := hr8
      have HM8 := Lib.hid hm8; have HK8 := Lib.hid hk8
      clear hm8 hk8
      go_wp2_with fail
      go_ret
      have e1 : dv N1 n.hi = dv N n.hi := funext fun m => HP1.out.le.dv HOK.out HLO.out.2 m
      have hfin := node_step HP1.out HP2.out HP3.out (S := exT p (dv N (i + 2))) (fun m => by rw [e1]; exact HNX.out m) HLV.out.2.1
      obtain ⟨hch, hnw⟩ := wk_chain HK2.out HK1.out HN1.out HK2'.out HN2.out HK3.out HN3.out HK8.out
      exact ⟨x, N3, G3, putP kn2 (i + 2) x, rfl, by rw [HLV.out.1]; exact hfin, HS3.out.made HM8.out HK8.out HOK.out HKL.out HLV.out.1 hfin, hch, hnw⟩

set_option maxRecDepth 100000 in
set_option maxHeartbeats 2000000 in
theorem exists_any (w : World) (sb L p : Nat) (N : List Dn) (G : Nat → Prop) (k : Nat) (h : Dg w sb L N G) (hL : L ≤ 24) (hp : p < L) (hk : k < N.length + 2) (hbig : low N + lowB L (lev L N k) ≤ 5800000000000) :
    Calls Tryz.prog 96 #[.pointer (some ⟨sb, 0, none⟩), .int .i64 (k : Int), .int .i64 (p : Int)] w (DgR w sb L N G (lowB L (lev L N k)) (lev L N k) (exT p (dv N k))) := by
  have eg : ∀ args w, (callFunc 119 args).run Tryz.prog w = .ok (.enter 119 args) w := enters_of Tryz.func119 (by kernel_rfl) rfl
  have hsf : ∀ (a : Addr) (fn : Fn) (first cap : Array Value) (m : Mode) (w : World), (store a (.func fn first cap) m).run Tryz.prog w = stored Tryz.prog w a (.func fn first cap) m := fun a fn first cap m w => run_store Tryz.prog w a _ m rfl
  have hmf : ∀ (fn : Fn) (first cap : Array Value) (w : World), (Instr.makeFunc fn first cap).run Tryz.prog w = .ok (.func fn first cap) w := fun _ _ _ _ => rfl
  have hmm := @run_makeMap Tryz.prog
  have K1 := (Keeps.refl (fun _ => False) w).alloc (.cells #[.pointer (some ⟨sb, 0, none⟩)] 57)
  have K2 := (Keeps.refl (fun _ => False) (w.alloc (.cells #[.pointer (some ⟨sb, 0, none⟩)] 57))).alloc (.cells #[.int .i64 (p : Int)] 3)
  have K3 := (Keeps.refl (fun _ => False) ((w.alloc (.cells #[.pointer (some ⟨sb, 0, none⟩)] 57)).alloc (.cells #[.int .i64 (p : Int)] 3))).alloc (.map #[] 0)
  have K4 := (Keeps.refl (fun _ => False) (((w.alloc (.cells #[.pointer (some ⟨sb, 0, none⟩)] 57)).alloc (.cells #[.int .i64 (p : Int)] 3)).alloc (.map #[] 0))).alloc (.cells #[.map (some (w.heap.size + 1 + 1))] 73)
  have K5 := (Keeps.refl (fun _ => False) ((((w.alloc (.cells #[.pointer (some ⟨sb, 0, none⟩)] 57)).alloc (.cells #[.int .i64 (p : Int)] 3)).alloc (.map #[] 0)).alloc (.cells #[.map (some (w.heap.size + 1 + 1))] 73))).alloc (.cells #[(.func (.func 119) #[] #[.pointer (some ⟨w.heap.size, 0, none⟩), .pointer (some ⟨w.heap.size + 1, 0, none⟩), .pointer (some ⟨w.heap.size + 1 + 1 + 1, 0, none⟩), .pointer (some ⟨w.heap.size + 1 + 1 + 1 + 1, 0, none⟩)])] 63)
  have b1 := (K2.trans (K3.trans (K4.trans K5))).heap (heap_alloc_new w (.cells #[.pointer (some ⟨sb, 0, none⟩)] 57)) (fun h => h)
  have b2 := (K3.trans (K4.trans K5)).heap (heap_alloc_new (w.alloc (.cells #[.pointer (some ⟨sb, 0, none⟩)] 57)) (.cells #[.int .i64 (p : Int)] 3)) (fun h => h)
  have m3 := (NMap.made ((w.alloc (.cells #[.pointer (some ⟨sb, 0, none⟩)] 57)).alloc (.cells #[.int .i64 (p : Int)] 3)) natV).keeps (K4.trans K5) (fun h => h)
  have b4 := K5.heap (heap_alloc_new (((w.alloc (.cells #[.pointer (some ⟨sb, 0, none⟩)] 57)).alloc (.cells #[.int .i64 (p : Int)] 3)).alloc (.map #[] 0)) (.cells #[.map (some (w.heap.size + 1 + 1))] 73)) (fun h => h)
  have b5 := heap_alloc_new ((((w.alloc (.cells #[.pointer (some ⟨sb, 0, none⟩)] 57)).alloc (.cells #[.int .i64 (p : Int)] 3)).alloc (.map #[] 0)).alloc (.cells #[.map (some (w.heap.size + 1 + 1))] 73)) (.cells #[(.func (.func 119) #[] #[.pointer (some ⟨w.heap.size, 0, none⟩), .pointer (some ⟨w.heap.size + 1, 0, none⟩), .pointer (some ⟨w.heap.size + 1 + 1 + 1, 0, none⟩), .pointer (some ⟨w.heap.size + 1 + 1 + 1 + 1, 0, none⟩)])] 63)
  simp only [World.size_alloc] at b2 m3 b4 b5
  have HK := Lib.hid (K1.trans (K2.trans (K3.trans (K4.trans K5)))); have B1 := Lib.hid b1; have B2 := Lib.hid b2; have M3 := Lib.hid m3; have B4 := Lib.hid b4; have B5 := Lib.hid b5; have HD := Lib.hid h
  clear K1 K2 K3 K4 K5 b1 b2 m3 b4 b5 h
  go_enter Tryz.func96, Tryz.ntmps96
  go_upto_region 4 with fail
  generalize (((((w.alloc (.cells #[.pointer (some ⟨sb, 0, none⟩)] 57)).alloc (.cells #[.int .i64 (p : Int)] 3)).alloc (.map #[] 0)).alloc (.cells #[.map (some (w.heap.size + 1 + 1))] 73)).alloc (.cells #[(.func (.func 119) #[] #[.pointer (some ⟨w.heap.size, 0, none⟩), .pointer (some ⟨w.heap.size + 1, 0, none⟩), .pointer (some ⟨w.heap.size + 1 + 1 + 1, 0, none⟩), .pointer (some ⟨w.heap.size + 1 + 1 + 1 + 1, 0, none⟩)])] 63)) = W7 at HK B1 B2 M3 B4 B5 ⊢
  have HWS := Lib.hid (show WkS (exT p) (exBl w.heap.size (w.heap.size + 1) (w.heap.size + 1 + 1 + 1) (w.heap.size + 1 + 1 + 1 + 1) (w.heap.size + 1 + 1) sb p) (w.heap.size + 1 + 1) sb L N G (fun _ => none) W7 from
    ⟨fun q hq => by
      simp only [exBl, List.mem_cons, List.not_mem_nil, or_false] at hq
      rcases hq with rfl | rfl | rfl | rfl
      · exact B1.out
      · exact B2.out
      · exact B4.out
      · exact B5.out, fun q hq => by
      have hbd := HD.out.bnd
      simp only [exBl, List.mem_cons, List.not_mem_nil, or_false] at hq
      rcases hq with rfl | rfl | rfl | rfl <;> exact ⟨fun h => by have := hbd _ h; omega, by simp only; omega⟩, M3.out, fun h => by have := HD.out.bnd _ h; omega, HD.out.keeps0 HK.out, fun k x h => by cases h⟩)
  have HC := Lib.hid (ex1_in L p hL hp w.heap.size (w.heap.size + 1) (w.heap.size + 1 + 1 + 1) (w.heap.size + 1 + 1 + 1 + 1) (w.heap.size + 1 + 1) sb k W7 N G _ HWS.out hk hbig)
  obtain ⟨c1, c2, c3, c5, l1, l2, l3, l5⟩ := ex_cells HWS.out
  have HZ := Lib.hid (show w.heap.size ≤ w.heap.size from Nat.le_refl _)
  clear hL hk hbig hp
  go_wp2_with fail
  refine HC.out.mono ?_; rintro e W8 ⟨x, N', G', kn', rfl, hp, hs, hk8, hn8⟩
  have HP := Lib.hid hp; have HS8 := Lib.hid hs.dg; have HK8 := Lib.hid hk8; have HN8 := Lib.hid hn8
  clear hp hs hk8 hn8
  go_wp2_with fail
  go_ret
  exact ⟨x, N', G', rfl, HP.out, HS8.out, (HK.out.mono (fun _ _ h => h.elim)).trans' HK8.out (fun i hi => hi.elim .inl (fun e => .inr (by rw [e]; omega))), fun q hq => (HN8.out q hq).imp (fun h => h) (fun h => Nat.le_trans HK.out.size h)⟩

end Go.Proofs.YtjcgkmodmjckjaaGreat

namespace Go.Proofs.YtjcgkmodmjckjaaGreat
open Go.RowKit

/-- The set m is s from the fact j on. -/
def cubeS (L s j m : Nat) : Bool := (List.range L).all fun i => decide (i < j) || (m.testBit i == s.testBit i)
theorem cubeS_top (L s m : Nat) : cubeS L s L m = true := by
  unfold cubeS
  rw [List.all_eq_true]
  intro i hi
  have := List.mem_range.1 hi
  simp [this]
theorem cubeS_step {L s i m : Nat} (h : i < L) : cubeS L s i m = ((m.testBit i == s.testBit i) && cubeS L s (i + 1) m) := by
  rw [Bool.eq_iff_iff]
  unfold cubeS
  simp only [Bool.and_eq_true, List.all_eq_true, List.mem_range, Bool.or_eq_true, decide_eq_true_eq]
  constructor
  · intro h1
    exact ⟨by have := h1 i h; simpa using this, fun x hx => (h1 x hx).imp (fun h => by omega) (fun h => h)⟩
  · rintro ⟨h1, h2⟩ x hx
    by_cases hxi : x = i
    · subst hxi; exact .inr h1
    · rcases h2 x hx with h3 | h3
      · exact .inl (by omega)
      · exact .inr h3
theorem DgPost.trans {L : Nat} {N N1 N2 : List Dn} {k1 k2 b1 b2 l1 l2 : Nat} {S1 S2 : Nat → Bool} (h : DgPost L N N1 k1 b1 l1 S1) (g : DgPost L N1 N2 k2 b2 l2 S2) : DgPost L N N2 k2 (b1 + b2) l2 S2 :=
  ⟨h.le.trans g.le, g.ok, g.lt, g.val, g.lev, by have := h.cnt; have := g.cnt; omega⟩
theorem nb_le (l : Nat) : nb l ≤ 1 := by unfold nb; split <;> omega
theorem bit_and_one {x k : Nat} : (bits .and .u32 ((x : Int) / 2 ^ k) 1 == 1) = x.testBit k := by
  rw [and_one]
  cases h : x.testBit k <;> simp

set_option maxRecDepth 100000 in
set_option maxHeartbeats 2000000 in
theorem cube_any (w : World) (sb L s : Nat) (N : List Dn) (G : Nat → Prop) (h : Dg w sb L N G) (hL : L ≤ 24) (hbig : low N + L ≤ 5800000000000) :
    Calls Tryz.prog 25 #[.pointer (some ⟨sb, 0, none⟩), .int .u32 (s : Int)] w (DgR w sb L N G L 0 (cubeS L s 0)) := by
  have c0 : w.cell? ⟨sb, 0, none⟩ = some (.int .i64 (L : Int)) := by
    obtain ⟨mf, mp, v, fm, pm, hm, _⟩ := h
    exact (cell_of_blk hm.blk).trans rfl
  have hlt := h.lt
  have HD := Lib.hid h
  clear h
  go_enter Tryz.func25, Tryz.ntmps25
  go_wp2_with fail
  go_loopw [5, 6] (fun kv jv wr => ∃ (j k : Nat) (N' : List Dn) (G' : Nat → Prop), j ≤ L ∧ jv = .int .i64 ((j : Int) - 1) ∧ kv = .int .i64 (k : Int) ∧ DgPost L N N' k (L - j) j (cubeS L s j) ∧ Dg wr sb L N' G' ∧ Keeps G w wr ∧ ∀ q, G' q → G q ∨ w.heap.size ≤ q) (fun _ jv _ => (intOf jv + 1).toNat)
  case atStart => exact ⟨L, 1, N, G, Nat.le_refl _, rfl, rfl, .same HD.out.ok (by omega) (fun m => by rw [dv_one, cubeS_top]) (by rw [lev_lt (by omega)]; exact Nat.le_refl _), HD.out, Keeps.refl _ _, fun q h => .inl h⟩
  case round =>
    obtain ⟨j, k, N', G', hj, rfl, rfl, hp, hd, hk, hn⟩ := hrel
    have HP := Lib.hid hp; have HD' := Lib.hid hd; have HK := Lib.hid hk; have HN := Lib.hid hn
    clear hp hd hk hn
    cases j with
    | zero =>
      go_wp2_with fail
      go_ret
      exact ⟨k, N', G', rfl, HP.out.weak (by omega) (Nat.le_refl _) (fun _ => rfl), HD'.out, HK.out, HN.out⟩
    | succ i =>
      have e1 : (((i + 1 : Nat) : Int) - 1) = (i : Int) := by omega
      rw [e1]
      have i0 : decide ((0 : Int) ≤ (i : Int)) = true := by simp
      have i1 : (i : Int) < 32 := by omega
      have i2 : (i : Int) < 64 := by omega
      have hb := bit_and_one (x := s) (k := i)
      have HC := fun lo hi hlo hhi g1 g2 => node_any wr sb L N' G' i lo hi HD'.out hL (by omega) hlo hhi g1 g2 (by have := HP.out.cnt; omega)
      have HC' := Lib.hid HC
      clear HC e1
      cases ht : s.testBit i with
      | true =>
        rw [ht] at hb
        have HCC := Lib.hid (HC'.out 0 k (by omega) HP.out.lt (by rw [lev_lt (by omega)]; omega) (by have := HP.out.lev; omega))
        go_wp2_with fail
        refine HCC.out.mono ?_; rintro e w2 ⟨k2, N2, G2, rfl, hp2, hd2, hk2, hn2⟩
        have HP2 := Lib.hid ((HP.out.trans hp2).weak (b' := L - i) (l' := i) (S' := cubeS L s i) (by have := nb_le i; omega) (Nat.le_refl _) (fun m => by
          rw [cubeS_step (by omega), ht]
          cases m.testBit i with
          | true => simp only [if_true]; rw [HP.out.val]; rfl
          | false => simp only [Bool.false_eq_true, if_false]; rw [dv_zero]; rfl))
        have HD2 := Lib.hid hd2; have HK2 := Lib.hid (HK.out.trans' hk2 HN.out); have HN2 := Lib.hid (news HN.out hn2 HK.out.size)
        clear hp2 hd2 hk2 hn2
        go_wp2_with fail
        go_roundw
        case rel => exact ⟨i, k2, N2, G2, by omega, by go_num, rfl, HP2.out, HD2.out, HK2.out, HN2.out⟩
        case measure => simp [intOf]
      | false =>
        rw [ht] at hb
        have HCC := Lib.hid (HC'.out k 0 HP.out.lt (by omega) (by have := HP.out.lev; omega) (by rw [lev_lt (by omega)]; omega))
        go_wp2_with fail
        refine HCC.out.mono ?_; rintro e w2 ⟨k2, N2, G2, rfl, hp2, hd2, hk2, hn2⟩
        have HP2 := Lib.hid ((HP.out.trans hp2).weak (b' := L - i) (l' := i) (S' := cubeS L s i) (by have := nb_le i; omega) (Nat.le_refl _) (fun m => by
          rw [cubeS_step (by omega), ht]
          cases m.testBit i with
          | true => simp only [if_true]; rw [dv_zero]; rfl
          | false => simp only [Bool.false_eq_true, if_false]; rw [HP.out.val]; rfl))
        have HD2 := Lib.hid hd2; have HK2 := Lib.hid (HK.out.trans' hk2 HN.out); have HN2 := Lib.hid (news HN.out hn2 HK.out.size)
        clear hp2 hd2 hk2 hn2
        go_wp2_with fail
        go_roundw
        case rel => exact ⟨i, k2, N2, G2, by omega, by go_num, rfl, HP2.out, HD2.out, HK2.out, HN2.out⟩
        case measure => simp [intOf]

end Go.Proofs.YtjcgkmodmjckjaaGreat

namespace Go.Proofs.YtjcgkmodmjckjaaGreat
open Go.RowKit

/-- Between the rounds of Pick: what is still to be chosen, given what has been. -/
structure PkI (L : Nat) (N : List Dn) (k x : Nat) (lo : List Nat) : Prop where
  lt : x < N.length + 2
  ne : x ≠ 0
  low : ∀ p ∈ lo, p < lev L N x ∧ p < L
  len : lo.length ≤ lev L N x
  val : ∀ m, (∀ j, j < lev L N x → m.testBit j = false) → dv N k (wd (intsP lo) ||| m) = dv N x m
theorem PkI.first {L : Nat} {N : List Dn} {k : Nat} (hk : k < N.length + 2) (h0 : k ≠ 0) : PkI L N k k [] :=
  ⟨hk, h0, fun p hp => by simp at hp, by simp, fun m _ => by simp [intsP, wd]⟩
theorem PkI.down {L : Nat} {N : List Dn} (ok : DgOk L N) {k i : Nat} {n : Dn} {lo : List Nat} (h : PkI L N k (i + 2) lo) (hn : N[i]? = some n) (h0 : n.lo ≠ 0) : PkI L N k n.lo lo := by
  have hi := (List.getElem?_eq_some_iff.1 hn).1
  have a1 := ok.lo _ _ hn; have a3 := ok.llo _ _ hn
  have hl := lev_node (L := L) hn
  have h1 := h.low; have h2 := h.len; have h3 := h.val
  rw [hl] at h1 h2 h3
  refine ⟨by omega, h0, fun p hp => ⟨by have := (h1 p hp).1; omega, (h1 p hp).2⟩, by omega, fun m hm => ?_⟩
  rw [h3 m (fun j hj => hm j (by omega)), dv_node ok hn, hm n.lv (by omega)]
  rfl
theorem wd_snocN (lo : List Nat) (p : Nat) : wd (intsP (lo ++ [p])) = wd (intsP lo) ||| 2 ^ p := by
  have e : intsP (lo ++ [p]) = intsP lo ++ [(p : Int)] := by simp [intsP]
  rw [e, wd_append, Nat.or_comm]; simp [wd, Nat.or_comm]
theorem PkI.up {L : Nat} {N : List Dn} (ok : DgOk L N) {k i : Nat} {n : Dn} {lo : List Nat} (h : PkI L N k (i + 2) lo) (hn : N[i]? = some n) (h0 : n.lo = 0) : PkI L N k n.hi (lo ++ [n.lv]) := by
  have hi := (List.getElem?_eq_some_iff.1 hn).1
  have a0 := ok.lv _ _ hn; have a2 := ok.hi _ _ hn; have a4 := ok.lhi _ _ hn; have a5 := ok.ne _ _ hn
  have hl := lev_node (L := L) hn
  have h1 := h.low; have h2 := h.len; have h3 := h.val
  rw [hl] at h1 h2 h3
  refine ⟨by omega, fun e => a5 (by rw [h0, e]), fun p hp => ?_, by rw [List.length_append, List.length_singleton]; omega, fun m hm => ?_⟩
  · rcases List.mem_append.1 hp with hp | hp
    · exact ⟨by have := (h1 p hp).1; omega, (h1 p hp).2⟩
    · simp at hp; subst hp; exact ⟨a4, a0⟩
  · have hb : ∀ j, (2 ^ n.lv ||| m).testBit j = (decide (j = n.lv) || m.testBit j) := fun j => by
      rw [Nat.testBit_or, Nat.testBit_two_pow]
      congr 1
      exact decide_eq_decide.2 ⟨fun h => h.symm, fun h => h.symm⟩
    rw [wd_snocN, Nat.or_assoc, h3 _ (fun j hj => by rw [hb, hm j (by omega)]; simp; omega), dv_node ok hn, hb]
    simp only [decide_true, Bool.true_or, if_true]
    exact dv_indep ok n.hi (by omega) (fun j hj _ => by rw [hb]; simp; omega)
theorem PkI.done {L : Nat} {N : List Dn} {k : Nat} {lo : List Nat} (h : PkI L N k 1 lo) : dv N k (wd (intsP lo)) = true := by
  have := h.val 0 (fun j _ => Nat.zero_testBit j)
  rw [Nat.or_zero, dv_one] at this
  exact this

set_option maxRecDepth 100000 in
set_option maxHeartbeats 2000000 in
theorem pick_any (w : World) (sb L : Nat) (N : List Dn) (G : Nat → Prop) (k : Nat) (h : Dg w sb L N G) (hL : L ≤ 24) (hk : k < N.length + 2) (h0 : k ≠ 0) :
    Calls Tryz.prog 76 #[.pointer (some ⟨sb, 0, none⟩), .int .i64 (k : Int)] w fun e w' => ∃ v lo, e = .returned (.tuple #[v, .bool true]) ∧ Ints w' v (intsP lo) ∧ (∀ p ∈ lo, p < L) ∧ lo.length ≤ 24 ∧ dv N k (wd (intsP lo)) = true ∧ Keeps (fun _ => False) w w' := by
  obtain ⟨i0, hi0, hz0, hz1, hz2⟩ := info_parts Tryz.info3
  obtain ⟨mf, mp, v, fm, pm, hm, _, _⟩ := h
  have HM := Lib.hid hm
  have HF := Lib.hid (PkI.first (L := L) hk h0)
  clear hm hk h0
  go_enter Tryz.func76, Tryz.ntmps76
  go_wp2_with fail
  go_loopw [1, 6] (fun xv ov wr => ∃ (x : Nat) (lo : List Nat), xv = .int .i64 (x : Int) ∧ PkI L N k x lo ∧ wr.ownsRow w.heap.size 3 1 ov lo.length ((intsP lo).map (Value.int .i64)) ∧ Keeps (fun _ => False) w wr) (fun xv _ _ => (intOf xv).toNat)
  case atStart => exact ⟨k, [], rfl, HF.out, World.ownsRow_nil _ _ _ _, Keeps.refl _ _⟩
  case round =>
    obtain ⟨x, lo, rfl, hp, hown, hkw⟩ := hrel
    have HO := Lib.hid hown; have KW := Lib.hid hkw; have HP := Lib.hid hp
    clear hown hkw hp
    by_cases h1 : x ≤ 1
    · have hx1 : x = 1 := by have := HP.out.ne; omega
      subst hx1
      go_wp2_with fail
      refine bodyPost_ret (results_tmp2 rfl _ _ _) rfl ?_
      exact ⟨_, lo, rfl, by unfold Ints; rw [show (intsP lo).length = lo.length from by unfold intsP; rw [List.length_map]]; exact Sl.of_own HO.out, fun p hp => (HP.out.low p hp).2, by have h1 := HP.out.len; have h2 := HM.out.ok.lev_le 1; omega, HP.out.done, KW.out⟩
    · have q1 : decide ((1 : Int) < (x : Int)) = true := by simp; omega
      have q1' : decide (1 < x) = true := by simp; omega
      obtain ⟨i, n, rfl, hn⟩ := node_at (by omega) HP.out.lt
      have hm2 := HM.out.keeps KW.out (fun h => h) (fun h => h) (fun h => h) (fun _ _ h => h)
      obtain ⟨g, cap, rfl, d0, d1, d2, hmx⟩ := hm2.node hn
      have c4 : wr.cell? ⟨sb, 1, none⟩ = some (.slice (some ⟨g, 0, none⟩) N.length cap) := (cell_of_blk hm2.blk).trans rfl
      have l4 := lt_of_heap hm2.blk
      have hi : i < N.length := (List.getElem?_eq_some_iff.1 hn).1
      have hmx' : N.length ≤ 9223372036854775807 := by unfold maxLen at hmx; omega
      have i1 : (((i + 2 : Nat) : Int) - 2) = (i : Int) := by omega
      have i2 : (0 : Int) ≤ (i : Int) := by omega
      have i3 : (i : Int) < (N.length : Int) := by omega
      have HX := Lib.hid (heap_alloc_new wr (.cells #[.int .i64 (n.lv : Int), .int .i64 (n.lo : Int), .int .i64 (n.hi : Int)] 110))
      have K1 := Lib.hid (KW.out.alloc (.cells #[.int .i64 (n.lv : Int), .int .i64 (n.lo : Int), .int .i64 (n.hi : Int)] 110))
      have HO1 := Lib.hid (World.ownsRow.alloc HO.out (.cells #[.int .i64 (n.lv : Int), .int .i64 (n.lo : Int), .int .i64 (n.hi : Int)] 110))
      have HNN := Lib.hid hn
      have HLB := Lib.hid (show n.lo < i + 2 ∧ n.hi < i + 2 ∧ n.lv < L ∧ lo.length ≤ 24 from ⟨HM.out.ok.lo _ _ hn, HM.out.ok.hi _ _ hn, HM.out.ok.lv _ _ hn, by have h1 := HP.out.len; have h2 := HM.out.ok.lev_le (i + 2); omega⟩)
      clear hm2 hn hmx h1
      go_upto_region 4 with fail
      generalize (wr.alloc (.cells #[.int .i64 (n.lv : Int), .int .i64 (n.lo : Int), .int .i64 (n.hi : Int)] 110)) = w1 at HX K1 HO1 ⊢
      generalize wr.heap.size = bx at HX ⊢
      have x0 : w1.cell? ⟨bx, 0, none⟩ = some (.int .i64 (n.lv : Int)) := by simp [World.cell?, HX.out]
      have x1 : w1.cell? ⟨bx, 1, none⟩ = some (.int .i64 (n.lo : Int)) := by simp [World.cell?, HX.out]
      have x2 : w1.cell? ⟨bx, 2, none⟩ = some (.int .i64 (n.hi : Int)) := by simp [World.cell?, HX.out]
      have xl := lt_of_heap HX.out
      clear c4 d0 d1 d2 l4 hi hmx' i1 i2 i3 q1 q1'
      by_cases h0 : n.lo = 0
      · have q2 : ((n.lo : Int) == 0) = true := by simp [h0]
        have q3 : (n.lo == 0) = true := by simp [h0]
        have HN := Lib.hid (HP.out.up HM.out.ok HNN.out h0)
        obtain ⟨av, cv, hv⟩ := ownsRow_form1 HO1.out
        subst hv
        have hl24 : lo.length ≤ 24 := HLB.out.2.2.2
        have hsz := K1.out.size
        go_wp2_with (at_builtin; refine wpList_append_lies _ rfl _ _ _ rfl w.heap.size 3 i0 _ 1 8 Tryz.underlying22 hi0 hz0 hz1 hz2 rfl (by omega) _ lo.length ((intsP lo).map (Value.int .i64)) (by rfl) (World.ownsRow.alloc (o := .cells #[.int .i64 (n.lv : Int)] 3) HO1.out) ⟨w1.heap.size, 0, none⟩ 1 1 [.int .i64 (n.lv : Int)] (by rfl) (by rfl) ?hnews ?hone (by omega) (by unfold maxLen; omega) (by omega) (by simp; omega) (w1.heap.size + 1) (by simp) ?_)
        case hnews => exact World.news_of_block (cs := #[.int .i64 (n.lv : Int)]) (t := 3) (fr := (0, 0)) (heap_alloc_new _ _)
        case hone => simp [Value.oneCell']
        intro g2 cap2 w4 hown hgrow hat hlt4
        have hne : ∀ q, (Value.slice av lo.length cv).ownBlock = some q → ¬ q = bx := by
          intro q hq e
          rcases HO1.out.2 with ⟨h1, _⟩ | ⟨g, cap, cur, h1, _, hg, _⟩
          · rw [h1] at hq; cases hq
          · rw [h1] at hq; cases hq
            rw [show g = bx from e] at hg
            have h2 := HX.out.symm.trans hg
            simp only [Option.some.injEq, Obj.cells.injEq] at h2
            exact absurd h2.2.1 (by decide)
        have KA := (Keeps.refl (fun _ => False) w1).alloc (.cells #[.int .i64 (n.lv : Int)] 3)
        have HX4 := (steady_keeps hgrow).heap (KA.heap HX.out (fun h => h)) (fun h => hne _ h rfl)
        have x4 : w4.cell? ⟨bx, 2, none⟩ = some (.int .i64 (n.hi : Int)) := by simp [World.cell?, HX4]
        have HNO := Lib.hid (show w4.ownsRow w.heap.size 3 1 (.slice (some ⟨g2, 0, none⟩) (lo.length + 1) cap2) (lo ++ [n.lv]).length ((intsP (lo ++ [n.lv])).map (Value.int .i64)) from by
          rw [List.length_append, List.length_singleton, show intsP (lo ++ [n.lv]) = intsP lo ++ [(n.lv : Int)] from by simp [intsP], List.map_append]
          exact hown)
        have HKN := Lib.hid (own_grown HO1.out K1.out KA hgrow)
        clear hne KA HX4 hown hgrow hat x0 x1 x2
        go_wp2_with fail
        go_roundw
        case rel => exact ⟨n.hi, lo ++ [n.lv], rfl, HN.out, HNO.out, HKN.out⟩
        case measure => simp [intOf]; have := HLB.out.2.1; omega
      · have q2 : ((n.lo : Int) == 0) = false := by simp; omega
        have q3 : (n.lo == 0) = false := by simp; omega
        have HN := Lib.hid (HP.out.down HM.out.ok HNN.out h0)
        go_wp2_with fail
        go_roundw
        case rel => exact ⟨n.lo, lo, rfl, HN.out, HO1.out, K1.out⟩
        case measure => simp [intOf]; have := HLB.out.1; omega

end Go.Proofs.YtjcgkmodmjckjaaGreat

namespace Go.Proofs.YtjcgkmodmjckjaaGreat
open Go.RowKit

/-- Between the calls of Count's walk. -/
structure CnS (bl : List (Nat × Obj)) (mb sb mf mp L : Nat) (N : List Dn) (v : Value) (fm pm : K3 → Option Nat) (kn : Nat → Option Nat) (w : World) : Prop where
  bx : ∀ p ∈ bl, w.heap[p.1]? = some p.2
  sep : ∀ p ∈ bl, p.1 ≠ mb
  mpk : NMap w mb natV kn
  dg : DgM w sb mf mp L N v fm pm
  far : sb ≠ mb ∧ mf ≠ mb ∧ mp ≠ mb ∧ ∀ k, v.ownBlock = some k → k ≠ mb
  ok : ∀ k x, kn k = some x → x = cntN L N k
theorem CnS.keeps0 {bl : List (Nat × Obj)} {mb sb mf mp L : Nat} {N : List Dn} {v : Value} {fm pm : K3 → Option Nat} {kn : Nat → Option Nat} {w w' : World} (h : CnS bl mb sb mf mp L N v fm pm kn w) (hk : Keeps (fun _ => False) w w') : CnS bl mb sb mf mp L N v fm pm kn w' :=
  ⟨fun p hp => hk.heap (h.bx p hp) (fun h => h), h.sep, h.mpk.keeps hk (fun h => h), h.dg.keeps hk (fun h => h) (fun h => h) (fun h => h) (fun _ _ h => h), h.far, h.ok⟩
theorem CnS.put {bl : List (Nat × Obj)} {mb sb mf mp L : Nat} {N : List Dn} {v : Value} {fm pm : K3 → Option Nat} {kn : Nat → Option Nat} {w w' : World} {k x : Nat} (h : CnS bl mb sb mf mp L N v fm pm kn w) (hm : NMap w' mb natV (putP kn k x)) (hk : Keeps (fun j => j = mb) w w') (hx : x = cntN L N k) : CnS bl mb sb mf mp L N v fm pm (putP kn k x) w' :=
  ⟨fun p hp => hk.heap (h.bx p hp) (h.sep p hp), h.sep, hm, h.dg.keeps hk h.far.1 h.far.2.1 h.far.2.2.1 h.far.2.2.2, h.far, fun k' x' hx' => by
    by_cases he : k' = k
    · subst he; rw [putP_same] at hx'; cases hx'; exact hx
    · rw [putP_other _ _ he] at hx'; exact h.ok k' x' hx'⟩
def cnBl (kb rb fb mb sb : Nat) : List (Nat × Obj) :=
  [(kb, .cells #[.map (some mb)] 73 (0, 0)), (rb, .cells #[.pointer (some ⟨sb, 0, none⟩)] 57 (0, 0)), (fb, .cells #[.func (.func 66) #[] #[.pointer (some ⟨kb, 0, none⟩), .pointer (some ⟨rb, 0, none⟩), .pointer (some ⟨fb, 0, none⟩)]] 63 (0, 0))]
theorem cn_cells {w : World} {kb rb fb mb sb mf mp L : Nat} {N : List Dn} {v : Value} {fm pm : K3 → Option Nat} {kn : Nat → Option Nat} (h : CnS (cnBl kb rb fb mb sb) mb sb mf mp L N v fm pm kn w) :
    w.cell? ⟨kb, 0, none⟩ = some (.map (some mb)) ∧ w.cell? ⟨rb, 0, none⟩ = some (.pointer (some ⟨sb, 0, none⟩)) ∧ w.cell? ⟨fb, 0, none⟩ = some (.func (.func 66) #[] #[.pointer (some ⟨kb, 0, none⟩), .pointer (some ⟨rb, 0, none⟩), .pointer (some ⟨fb, 0, none⟩)]) ∧ kb < w.heap.size ∧ rb < w.heap.size ∧ fb < w.heap.size := by
  have h1 := h.bx _ (show (kb, Obj.cells #[.map (some mb)] 73 (0, 0)) ∈ cnBl kb rb fb mb sb by simp [cnBl])
  have h2 := h.bx _ (show (rb, Obj.cells #[.pointer (some ⟨sb, 0, none⟩)] 57 (0, 0)) ∈ cnBl kb rb fb mb sb by simp [cnBl])
  have h3 := h.bx _ (show (fb, Obj.cells #[.func (.func 66) #[] #[.pointer (some ⟨kb, 0, none⟩), .pointer (some ⟨rb, 0, none⟩), .pointer (some ⟨fb, 0, none⟩)]] 63 (0, 0)) ∈ cnBl kb rb fb mb sb by simp [cnBl])
  exact ⟨(cell_of_blk h1).trans rfl, (cell_of_blk h2).trans rfl, (cell_of_blk h3).trans rfl, lt_of_heap h1, lt_of_heap h2, lt_of_heap h3⟩
theorem cntN_small {L : Nat} {N : List Dn} (ok : DgOk L N) (hL : L ≤ 24) {k : Nat} (hk : k < N.length + 2) : cntN L N k ≤ 16777216 := by
  have h1 := cntN_le ok hk
  have h2 : 1 ≤ 2 ^ lev L N k := Nat.one_le_two_pow
  have h3 : cntN L N k ≤ cntN L N k * 2 ^ lev L N k := Nat.le_mul_of_pos_right _ h2
  have h4 : 2 ^ L ≤ 2 ^ 24 := Nat.pow_le_pow_right (by omega) hL
  have e : (2 : Nat) ^ 24 = 16777216 := by decide
  omega

theorem run_shl {c l v s va : Nat} (hs : l - v - 1 = s) (hv : v < l) (hl : l ≤ 24) (ha : c * 2 ^ s = va) (hva : va ≤ 16777216) (W : World) :
    (Op.shift BinOp.shl IntKind.i64 (c : Int) IntKind.i64 (IntKind.i64.wrap (IntKind.i64.wrap ((l : Int) - (v : Int)) - 1))).run Tryz.prog W = .ok (.int .i64 (va : Int)) W := by
  have e1 : IntKind.i64.wrap ((l : Int) - (v : Int)) = (l : Int) - (v : Int) := IntWalk.i64_in _ (by omega)
  have e2 : IntKind.i64.wrap ((l : Int) - (v : Int) - 1) = (s : Int) := by rw [show (l : Int) - (v : Int) - 1 = (s : Int) from by omega]; exact IntWalk.i64_in _ (by omega)
  have e3 : ((c : Int) * 2 ^ s) = ((c * 2 ^ s : Nat) : Int) := by simp
  have e4 : IntKind.i64.wrap ((c : Int) * 2 ^ s) = (va : Int) := by rw [e3, ha]; exact IntWalk.i64_in _ (by omega)
  have e5 : min ((s : Int).toNat) IntKind.i64.bits = s := by
    rw [show (s : Int).toNat = s from by omega]
    have : IntKind.i64.bits = 64 := rfl
    omega
  rw [e1, e2]
  unfold Op.shift
  rw [if_neg (by omega)]
  simp only [e5, e4]
  rfl

set_option maxRecDepth 100000 in
set_option maxHeartbeats 4000000 in
theorem cnt1_in (L : Nat) (hL : L ≤ 24) (kb rb fb mb sb mf mp : Nat) (N : List Dn) (v : Value) (fm pm : K3 → Option Nat) : ∀ (k : Nat) (w : World) (kn : Nat → Option Nat), CnS (cnBl kb rb fb mb sb) mb sb mf mp L N v fm pm kn w → k < N.length + 2 →
    Calls Tryz.prog 66 #[.int .i64 (k : Int), .pointer (some ⟨kb, 0, none⟩), .pointer (some ⟨rb, 0, none⟩), .pointer (some ⟨fb, 0, none⟩)] w fun e w' => ∃ (kn' : Nat → Option Nat), e = .returned (.int .i64 (cntN L N k : Int)) ∧ CnS (cnBl kb rb fb mb sb) mb sb mf mp L N v fm pm kn' w' ∧ Keeps (fun q => q = mb) w w' := by
  intro k
  induction k using Nat.strongRecOn with
  | _ k ih =>
  intro w kn h hk
  have eg : ∀ args w, (callFunc 66 args).run Tryz.prog w = .ok (.enter 66 args) w := enters_of Tryz.func66 (by kernel_rfl) rfl
  have HH := Lib.hid h; have HIH := Lib.hid ih; have HKL := Lib.hid hk
  by_cases hk2 : k < 2
  · have q1 : decide ((k : Int) < 2) = true := by simp; omega
    have q2 : decide (k < 2) = true := by simp; omega
    rw [cntN_lt hk2]
    clear h ih hk hk2
    go_enter Tryz.func66, Tryz.ntmps66
    go_wp2_with fail
    go_ret
    exact ⟨kn, rfl, HH.out, Keeps.refl _ _⟩
  have q1 : decide ((k : Int) < 2) = false := by simp; omega
  have q2 : decide (k < 2) = false := by simp; omega
  obtain ⟨c1, c2, c3, l1, l2, l3⟩ := cn_cells h
  have hz : (zeroValue 3).run Tryz.prog w = .ok (.int .i64 0) w := by kernel_rfl
  cases hf : kn k with
  | some x =>
    have hlk := (h.mpk.look_some (P := Tryz.prog) Tryz.underlying73 Tryz.underlying3 hf).1
    replace hlk : (Instr.lookup 73 (.map (some mb)) (.int .i64 (k : Int)) true).run Tryz.prog w = .ok (.tuple #[.int .i64 (x : Int), .bool true]) w := hlk
    obtain rfl := h.ok k x hf
    clear h ih hk hf hk2
    go_enter Tryz.func66, Tryz.ntmps66
    go_wp2_with fail
    go_ret
    exact ⟨kn, rfl, HH.out, Keeps.refl _ _⟩
  | none =>
    have hlk := (h.mpk.look_none (P := Tryz.prog) Tryz.underlying73 Tryz.underlying3 hz hf).1
    replace hlk : (Instr.lookup 73 (.map (some mb)) (.int .i64 (k : Int)) true).run Tryz.prog w = .ok (.tuple #[.int .i64 0, .bool false]) w := hlk
    go_enter Tryz.func66, Tryz.ntmps66
    go_upto_region 5 with fail
    clear q1 q2 hlk
    obtain ⟨i, n, rfl, hn⟩ := node_at hk2 hk
    have hm := h.dg
    obtain ⟨g, cap, rfl, d0, d1, d2, hmx⟩ := hm.node hn
    have c4 : w.cell? ⟨sb, 1, none⟩ = some (.slice (some ⟨g, 0, none⟩) N.length cap) := (cell_of_blk hm.blk).trans rfl
    have l4 := lt_of_heap hm.blk
    have hi : i < N.length := (List.getElem?_eq_some_iff.1 hn).1
    have hmx' : N.length ≤ 9223372036854775807 := by unfold maxLen at hmx; omega
    have i1 : (((i + 2 : Nat) : Int) - 2) = (i : Int) := by omega
    have i2 : (0 : Int) ≤ (i : Int) := by omega
    have i3 : (i : Int) < (N.length : Int) := by omega
    have ok := hm.ok
    have HCT := Lib.hid (cntN_node ok hn)
    have HLV := Lib.hid (show n.lv < L ∧ n.lo < i + 2 ∧ n.hi < i + 2 ∧ n.lv < lev L N n.lo ∧ n.lv < lev L N n.hi ∧ n.lo < N.length + 2 ∧ n.hi < N.length + 2 ∧ lev L N n.lo ≤ L ∧ lev L N n.hi ≤ L from ⟨ok.lv _ _ hn, ok.lo _ _ hn, ok.hi _ _ hn, ok.llo _ _ hn, ok.lhi _ _ hn, by have := ok.lo _ _ hn; omega, by have := ok.hi _ _ hn; omega, ok.lev_le _, ok.lev_le _⟩)
    have HSM := Lib.hid (cntN_small ok hL hk)
    have KA := (Keeps.refl (fun _ => False) w).alloc (.cells #[.int .i64 (n.lv : Int), .int .i64 (n.lo : Int), .int .i64 (n.hi : Int)] 110)
    have HKA := Lib.hid KA
    have HH1 := Lib.hid (h.keeps0 KA)
    have HXB := Lib.hid (heap_alloc_new w (.cells #[.int .i64 (n.lv : Int), .int .i64 (n.lo : Int), .int .i64 (n.hi : Int)] 110))
    have HBX := Lib.hid (show w.heap.size ≠ mb from by have := h.mpk.lt; omega)
    clear h ih hk hf hk2 hm hmx hn ok KA HH hz
    go_upto_region 6 with fail
    generalize (w.alloc (.cells #[.int .i64 (n.lv : Int), .int .i64 (n.lo : Int), .int .i64 (n.hi : Int)] 110)) = w1 at HKA HH1 HXB ⊢
    generalize w.heap.size = bx at HBX HXB ⊢
    clear c1 c2 c3 c4 l1 l2 l3 l4 d0 d1 d2 i1 i2 i3 hmx' hi
    have KD := (Keeps.refl (fun _ => False) w1).drew
    have HH2 := Lib.hid (HH1.out.keeps0 KD); have HXB2 := Lib.hid (KD.heap HXB.out (fun h => h)); have HK2 := Lib.hid (HKA.out.trans KD)
    clear KD
    obtain ⟨la, hla⟩ : ∃ la, lev L N n.lo = la := ⟨_, rfl⟩
    obtain ⟨lb, hlb⟩ : ∃ lb, lev L N n.hi = lb := ⟨_, rfl⟩
    obtain ⟨ca, hca⟩ : ∃ ca, cntN L N n.lo = ca := ⟨_, rfl⟩
    obtain ⟨cb, hcb⟩ : ∃ cb, cntN L N n.hi = cb := ⟨_, rfl⟩
    have HLA := Lib.hid hla; have HLB := Lib.hid hlb; have HCA := Lib.hid hca; have HCB := Lib.hid hcb
    have hsum := HCT.out
    rw [hla, hlb, hca, hcb] at hsum
    have hv := HLV.out
    rw [hla, hlb] at hv
    obtain ⟨s1, hs1⟩ : ∃ s1, la - n.lv - 1 = s1 := ⟨_, rfl⟩
    obtain ⟨s2, hs2⟩ : ∃ s2, lb - n.lv - 1 = s2 := ⟨_, rfl⟩
    rw [hs1, hs2] at hsum
    have hsm := HSM.out
    rw [hsum] at hsm
    obtain ⟨va, hva⟩ : ∃ va, ca * 2 ^ s1 = va := ⟨_, rfl⟩
    obtain ⟨vb, hvb⟩ : ∃ vb, cb * 2 ^ s2 = vb := ⟨_, rfl⟩
    rw [hva] at hsum hsm; rw [hvb] at hsum hsm
    have hsh1 := run_shl hs1 hv.2.2.2.1 (by omega) hva (by omega)
    have hsh2 := run_shl hs2 hv.2.2.2.2.1 (by omega) hvb (by omega)
    have hsh3 : IntKind.i64.wrap ((va : Int) + (vb : Int)) = ((va + vb : Nat) : Int) := by rw [show (va : Int) + (vb : Int) = ((va + vb : Nat) : Int) from by omega]; exact IntWalk.i64_in _ (by omega)
    have HVS := Lib.hid hsum
    clear hla hlb hca hcb hv hva hvb hs1 hs2 hsum
    obtain ⟨_, c2, c3, _, _, _⟩ := cn_cells HH2.out
    have x0 : w1.drew.cell? ⟨bx, 0, none⟩ = some (.int .i64 (n.lv : Int)) := (cell_of_blk HXB2.out).trans rfl
    have x1 : w1.drew.cell? ⟨bx, 1, none⟩ = some (.int .i64 (n.lo : Int)) := (cell_of_blk HXB2.out).trans rfl
    have x2 : w1.drew.cell? ⟨bx, 2, none⟩ = some (.int .i64 (n.hi : Int)) := (cell_of_blk HXB2.out).trans rfl
    have hc1 := HIH.out n.lo HLV.out.2.1 w1.drew kn HH2.out HLV.out.2.2.2.2.2.1
    rw [HCA.out] at hc1
    have HC1 := Lib.hid hc1
    clear hc1 HSM
    go_region_held3 (fun w' => w'.cell? ⟨rb, 0, none⟩ = some (.pointer (some ⟨sb, 0, none⟩)) ∧ w'.cell? ⟨fb, 0, none⟩ = some (.func (.func 66) #[] #[.pointer (some ⟨kb, 0, none⟩), .pointer (some ⟨rb, 0, none⟩), .pointer (some ⟨fb, 0, none⟩)]) ∧ w'.cell? ⟨bx, 0, none⟩ = some (.int .i64 (n.lv : Int)) ∧ w'.cell? ⟨bx, 1, none⟩ = some (.int .i64 (n.lo : Int)) ∧ w'.cell? ⟨bx, 2, none⟩ = some (.int .i64 (n.hi : Int)))
      (go_keep)
      (first
        | (go_at_call 67; refine HC4.out.mono ?_; rintro en w7 ⟨rfl, hw7⟩; rw [hw7]; clear hw7 w7)
        | (go_at_call 67; refine HC2.out.mono ?_; rintro en w7 ⟨rfl, hw7⟩; rw [hw7]; clear hw7 w7)
        | (go_at_call 66; refine HC3.out.mono ?_; rintro en w6 ⟨kn2, rfl, hs6, hk6⟩; have HS6 := Lib.hid hs6; have HK6 := Lib.hid hk6; have HXB6 := Lib.hid (hk6.heap HXB5.out HBX.out); have hc4 := level_any w6 sb mf mp L N _ fm pm n.hi hs6.dg HLV.out.2.2.2.2.2.2.1; rw [HLB.out] at hc4; have HC4 := Lib.hid hc4; obtain ⟨_, s1, s2, _, _, _⟩ := cn_cells hs6; have s3 : w6.cell? ⟨bx, 0, none⟩ = some (.int .i64 (n.lv : Int)) := (cell_of_blk HXB6.out).trans rfl; have s4 : w6.cell? ⟨bx, 1, none⟩ = some (.int .i64 (n.lo : Int)) := (cell_of_blk HXB6.out).trans rfl; have s5 : w6.cell? ⟨bx, 2, none⟩ = some (.int .i64 (n.hi : Int)) := (cell_of_blk HXB6.out).trans rfl; clear hs6 hk6 hc4)
        | (go_at_call 66; refine HC1.out.mono ?_; rintro en w5 ⟨kn1, rfl, hs5, hk5⟩; have HS5 := Lib.hid hs5; have HK5 := Lib.hid hk5; have HXB5 := Lib.hid (hk5.heap HXB2.out HBX.out); have hc2 := level_any w5 sb mf mp L N _ fm pm n.lo hs5.dg HLV.out.2.2.2.2.2.1; rw [HLA.out] at hc2; have HC2 := Lib.hid hc2; have hc3 := HIH.out n.hi HLV.out.2.2.1 w5 kn1 hs5 HLV.out.2.2.2.2.2.2.1; rw [HCB.out] at hc3; have HC3 := Lib.hid hc3; obtain ⟨_, t1, t2, _, _, _⟩ := cn_cells hs5; have t3 : w5.cell? ⟨bx, 0, none⟩ = some (.int .i64 (n.lv : Int)) := (cell_of_blk HXB5.out).trans rfl; have t4 : w5.cell? ⟨bx, 1, none⟩ = some (.int .i64 (n.lo : Int)) := (cell_of_blk HXB5.out).trans rfl; have t5 : w5.cell? ⟨bx, 2, none⟩ = some (.int .i64 (n.hi : Int)) := (cell_of_blk HXB5.out).trans rfl; clear hs5 hk5 hc2 hc3))
    all_goals
      obtain ⟨c1, _, _, l1, _, _⟩ := cn_cells HS6.out
      obtain ⟨w8, hr8, hm8, hk8⟩ := HS6.out.mpk.put (P := Tryz.prog) Tryz.underlying73 Tryz.underlying3 (i + 2) (va + vb)
      replace hr8 : (Instr.mapUpdate 73 (.map (some mb)) (.int .i64 ((i : Int) + 2)) (.int .i64 ((va : Int) + (vb : Int)))).run Tryz.prog w6 = .ok () w8 := hr8
      have HM8 := Lib.hid hm8; have HK8 := Lib.hid hk8
      clear hm8 hk8
      go_wp2_with fail
      go_ret
      have hk26 := ((HK2.out.mono (fun _ _ h => h.elim)).trans HK5.out).trans HK6.out
      exact ⟨putP kn2 (i + 2) (va + vb), by rw [HVS.out]; rfl, HS6.out.put HM8.out HK8.out HVS.out.symm, hk26.trans HK8.out⟩

set_option maxRecDepth 100000 in
set_option maxHeartbeats 2000000 in
theorem count_any (w : World) (sb L : Nat) (N : List Dn) (G : Nat → Prop) (k : Nat) (h : Dg w sb L N G) (hL : L ≤ 24) (hk : k < N.length + 2) :
    Calls Tryz.prog 28 #[.pointer (some ⟨sb, 0, none⟩), .int .i64 (k : Int)] w fun e w' => e = .returned (.int .i64 ((cntN L N k * 2 ^ lev L N k : Nat) : Int)) ∧ Keeps (fun _ => False) w w' := by
  have eg : ∀ args w, (callFunc 66 args).run Tryz.prog w = .ok (.enter 66 args) w := enters_of Tryz.func66 (by kernel_rfl) rfl
  have hsf : ∀ (a : Addr) (fn : Fn) (first cap : Array Value) (m : Mode) (w : World), (store a (.func fn first cap) m).run Tryz.prog w = stored Tryz.prog w a (.func fn first cap) m := fun a fn first cap m w => run_store Tryz.prog w a _ m rfl
  have hmf : ∀ (fn : Fn) (first cap : Array Value) (w : World), (Instr.makeFunc fn first cap).run Tryz.prog w = .ok (.func fn first cap) w := fun _ _ _ _ => rfl
  have hmm := @run_makeMap Tryz.prog
  obtain ⟨va, hva⟩ : ∃ va, cntN L N k * 2 ^ lev L N k = va := ⟨_, rfl⟩
  have hvs : va ≤ 16777216 := by
    have h1 := cntN_le h.ok hk
    have h4 : 2 ^ L ≤ 2 ^ 24 := Nat.pow_le_pow_right (by omega) hL
    have e : (2 : Nat) ^ 24 = 16777216 := by decide
    omega
  obtain ⟨lk, hlk⟩ : ∃ lk, lev L N k = lk := ⟨_, rfl⟩
  obtain ⟨ck, hck⟩ : ∃ ck, cntN L N k = ck := ⟨_, rfl⟩
  have hlk24 : lk ≤ 24 := by have := h.ok.lev_le k; omega
  have hw : IntKind.i64.wrap ((ck : Int) * 2 ^ lk) = (va : Int) := by
    rw [show ((ck : Int) * 2 ^ lk) = ((ck * 2 ^ lk : Nat) : Int) from by simp, ← hck, ← hlk, hva]
    exact IntWalk.i64_in _ (by omega)
  have HW := Lib.hid hw
  clear hw
  rw [hva]
  have K1 := (Keeps.refl (fun _ => False) w).alloc (.cells #[.pointer (some ⟨sb, 0, none⟩)] 57)
  have K2 := (Keeps.refl (fun _ => False) (w.alloc (.cells #[.pointer (some ⟨sb, 0, none⟩)] 57))).alloc (.map #[] 0)
  have K3 := (Keeps.refl (fun _ => False) ((w.alloc (.cells #[.pointer (some ⟨sb, 0, none⟩)] 57)).alloc (.map #[] 0))).alloc (.cells #[.map (some (w.heap.size + 1))] 73)
  have K4 := (Keeps.refl (fun _ => False) (((w.alloc (.cells #[.pointer (some ⟨sb, 0, none⟩)] 57)).alloc (.map #[] 0)).alloc (.cells #[.map (some (w.heap.size + 1))] 73))).alloc (.cells #[(.func (.func 66) #[] #[.pointer (some ⟨w.heap.size + 1 + 1, 0, none⟩), .pointer (some ⟨w.heap.size, 0, none⟩), .pointer (some ⟨w.heap.size + 1 + 1 + 1, 0, none⟩)])] 63)
  have b1 := (K2.trans (K3.trans K4)).heap (heap_alloc_new w (.cells #[.pointer (some ⟨sb, 0, none⟩)] 57)) (fun h => h)
  have m2 := (NMap.made (w.alloc (.cells #[.pointer (some ⟨sb, 0, none⟩)] 57)) natV).keeps (K3.trans K4) (fun h => h)
  have b3 := K4.heap (heap_alloc_new ((w.alloc (.cells #[.pointer (some ⟨sb, 0, none⟩)] 57)).alloc (.map #[] 0)) (.cells #[.map (some (w.heap.size + 1))] 73)) (fun h => h)
  have b4 := heap_alloc_new (((w.alloc (.cells #[.pointer (some ⟨sb, 0, none⟩)] 57)).alloc (.map #[] 0)).alloc (.cells #[.map (some (w.heap.size + 1))] 73)) (.cells #[(.func (.func 66) #[] #[.pointer (some ⟨w.heap.size + 1 + 1, 0, none⟩), .pointer (some ⟨w.heap.size, 0, none⟩), .pointer (some ⟨w.heap.size + 1 + 1 + 1, 0, none⟩)])] 63)
  simp only [World.size_alloc] at m2 b3 b4
  obtain ⟨mf, mp, v, fm, pm, hm, hq, hbd⟩ := h
  have HK := Lib.hid (K1.trans (K2.trans (K3.trans K4))); have B1 := Lib.hid b1; have M2 := Lib.hid m2; have B3 := Lib.hid b3; have B4 := Lib.hid b4; have HM := Lib.hid hm; have HKL := Lib.hid hk
  have HLK := Lib.hid hlk; have HCK := Lib.hid hck
  clear K1 K2 K3 K4 b1 m2 b3 b4 hm hq hbd hk hva hlk hck
  go_enter Tryz.func28, Tryz.ntmps28
  go_upto_region 4 with fail
  generalize ((((w.alloc (.cells #[.pointer (some ⟨sb, 0, none⟩)] 57)).alloc (.map #[] 0)).alloc (.cells #[.map (some (w.heap.size + 1))] 73)).alloc (.cells #[(.func (.func 66) #[] #[.pointer (some ⟨w.heap.size + 1 + 1, 0, none⟩), .pointer (some ⟨w.heap.size, 0, none⟩), .pointer (some ⟨w.heap.size + 1 + 1 + 1, 0, none⟩)])] 63)) = W7 at HK B1 M2 B3 B4 ⊢
  have HCS := Lib.hid (show CnS (cnBl (w.heap.size + 1 + 1) w.heap.size (w.heap.size + 1 + 1 + 1) (w.heap.size + 1) sb) (w.heap.size + 1) sb mf mp L N v fm pm (fun _ => none) W7.drew from
    CnS.keeps0 (w := W7) ⟨fun q hq => by
      simp only [cnBl, List.mem_cons, List.not_mem_nil, or_false] at hq
      rcases hq with rfl | rfl | rfl
      · exact B3.out
      · exact B1.out
      · exact B4.out, fun q hq => by
      simp only [cnBl, List.mem_cons, List.not_mem_nil, or_false] at hq
      rcases hq with rfl | rfl | rfl <;> (simp only; omega), M2.out, HM.out.keeps HK.out (fun h => h) (fun h => h) (fun h => h) (fun _ _ h => h), by
      have hn := HM.out.ne
      exact ⟨by omega, by omega, by omega, fun k hk => by have := (HM.out.row_ne k hk).2.2.2; omega⟩, fun k x h => by cases h⟩ ((Keeps.refl (fun _ => False) W7).drew))
  have hc1 := cnt1_in L hL (w.heap.size + 1 + 1) w.heap.size (w.heap.size + 1 + 1 + 1) (w.heap.size + 1) sb mf mp N v fm pm k W7.drew _ HCS.out HKL.out
  rw [HCK.out] at hc1
  have HC1 := Lib.hid hc1
  have HKD := Lib.hid (HK.out.trans ((Keeps.refl (fun _ => False) W7).drew))
  obtain ⟨_, c2, c3, _, _, _⟩ := cn_cells HCS.out
  clear hL hc1
  go_region_held3 (fun w' => w'.cell? ⟨w.heap.size, 0, none⟩ = some (.pointer (some ⟨sb, 0, none⟩)) ∧ w'.cell? ⟨w.heap.size + 1 + 1 + 1, 0, none⟩ = some (.func (.func 66) #[] #[.pointer (some ⟨w.heap.size + 1 + 1, 0, none⟩), .pointer (some ⟨w.heap.size, 0, none⟩), .pointer (some ⟨w.heap.size + 1 + 1 + 1, 0, none⟩)]))
    (go_keep)
    (first
      | (go_at_call 67; refine HC2.out.mono ?_; rintro en w7 ⟨rfl, hw7⟩; rw [hw7]; clear hw7 w7)
      | (go_at_call 66; refine HC1.out.mono ?_; rintro en w5 ⟨kn1, rfl, hs5, hk5⟩; have HK5 := Lib.hid hk5; have hc2 := level_any w5 sb mf mp L N _ fm pm k hs5.dg HKL.out; rw [HLK.out] at hc2; have HC2 := Lib.hid hc2; obtain ⟨_, t1, t2, _, _, _⟩ := cn_cells hs5; clear hs5 hk5 hc2))
  all_goals
    go_wp2_with fail
    go_ret
    exact ⟨by show Ending.returned (Value.int .i64 (IntKind.i64.wrap ((ck : Int) * 2 ^ lk))) = _; rw [HW.out], HKD.out.trans' HK5.out (fun i hi => .inr (by rw [(show i = _ from hi)]; omega))⟩

end Go.Proofs.YtjcgkmodmjckjaaGreat

namespace Go.Proofs.YtjcgkmodmjckjaaGreat
open Go.RowKit Go.Sort Go.Proofs

/-! ### Contains -/
/-! ### the library's Sort and Compact over a row of the call's own -/
/-! ### an append of whatever slice -/
section
variable {P : Program} {w : World}
theorem run_appendS_zero (base : Nat) (t ty e : TypeId) (i : TypeInfo) (size : Nat) (ht : P.underlying t = some (.slice e)) (hi : P.info? e = some i)
    (v : Value) (n : Nat) (xs : List Value) (hown : w.ownsRow base e size v n xs) (ao : Option Addr) (c : Nat) :
    (Builtin.append_ #[t, t] ty #[v, .slice ao 0 c]).run P w = .ok v w := by
  rcases hown.2 with ⟨rfl, rfl⟩ | ⟨g, cap, cur, rfl, _, _, hnc, _⟩
  · cases ao <;> simp [Builtin.append_, run_underlying ht, sizeOf, typeInfo, hi, Builtin.lenOf, Builtin.firstCells, loadCells, loadCellsFrom]
  · cases ao <;> simp [Builtin.append_, run_underlying ht, sizeOf, typeInfo, hi, Builtin.lenOf, Builtin.firstCells, hnc, storeCells, loadCells, loadCellsFrom]
theorem wpList_appendS_zero {ops : Array Oper} {rest : List Oper} {o : Oper} {a : Act} {Q : Exit → Act → World → Prop} (hgd : o.guard = none) (s x : Operand) (t : TypeId)
    (ho : o.op = .call { callee := .builtin .append, args := #[s, x], argTypes := #[t, t] })
    (base : Nat) (e : TypeId) (i : TypeInfo) (size : Nat) (ht : P.underlying t = some (.slice e)) (hi : P.info? e = some i)
    (v : Value) (n : Nat) (xs : List Value) (hs : a.eval s = v) (hown : w.ownsRow base e size v n xs) (ao : Option Addr) (c : Nat) (hx : a.eval x = .slice ao 0 c)
    (h : wpList P ops Q rest (a.put o.dst v) w) : wpList P ops Q (o :: rest) a w := by
  refine wpList_plain hgd fun K hK => ?_
  have hrun := run_appendS_zero (P := P) (w := w) base t o.type e i size ht hi v n xs hown ao c
  unfold Oper.wp
  simp [execOp, ho, resolve, invoke, builtin, hs, hx, hrun, Result.andThen]
  exact hK _ _ h
theorem grownBy_refl (w : World) (row : Option Nat) : w.grownBy w row := ⟨rfl, rfl, rfl, Nat.le_refl _, fun _ _ _ => rfl⟩
/-- append(out, x...) to a row of the call's own, x whatever slice. -/
theorem wpList_append_src {ops : Array Oper} {rest : List Oper} {o : Oper} {a : Act} {Q : Exit → Act → World → Prop} (hgd : o.guard = none) (s x : Operand) (t : TypeId)
    (ho : o.op = .call { callee := .builtin .append, args := #[s, x], argTypes := #[t, t] })
    (base : Nat) (e : TypeId) (i : TypeInfo) (z : Value) (bytes : Nat) (ht : P.underlying t = some (.slice e)) (hi : P.info? e = some i) (hz : i.zero = some z)
    (hsize : i.size = 1) (hby : i.bytes = bytes) (hzs : z.cells.size = 1)
    (v : Value) (n : Nat) (xs : List Value) (hs : a.eval s = v) (hown : w.ownsRow base e 1 v n xs)
    (vx : Value) (m : Nat) (news : List Value) (hx : a.eval x = vx) (hsl : Sl w vx m news) (hl : news.length = m) (h1 : ∀ u ∈ news, u.oneCell' = true)
    (h63 : n + m ≤ maxLen) (hbytes : (n + m) * bytes ≤ 140737488355328) (hbase : base ≤ w.heap.size)
    (h : ∀ v' w', w'.ownsRow base e 1 v' (n + m) (xs ++ news) → w.grownBy w' v.ownBlock → (∀ g, v'.ownBlock = some g → v.ownBlock = some g ∨ w.heap.size ≤ g) → w.drawn ≤ w'.drawn → wpList P ops Q rest (a.put o.dst v') w') : wpList P ops Q (o :: rest) a w := by
  obtain ⟨ao, c, rfl, hm, hc⟩ := hsl
  rcases Nat.eq_zero_or_pos m with h0 | h0
  · subst h0
    have : news = [] := List.length_eq_zero_iff.1 hl
    subst this
    refine wpList_appendS_zero hgd s x t ho base e i 1 ht hi v n xs hs hown ao c hx (h v w (by simpa using hown) (grownBy_refl w _) (fun g hg => .inl hg) (Nat.le_refl _))
  · obtain ⟨b, off, rfl, hcell⟩ := hc h0
    refine wpList_append_d hgd s x t ho base e i z 1 bytes ht hi hz hsize hby hzs (by omega) v n xs hs hown ⟨b, off, none⟩ m c news hx (by omega) (fun j u hj => by
      have h := hcell j u hj
      by_cases hj0 : j = 0
      · subst hj0; simpa [Addr.add] using h
      · simpa [Addr.add, hj0] using h) h1 h0 h63 hbytes hbase w.heap.size rfl fun g cap w' h2 h3 h4 _ h6 => h _ w' h2 h3 (fun k hk => ?_) h6
    rcases h4 with h4 | h4
    · left; rw [h4]; exact hk
    · right; cases (show some g = some k from hk); omega
end

/-! ### Update -/
/-! ### Can, Next -/
end Go.Proofs.YtjcgkmodmjckjaaGreat

namespace Go.Proofs.YtjcgkmodmjckjaaGreat
open Go.RowKit

set_option maxRecDepth 100000 in
theorem newStore_any (w : World) (L : Nat) :
    Calls Tryz.prog 62 #[.int .i64 (L : Int)] w fun e w' => ∃ sb, e = .returned (.pointer (some ⟨sb, 0, none⟩)) ∧ Dg w' sb L [] (fun q => w.heap.size ≤ q ∧ q < w'.heap.size) ∧ Keeps (fun _ => False) w w' ∧ w.heap.size ≤ sb := by
  have hmm := @run_makeMap Tryz.prog
  have K1 := (Keeps.refl (fun _ => False) w).alloc (.map #[] 0)
  have K2 := (Keeps.refl (fun _ => False) (w.alloc (.map #[] 0))).alloc (.map #[] 0)
  have K3 := (Keeps.refl (fun _ => False) ((w.alloc (.map #[] 0)).alloc (.map #[] 0))).alloc (.cells #[.int .i64 (L : Int), .slice none 0 0, .map (some w.heap.size), .map (some (w.heap.size + 1))] 106)
  have m1 := (TMap.made w).keeps (K2.trans K3) (fun h => h)
  have m2 := (TMap.made (w.alloc (.map #[] 0))).keeps K3 (fun h => h)
  have b3 := heap_alloc_new ((w.alloc (.map #[] 0)).alloc (.map #[] 0)) (.cells #[.int .i64 (L : Int), .slice none 0 0, .map (some w.heap.size), .map (some (w.heap.size + 1))] 106)
  simp only [World.size_alloc] at m2 b3
  have HM := Lib.hid (show DgM (((w.alloc (.map #[] 0)).alloc (.map #[] 0)).alloc (.cells #[.int .i64 (L : Int), .slice none 0 0, .map (some w.heap.size), .map (some (w.heap.size + 1))] 106)) (w.heap.size + 1 + 1) w.heap.size (w.heap.size + 1) L [] (.slice none 0 0) (fun _ => none) (fun _ => none) from
    ⟨b3, World.ownsRow_nil _ _ _ _, m1, m2, by omega, DgOk.nil L, fun l lo hi k => ⟨fun h => absurd h (by simp), fun h => absurd h.2 (by simp)⟩, fun op a b k h => absurd h (by simp)⟩)
  have HK := Lib.hid (K1.trans (K2.trans K3))
  clear K1 K2 K3 m1 m2 b3
  go_enter Tryz.func62, Tryz.ntmps62
  go_wp2_with fail
  go_ret
  have hn := HM.out.ne
  exact ⟨w.heap.size + 1 + 1, rfl, ⟨_, _, _, _, _, HM.out, ⟨⟨by omega, hn.2.2.1⟩, ⟨by omega, hn.2.2.2.1⟩, ⟨by omega, hn.2.2.2.2⟩, fun k h => absurd h (by simp [Value.ownBlock])⟩, fun q h => h.2⟩, HK.out, by omega⟩

theorem wpList_append_run {P : Program} {w : World} {ops : Array Oper} {rest : List Oper} {o : Oper} {a : Act} {Q : Exit → Act → World → Prop} (hgd : o.guard = none) (s x : Operand) (t tn : TypeId)
    (ho : o.op = .call { callee := .builtin .append, args := #[s, x], argTypes := #[t, tn] }) (vs vx : Value) (hs : a.eval s = vs) (hx : a.eval x = vx) (v' : Value) (w' : World)
    (hr : (Builtin.append_ #[t, tn] o.type #[vs, vx]).run P w = .ok v' w') (h : wpList P ops Q rest (a.put o.dst v') w') : wpList P ops Q (o :: rest) a w :=
  wpList_plain hgd fun K hK => by
    unfold Oper.wp execOp
    simp only [ho, resolve, invoke, builtin, Sem.run_bind, Sem.run_pure, Result.andThen_ok, List.map_toArray, List.map_cons, List.map_nil, hs, hx, hr]
    exact hK _ _ h

set_option maxRecDepth 100000 in
theorem growNil_any (w : World) (n : Nat) (hn : n ≤ 1000) :
    Calls Tryz.prog 118 #[.slice none 0 0, .int .i64 (n : Int)] w fun e w' => ∃ v, e = .returned v ∧ w'.ownsRow w.heap.size 3 1 v 0 [] ∧ Keeps (fun _ => False) w w' := by
  obtain ⟨i0, hi0, hz0, hz1, hz2⟩ := info_parts Tryz.info3
  have q1 : decide ((n : Int) < 0) = false := by simp
  by_cases h0 : n = 0
  · subst h0
    have q2 : decide ((0 : Int) < 0) = false := rfl
    go_enter Tryz.func118, Tryz.ntmps118
    go_wp2_with fail
    go_ret
    exact ⟨_, rfl, World.ownsRow_nil _ _ _ _, Keeps.refl _ _⟩
  · have q2 : decide ((0 : Int) < (n : Int)) = true := by simp; omega
    have q3 : decide (0 < n) = true := by simp; omega
    have hap := fun ty => Lib.run_append_nil_zeros (P := Tryz.prog) w 22 3 ty 3 i0 (.int .i64 0) .i64 .i64 Tryz.underlying22 Tryz.underlying3 hi0 hz0 n (by omega) (by omega) (by omega) (by rw [hz2]; omega)
    obtain ⟨cp, hcp⟩ : ∃ cp, grownCap w n 0 3 = cp := ⟨_, rfl⟩
    have hge : n ≤ cp := by rw [← hcp]; exact grownCap_ge _ _ _ _
    have hcx : cp ≤ maxLen := by rw [← hcp]; exact grownCap_le_maxLen _ _ _ _ (by unfold maxLen; omega)
    rw [hcp] at hap
    have hs : (Builtin.zeroCells (Value.int .i64 0).cells n ++ Builtin.zeroCells (Value.int .i64 0).cells (cp - n)).size = cp := by simp [size_zeroCells, Value.cells]; omega
    generalize (Builtin.zeroCells (Value.int .i64 0).cells n ++ Builtin.zeroCells (Value.int .i64 0).cells (cp - n)) = cur at hap hs
    have HW := Lib.hid (show (w.drew.alloc (.cells cur 3)).ownsRow w.heap.size 3 1 (.slice (some ⟨w.heap.size, 0, none⟩) 0 cp) 0 [] from
      ⟨rfl, .inr ⟨w.heap.size, cp, cur, rfl, Nat.le_refl _, heap_alloc_new w.drew _, Nat.zero_le _, hcx, by omega, by simp⟩⟩)
    have HK := Lib.hid ((Keeps.refl (fun _ => False) w).drew.alloc (.cells cur 3))
    clear hcp hs
    go_enter Tryz.func118, Tryz.ntmps118
    go_wp2_with (at_builtin; refine wpList_append_run rfl _ _ _ _ rfl (.slice none 0 0) (.int .i64 (n : Int)) (by rfl) (by rfl) _ _ (hap _) ?_)
    go_wp2_with fail
    go_ret
    exact ⟨_, rfl, HW.out, HK.out⟩

end Go.Proofs.YtjcgkmodmjckjaaGreat

namespace Go.Proofs.YtjcgkmodmjckjaaGreat
open Go.RowKit

theorem flat_take {ls : List (List Int)} {k : Nat} {l : List Int} (h : ls[k]? = some l) : (ls.take (k + 1)).flatten = (ls.take k).flatten ++ l := by
  rw [take_getS h, List.flatten_append]; simp
theorem flat_take_le (ls : List (List Int)) (k : Nat) : (ls.take k).flatten.length ≤ ls.flatten.length := by
  have h : ls.flatten = (ls.take k).flatten ++ (ls.drop k).flatten := by rw [← List.flatten_append, List.take_append_drop]
  rw [h, List.length_append]; omega

/-- How many elements the first k rows have. -/
def flatLen (ls : List (List Int)) (k : Nat) : Nat := (ls.take k).flatten.length
theorem flatLen_step {ls : List (List Int)} {k : Nat} {l : List Int} (h : ls[k]? = some l) : flatLen ls (k + 1) = flatLen ls k + l.length := by unfold flatLen; rw [flat_take h, List.length_append]
theorem flatLen_le (ls : List (List Int)) (k : Nat) : flatLen ls k ≤ ls.flatten.length := flat_take_le ls k
def flatV (ls : List (List Int)) (k : Nat) : List Value := (ls.take k).flatten.map (Value.int .i64)
theorem flatV_step {ls : List (List Int)} {k : Nat} {l : List Int} (h : ls[k]? = some l) : flatV ls (k + 1) = flatV ls k ++ l.map (Value.int .i64) := by unfold flatV; rw [flat_take h, List.map_append]
theorem flatV_all {ls : List (List Int)} {k : Nat} (h : ls.length ≤ k) : flatV ls k = ls.flatten.map (Value.int .i64) := by unfold flatV; rw [List.take_of_length_le h]
theorem flatLen_all {ls : List (List Int)} {k : Nat} (h : ls.length ≤ k) : flatLen ls k = ls.flatten.length := by unfold flatLen; rw [List.take_of_length_le h]

set_option maxRecDepth 100000 in
set_option maxHeartbeats 2000000 in
theorem concat_any (w : World) (v : Value) (ls : List (List Int)) (h : Lists w v ls) (hn : ls.length ≤ 1000) (hs : ls.flatten.length ≤ 1000) :
    Calls Tryz.prog 95 #[v] w fun e w' => ∃ v', e = .returned v' ∧ w'.ownsRow w.heap.size 3 1 v' ls.flatten.length (ls.flatten.map (Value.int .i64)) ∧ Keeps (fun _ => False) w w' := by
  obtain ⟨i0, hi0, hz0, hz1, hz2⟩ := info_parts Tryz.info3
  have HL := Lib.hid h
  obtain ⟨ao, cap, hv, hm, hc⟩ := h
  subst hv
  have HC := Lib.hid hc
  clear hc
  go_enter Tryz.func95, Tryz.ntmps95
  go_wp2_with fail
  go_loop [3, 11] (fun sv iv => ∃ k : Nat, k ≤ ls.length ∧ iv = .int .i64 (k : Int) ∧ sv = .int .i64 (flatLen ls k : Int)) (fun _ iv => ls.length - (intOf iv).toNat)
  case atStart => exact ⟨0, Nat.zero_le _, rfl, rfl⟩
  case round =>
    obtain ⟨k, hk, rfl, rfl⟩ := hrel
    by_cases hlt : k < ls.length
    · obtain ⟨b, off, rfl, hcell⟩ := HC.out (by omega)
      obtain ⟨l, hl⟩ : ∃ l, ls[k]? = some l := ⟨_, List.getElem?_eq_getElem hlt⟩
      obtain ⟨u, hu, hin⟩ := hcell k l hl
      obtain ⟨al, cl, hul, ml⟩ := hin.form
      subst hul
      have HF := Lib.hid (flatLen_step hl)
      have hle := flatLen_le ls (k + 1)
      rw [flatLen_step hl] at hle
      have hd : decide (((flatLen ls k : Int) + (l.length : Int)) < 0) = false := by simp; omega
      have i0' : (0 : Int) ≤ (k : Int) := by omega
      have i1' : (k : Int) < (ls.length : Int) := by omega
      clear hcell hin hl
      go_wp2_with fail
      go_round
      case rel => exact ⟨k + 1, by omega, by go_num, by rw [HF.out]; go_num⟩
      case measure => simp [intOf]; omega
    · have HG := Lib.hid (growNil_any w (flatLen ls k) (by have := flatLen_le ls k; omega))
      have hk' : k = ls.length := by omega
      subst hk'
      clear hlt
      go_wp2_with fail
      refine HG.out.mono ?_; rintro e w2 ⟨v0, rfl, hown, hk2⟩
      have HO2 := Lib.hid hown; have HK2 := Lib.hid hk2
      clear hown hk2 HG
      go_wp2_with fail
      go_loopw [6, 27] (fun ov iv wr => ∃ k : Nat, k ≤ ls.length ∧ iv = .int .i64 (k : Int) ∧ wr.ownsRow w.heap.size 3 1 ov (flatLen ls k) (flatV ls k) ∧ Keeps (fun _ => False) w wr) (fun _ iv _ => ls.length - (intOf iv).toNat)
      case atStart => exact ⟨0, Nat.zero_le _, rfl, HO2.out, HK2.out⟩
      case round =>
        obtain ⟨j, hj, rfl, how, hkw⟩ := hrel
        have HO := Lib.hid how; have HK := Lib.hid hkw
        clear how hkw
        by_cases hlt : j < ls.length
        · obtain ⟨b, off, rfl, hcell⟩ := HC.out (by omega)
          obtain ⟨l, hl⟩ : ∃ l, ls[j]? = some l := ⟨_, List.getElem?_eq_getElem hlt⟩
          obtain ⟨u, hu0, hin0⟩ := hcell j l hl
          have hu := HK.out.cell hu0 (fun h => h)
          have HIN := Lib.hid (hin0.keeps0 HK.out)
          obtain ⟨al, cl, hul, ml⟩ := hin0.form
          subst hul
          have HF := Lib.hid (flatV_step hl)
          have HFL := Lib.hid (flatLen_step hl)
          have hle := flatLen_le ls (j + 1)
          rw [flatLen_step hl] at hle
          have i0' : (0 : Int) ≤ (j : Int) := by omega
          have i1' : (j : Int) < (ls.length : Int) := by omega
          have hsz := HK.out.size
          clear hcell hin0 hl hu0
          go_wp2_with (at_builtin; refine wpList_append_src rfl _ _ _ rfl w.heap.size 3 i0 _ 8 Tryz.underlying22 hi0 hz0 hz1 hz2 rfl _ (flatLen ls j) (flatV ls j) (by rfl) HO.out _ l.length (l.map (Value.int .i64)) (by rfl) HIN.out (by simp) (by simp [Value.oneCell']) (by unfold maxLen; omega) (by omega) (by omega) ?_)
          intro v' w4 hown hgrow hat hd4
          have HN := Lib.hid (show w4.ownsRow w.heap.size 3 1 v' (flatLen ls (j + 1)) (flatV ls (j + 1)) from by
            rw [HFL.out, HF.out]; exact hown)
          have HKN := Lib.hid (own_grown HO.out HK.out (Keeps.refl _ _) hgrow)
          clear hown hgrow hat hd4
          go_wp2_with fail
          go_roundw
          case rel => exact ⟨j + 1, by omega, by go_num, HN.out, HKN.out⟩
          case measure => simp [intOf]; omega
        · have ho := HO.out
          rw [flatLen_all (by omega), flatV_all (by omega)] at ho
          have HOF := Lib.hid ho
          clear ho HO
          go_wp2_with fail
          go_ret
          exact ⟨_, rfl, HOF.out, HK.out⟩

end Go.Proofs.YtjcgkmodmjckjaaGreat

namespace Go.Proofs.YtjcgkmodmjckjaaGreat
open Go.RowKit

/-- What And and Exists may cost. -/
def opC (a : Nat) : Nat := if a = 0 then 0 else 524287
theorem opC_le (a : Nat) : opC a ≤ 524287 := by unfold opC; split <;> omega
theorem zero_of_false {L : Nat} {N N' : List Dn} {k b l : Nat} {S : Nat → Bool} (h : DgPost L N N' k b l S) (hs : ∀ m, S m = false) : k = 0 := by
  by_cases h0 : k = 0
  · exact h0
  · obtain ⟨m, _, _, hm⟩ := dv_some h.ok k h.lt h0
    rw [h.val, hs] at hm; cases hm
/-- What an operation hands back, with what it costs, and that it hands back nothing where it is given nothing. -/
def DgZ (w : World) (sb L : Nat) (N : List Dn) (G : Nat → Prop) (b : Nat) (z : Prop) (S : Nat → Bool) (e : Ending) (w' : World) : Prop :=
  ∃ (k : Nat) (N' : List Dn) (G' : Nat → Prop), e = .returned (.int .i64 (k : Int)) ∧ DgPost L N N' k b 0 S ∧ (z → k = 0) ∧ Dg w' sb L N' G' ∧ Keeps G w w' ∧ ∀ q, G' q → G q ∨ w.heap.size ≤ q

set_option maxRecDepth 100000 in
theorem bothz_any (w : World) (sb b : Nat) : Calls Tryz.prog 65 #[.pointer (some ⟨sb, 0, none⟩), .int .i64 0, .int .i64 0, .int .i64 (b : Int)] w fun e w' => e = .returned (.int .i64 0) ∧ w' = w := by
  by_cases h0 : b = 0
  · subst h0
    go_enter Tryz.func65, Tryz.ntmps65
    go_wp2_with fail
    go_ret
    exact ⟨rfl, rfl⟩
  · have q1 : ((0 : Int) == (b : Int)) = false := by simp; omega
    by_cases h1 : b = 1
    · subst h1
      go_enter Tryz.func65, Tryz.ntmps65
      go_wp2_with fail
      go_ret
      exact ⟨rfl, rfl⟩
    · have q2 : decide ((b : Int) < 2) = false := by simp; omega
      have q3 : decide (b < 2) = false := by simp; omega
      go_enter Tryz.func65, Tryz.ntmps65
      go_wp2_with fail
      go_ret
      exact ⟨rfl, rfl⟩
set_option maxRecDepth 100000 in
theorem andz_any (w : World) (sb L : Nat) (N : List Dn) (G : Nat → Prop) (a b : Nat) (h : Dg w sb L N G) (hL : L ≤ 24) (ha : a < N.length + 2) (hb : b < N.length + 2) (hbig : low N + opC a ≤ 5800000000000) :
    Calls Tryz.prog 40 #[.pointer (some ⟨sb, 0, none⟩), .int .i64 (a : Int), .int .i64 (b : Int)] w (DgZ w sb L N G (opC a) (a = 0) (fun m => dv N a m && dv N b m)) := by
  by_cases h0 : a = 0
  · subst h0
    have HD := Lib.hid h
    have HC := Lib.hid (bothz_any w sb b)
    clear h hL ha hb hbig
    go_enter Tryz.func40, Tryz.ntmps40
    go_wp2_with fail
    refine HC.out.mono ?_; rintro e w2 ⟨rfl, hw⟩
    rw [hw]; clear hw w2
    go_wp2_with fail
    go_ret
    exact ⟨0, N, G, rfl, .same HD.out.ok (by omega) (fun m => by rw [dv_zero]; rfl) (Nat.zero_le _), fun _ => rfl, HD.out, Keeps.refl _ _, fun q h => .inl h⟩
  · have hc : opC a = 524287 := by unfold opC; rw [if_neg h0]
    have hl := lowB_le L (min (lev L N a) (lev L N b))
    refine (and_any w sb L N G a b h hL ha hb (by omega)).mono ?_
    rintro e w' ⟨k, N', G', rfl, hp, hd, hk, hn⟩
    exact ⟨k, N', G', rfl, hp.weak (by omega) (Nat.zero_le _) (fun _ => rfl), fun h => absurd h h0, hd, hk, hn⟩
theorem exz_any (w : World) (sb L p : Nat) (N : List Dn) (G : Nat → Prop) (a : Nat) (h : Dg w sb L N G) (hL : L ≤ 24) (hp : p < L) (ha : a < N.length + 2) (hbig : low N + opC a ≤ 5800000000000) :
    Calls Tryz.prog 96 #[.pointer (some ⟨sb, 0, none⟩), .int .i64 (a : Int), .int .i64 (p : Int)] w (DgZ w sb L N G (opC a) (a = 0) (exT p (dv N a))) := by
  have hc : lowB L (lev L N a) ≤ opC a := by
    unfold opC
    by_cases h0 : a = 0
    · subst h0; rw [if_pos rfl, lev_lt (by omega), lowB_top (Nat.le_refl _)]; exact Nat.le_refl _
    · rw [if_neg h0]; exact lowB_le _ _
  refine (exists_any w sb L p N G a h hL hp ha (by omega)).mono ?_
  rintro e w' ⟨k, N', G', rfl, hp', hd, hk, hn⟩
  exact ⟨k, N', G', rfl, hp'.weak hc (Nat.zero_le _) (fun _ => rfl), fun h0 => by subst h0; exact zero_of_false hp' (fun m => by unfold exT; rw [dv_zero, dv_zero]; rfl), hd, hk, hn⟩

/-- f, and the facts of ps are all there (or all not). -/
def litS (b : Bool) (ps : List Int) (f : Nat → Bool) (m : Nat) : Bool := f m && ps.all fun p => m.testBit p.toNat == b
theorem litS_nil (b : Bool) (f : Nat → Bool) (m : Nat) : litS b [] f m = f m := by unfold litS; simp
theorem litS_snoc (b : Bool) (ps : List Int) (f : Nat → Bool) (x : Nat) (m : Nat) : litS b (ps ++ [(x : Int)]) f m = (litS b ps f m && (m.testBit x == b)) := by
  unfold litS
  rw [List.all_append, Bool.and_assoc]
  simp
theorem lit_step {L : Nat} {N N' N1 N2 : List Dn} {k k1 k2 b c x j : Nat} {f : Nat → Bool} {ps : List Int} {pos : Bool} (hp : DgPost L N N' k b 0 (litS pos (ps.take j) f)) (h1 : DgPost L N' N1 k1 (nb x) x (fun m => m.testBit x == pos)) (h2 : DgPost L N1 N2 k2 c 0 (fun m => dv N1 k m && dv N1 k1 m)) (hx : ps[j]? = some (x : Int)) :
    DgPost L N N2 k2 (b + (1 + c)) 0 (litS pos (ps.take (j + 1)) f) :=
  ((hp.trans h1).trans h2).weak (by have := nb_le x; omega) (Nat.zero_le _) (fun m => by
    rw [take_getS hx, litS_snoc, h1.val, h1.le.dv hp.ok hp.lt, hp.val])
theorem exs_step {L : Nat} {N N' N2 : List Dn} {k k2 b c x : Nat} {f : Nat → Bool} (hp : DgPost L N N' k b 0 f) (h2 : DgPost L N' N2 k2 c 0 (exT x (dv N' k))) :
    DgPost L N N2 k2 (b + c) 0 (exT x f) :=
  (hp.trans h2).weak (Nat.le_refl _) (Nat.zero_le _) (fun m => by unfold exT; rw [hp.val, hp.val])
/-- For some values of the facts of ps. -/
def exsT (ps : List Int) (f : Nat → Bool) : Nat → Bool := ps.foldl (fun g p => exT p.toNat g) f
theorem exsT_snoc (ps : List Int) (x : Nat) (f : Nat → Bool) : exsT (ps ++ [(x : Int)]) f = exT x (exsT ps f) := by unfold exsT; rw [List.foldl_append]; rfl
/-- The sets of a task in memory: the box, and the store. -/
structure StS (w0 w : World) (ss sb L : Nat) (N : List Dn) (G : Nat → Prop) (n : Int) (vi vg vo : Value) (gk : Nat) : Prop where
  blk : w.heap[ss]? = some (.cells #[.pointer (some ⟨sb, 0, none⟩), .int .i64 n, vi, vg, vo, .int .i64 (gk : Int)] 59 (0, 0))
  dg : Dg w sb L N G
  sep : ¬ G ss
  k0 : Keeps (fun _ => False) w0 w
  gb : ∀ q, G q → w0.heap.size ≤ q
theorem StS.op {w0 w w' : World} {ss sb L : Nat} {N N' : List Dn} {G G' : Nat → Prop} {n : Int} {vi vg vo : Value} {gk : Nat} (h : StS w0 w ss sb L N G n vi vg vo gk) (hd : Dg w' sb L N' G') (hk : Keeps G w w') (hn : ∀ q, G' q → G q ∨ w.heap.size ≤ q) : StS w0 w' ss sb L N' G' n vi vg vo gk :=
  ⟨hk.heap h.blk h.sep, hd, fun hq => (hn _ hq).elim h.sep (fun hs => by have := lt_of_heap h.blk; omega), h.k0.trans' hk (fun i hi => .inr (h.gb i hi)), fun q hq => (hn q hq).elim (h.gb q) (fun hs => Nat.le_trans h.k0.size hs)⟩
theorem StS.keeps0 {w0 w w' : World} {ss sb L : Nat} {N : List Dn} {G : Nat → Prop} {n : Int} {vi vg vo : Value} {gk : Nat} (h : StS w0 w ss sb L N G n vi vg vo gk) (hk : Keeps (fun _ => False) w w') : StS w0 w' ss sb L N G n vi vg vo gk :=
  ⟨hk.heap h.blk (fun h => h), h.dg.keeps0 hk, h.sep, h.k0.trans hk, h.gb⟩
theorem StS.c0 {w0 w : World} {ss sb L : Nat} {N : List Dn} {G : Nat → Prop} {n : Int} {vi vg vo : Value} {gk : Nat} (h : StS w0 w ss sb L N G n vi vg vo gk) : w.cell? ⟨ss, 0, none⟩ = some (.pointer (some ⟨sb, 0, none⟩)) ∧ ss < w.heap.size := ⟨(cell_of_blk h.blk).trans rfl, lt_of_heap h.blk⟩
/-- What a function of the sets hands back. -/
def StR (w0 w : World) (ss sb L : Nat) (N : List Dn) (G : Nat → Prop) (n : Int) (vi vg vo : Value) (gk b : Nat) (z : Prop) (S : Nat → Bool) (e : Ending) (w' : World) : Prop :=
  ∃ (k : Nat) (N' : List Dn) (G' : Nat → Prop), e = .returned (.int .i64 (k : Int)) ∧ DgPost L N N' k b 0 S ∧ (z → k = 0) ∧ StS w0 w' ss sb L N' G' n vi vg vo gk ∧ Keeps G w w' ∧ ∀ q, G' q → G q ∨ w.heap.size ≤ q

end Go.Proofs.YtjcgkmodmjckjaaGreat
