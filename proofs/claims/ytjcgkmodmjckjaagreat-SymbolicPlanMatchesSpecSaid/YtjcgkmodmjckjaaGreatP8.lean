/- diagram.Store: Count. strips.Contains, Update, Can, Next. diagram.NewStore; slices.Grow of nothing; slices.Concat at int. slices.Concat at int. symbolic's sets: And and Exists with what they cost at the empty set; a literal more. symbolic's sets: without, set, free, image, before. symbolic's sets: newSets. Symbolic search, in plain Lean: what image says; the layers. Symbolic search, in plain Lean: states by the number of steps that they need. symbolic.Layers: its memory between the steps. No condition beyond what each theorem says. -/
import Derived.Test.YtjcgkmodmjckjaaGreatP7
import Derived.Sort.OwnSortedInts
import Derived.Test.YtjcgkmodmjckjaaGreatP4
import Derived.Lib.AppendZeros
import Derived.Test.YtjcgkmodmjckjaaGreatP1
import Derived.Test.YtjcgkmodmjckjaaGreatP5
import Derived.Test.YtjcgkmodmjckjaaGreatP6

namespace Go.Proofs.YtjcgkmodmjckjaaGreat
open Go.RowKit

/-- Between the calls of Count's walk. -/
structure CnS (bl : List (Nat × Obj)) (mb sb mf mp L : Nat) (N : List Dn) (v : Value) (fm pm : K3 → Option Nat) (kn : Nat → Option Nat) (w : World) : Prop where
  bx : ∀ p ∈ bl, w.heap[p.1]? = some p.2
  sep : ∀ p ∈ bl, p.1 ≠ mb
  mpk : NMap w mb natV kn
  dg : DgM w sb mf mp L N v fm pm
  far : sb ≠ mb ∧ mf ≠ mb ∧ mp ≠ mb ∧ ∀ k, v.ownBlock = some k → k ≠ mb
  ok : ∀ k x, kn k = some x → x = cntN L N k
theorem CnS.keeps0 {bl : List (Nat × Obj)} {mb sb mf mp L : Nat} {N : List Dn} {v : Value} {fm pm : K3 → Option Nat} {kn : Nat → Option Nat} {w w' : World} (h : CnS bl mb sb mf mp L N v fm pm kn w) (hk : Keeps (fun _ => False) w w') : CnS bl mb sb mf mp L N v fm pm kn w' :=
  ⟨fun p hp => hk.heap (h.bx p hp) (fun h => h), h.sep, h.mpk.keeps hk (fun h => h), h.dg.keeps hk (fun h => h) (fun h => h) (fun h => h) (fun _ _ h => h), h.far, h.ok⟩
theorem CnS.put {bl : List (Nat × Obj)} {mb sb mf mp L : Nat} {N : List Dn} {v : Value} {fm pm : K3 → Option Nat} {kn : Nat → Option Nat} {w w' : World} {k x : Nat} (h : CnS bl mb sb mf mp L N v fm pm kn w) (hm : NMap w' mb natV (putP kn k x)) (hk : Keeps (fun j => j = mb) w w') (hx : x = cntN L N k) : CnS bl mb sb mf mp L N v fm pm (putP kn k x) w' :=
  ⟨fun p hp => hk.heap (h.bx p hp) (h.sep p hp), h.sep, hm, h.dg.keeps hk h.far.1 h.far.2.1 h.far.2.2.1 h.far.2.2.2, h.far, fun k' x' hx' => by
    by_cases he : k' = k
    · subst he; rw [putP_same] at hx'; cases hx'; exact hx
    · rw [putP_other _ _ he] at hx'; exact h.ok k' x' hx'⟩
def cnBl (kb rb fb mb sb : Nat) : List (Nat × Obj) :=
  [(kb, .cells #[.map (some mb)] 73 (0, 0)), (rb, .cells #[.pointer (some ⟨sb, 0, none⟩)] 57 (0, 0)), (fb, .cells #[.func (.func 66) #[] #[.pointer (some ⟨kb, 0, none⟩), .pointer (some ⟨rb, 0, none⟩), .pointer (some ⟨fb, 0, none⟩)]] 63 (0, 0))]
theorem cn_cells {w : World} {kb rb fb mb sb mf mp L : Nat} {N : List Dn} {v : Value} {fm pm : K3 → Option Nat} {kn : Nat → Option Nat} (h : CnS (cnBl kb rb fb mb sb) mb sb mf mp L N v fm pm kn w) :
    w.cell? ⟨kb, 0, none⟩ = some (.map (some mb)) ∧ w.cell? ⟨rb, 0, none⟩ = some (.pointer (some ⟨sb, 0, none⟩)) ∧ w.cell? ⟨fb, 0, none⟩ = some (.func (.func 66) #[] #[.pointer (some ⟨kb, 0, none⟩), .pointer (some ⟨rb, 0, none⟩), .pointer (some ⟨fb, 0, none⟩)]) ∧ kb < w.heap.size ∧ rb < w.heap.size ∧ fb < w.heap.size := by
  have h1 := h.bx _ (show (kb, Obj.cells #[.map (some mb)] 73 (0, 0)) ∈ cnBl kb rb fb mb sb by simp [cnBl])
  have h2 := h.bx _ (show (rb, Obj.cells #[.pointer (some ⟨sb, 0, none⟩)] 57 (0, 0)) ∈ cnBl kb rb fb mb sb by simp [cnBl])
  have h3 := h.bx _ (show (fb, Obj.cells #[.func (.func 66) #[] #[.pointer (some ⟨kb, 0, none⟩), .pointer (some ⟨rb, 0, none⟩), .pointer (some ⟨fb, 0, none⟩)]] 63 (0, 0)) ∈ cnBl kb rb fb mb sb by simp [cnBl])
  exact ⟨(cell_of_blk h1).trans rfl, (cell_of_blk h2).trans rfl, (cell_of_blk h3).trans rfl, lt_of_heap h1, lt_of_heap h2, lt_of_heap h3⟩
theorem cntN_small {L : Nat} {N : List Dn} (ok : DgOk L N) (hL : L ≤ 24) {k : Nat} (hk : k < N.length + 2) : cntN L N k ≤ 16777216 := by
  have h1 := cntN_le ok hk
  have h2 : 1 ≤ 2 ^ lev L N k := Nat.one_le_two_pow
  have h3 : cntN L N k ≤ cntN L N k * 2 ^ lev L N k := Nat.le_mul_of_pos_right _ h2
  have h4 : 2 ^ L ≤ 2 ^ 24 := Nat.pow_le_pow_right (by omega) hL
  have e : (2 : Nat) ^ 24 = 16777216 := by decide
  omega

theorem run_shl {c l v s va : Nat} (hs : l - v - 1 = s) (hv : v < l) (hl : l ≤ 24) (ha : c * 2 ^ s = va) (hva : va ≤ 16777216) (W : World) :
    (Op.shift BinOp.shl IntKind.i64 (c : Int) IntKind.i64 (IntKind.i64.wrap (IntKind.i64.wrap ((l : Int) - (v : Int)) - 1))).run Tryz.prog W = .ok (.int .i64 (va : Int)) W := by
  have e1 : IntKind.i64.wrap ((l : Int) - (v : Int)) = (l : Int) - (v : Int) := IntWalk.i64_in _ (by omega)
  have e2 : IntKind.i64.wrap ((l : Int) - (v : Int) - 1) = (s : Int) := by rw [show (l : Int) - (v : Int) - 1 = (s : Int) from by omega]; exact IntWalk.i64_in _ (by omega)
  have e3 : ((c : Int) * 2 ^ s) = ((c * 2 ^ s : Nat) : Int) := by simp
  have e4 : IntKind.i64.wrap ((c : Int) * 2 ^ s) = (va : Int) := by rw [e3, ha]; exact IntWalk.i64_in _ (by omega)
  have e5 : min ((s : Int).toNat) IntKind.i64.bits = s := by
    rw [show (s : Int).toNat = s from by omega]
    have : IntKind.i64.bits = 64 := rfl
    omega
  rw [e1, e2]
  unfold Op.shift
  rw [if_neg (by omega)]
  simp only [e5, e4]
  rfl

set_option maxRecDepth 100000 in
set_option maxHeartbeats 4000000 in
theorem cnt1_in (L : Nat) (hL : L ≤ 24) (kb rb fb mb sb mf mp : Nat) (N : List Dn) (v : Value) (fm pm : K3 → Option Nat) : ∀ (k : Nat) (w : World) (kn : Nat → Option Nat), CnS (cnBl kb rb fb mb sb) mb sb mf mp L N v fm pm kn w → k < N.length + 2 →
    Calls Tryz.prog 66 #[.int .i64 (k : Int), .pointer (some ⟨kb, 0, none⟩), .pointer (some ⟨rb, 0, none⟩), .pointer (some ⟨fb, 0, none⟩)] w fun e w' => ∃ (kn' : Nat → Option Nat), e = .returned (.int .i64 (cntN L N k : Int)) ∧ CnS (cnBl kb rb fb mb sb) mb sb mf mp L N v fm pm kn' w' ∧ Keeps (fun q => q = mb) w w' := by
  intro k
  induction k using Nat.strongRecOn with
  | _ k ih =>
  intro w kn h hk
  have eg : ∀ args w, (callFunc 66 args).run Tryz.prog w = .ok (.enter 66 args) w := enters_of Tryz.func66 (by kernel_rfl) rfl
  have HH := Lib.hid h; have HIH := Lib.hid ih; have HKL := Lib.hid hk
  by_cases hk2 : k < 2
  · have q1 : decide ((k : Int) < 2) = true := by simp; omega
    have q2 : decide (k < 2) = true := by simp; omega
    rw [cntN_lt hk2]
    clear h ih hk hk2
    go_enter Tryz.func66, Tryz.ntmps66
    go_wp2_with fail
    go_ret
    exact ⟨kn, rfl, HH.out, Keeps.refl _ _⟩
  have q1 : decide ((k : Int) < 2) = false := by simp; omega
  have q2 : decide (k < 2) = false := by simp; omega
  obtain ⟨c1, c2, c3, l1, l2, l3⟩ := cn_cells h
  have hz : (zeroValue 3).run Tryz.prog w = .ok (.int .i64 0) w := by kernel_rfl
  cases hf : kn k with
  | some x =>
    have hlk := (h.mpk.look_some (P := Tryz.prog) Tryz.underlying73 Tryz.underlying3 hf).1
    replace hlk : (Instr.lookup 73 (.map (some mb)) (.int .i64 (k : Int)) true).run Tryz.prog w = .ok (.tuple #[.int .i64 (x : Int), .bool true]) w := hlk
    obtain rfl := h.ok k x hf
    clear h ih hk hf hk2
    go_enter Tryz.func66, Tryz.ntmps66
    go_wp2_with fail
    go_ret
    exact ⟨kn, rfl, HH.out, Keeps.refl _ _⟩
  | none =>
    have hlk := (h.mpk.look_none (P := Tryz.prog) Tryz.underlying73 Tryz.underlying3 hz hf).1
    replace hlk : (Instr.lookup 73 (.map (some mb)) (.int .i64 (k : Int)) true).run Tryz.prog w = .ok (.tuple #[.int .i64 0, .bool false]) w := hlk
    go_enter Tryz.func66, Tryz.ntmps66
    go_upto_region 5 with fail
    clear q1 q2 hlk
    obtain ⟨i, n, rfl, hn⟩ := node_at hk2 hk
    have hm := h.dg
    obtain ⟨g, cap, rfl, d0, d1, d2, hmx⟩ := hm.node hn
    have c4 : w.cell? ⟨sb, 1, none⟩ = some (.slice (some ⟨g, 0, none⟩) N.length cap) := (cell_of_blk hm.blk).trans rfl
    have l4 := lt_of_heap hm.blk
    have hi : i < N.length := (List.getElem?_eq_some_iff.1 hn).1
    have hmx' : N.length ≤ 9223372036854775807 := by unfold maxLen at hmx; omega
    have i1 : (((i + 2 : Nat) : Int) - 2) = (i : Int) := by omega
    have i2 : (0 : Int) ≤ (i : Int) := by omega
    have i3 : (i : Int) < (N.length : Int) := by omega
    have ok := hm.ok
    have HCT := Lib.hid (cntN_node ok hn)
    have HLV := Lib.hid (show n.lv < L ∧ n.lo < i + 2 ∧ n.hi < i + 2 ∧ n.lv < lev L N n.lo ∧ n.lv < lev L N n.hi ∧ n.lo < N.length + 2 ∧ n.hi < N.length + 2 ∧ lev L N n.lo ≤ L ∧ lev L N n.hi ≤ L from ⟨ok.lv _ _ hn, ok.lo _ _ hn, ok.hi _ _ hn, ok.llo _ _ hn, ok.lhi _ _ hn, by have := ok.lo _ _ hn; omega, by have := ok.hi _ _ hn; omega, ok.lev_le _, ok.lev_le _⟩)
    have HSM := Lib.hid (cntN_small ok hL hk)
    have KA := (Keeps.refl (fun _ => False) w).alloc (.cells #[.int .i64 (n.lv : Int), .int .i64 (n.lo : Int), .int .i64 (n.hi : Int)] 110)
    have HKA := Lib.hid KA
    have HH1 := Lib.hid (h.keeps0 KA)
    have HXB := Lib.hid (heap_alloc_new w (.cells #[.int .i64 (n.lv : Int), .int .i64 (n.lo : Int), .int .i64 (n.hi : Int)] 110))
    have HBX := Lib.hid (show w.heap.size ≠ mb from by have := h.mpk.lt; omega)
    clear h ih hk hf hk2 hm hmx hn ok KA HH hz
    go_upto_region 6 with fail
    generalize (w.alloc (.cells #[.int .i64 (n.lv : Int), .int .i64 (n.lo : Int), .int .i64 (n.hi : Int)] 110)) = w1 at HKA HH1 HXB ⊢
    generalize w.heap.size = bx at HBX HXB ⊢
    clear c1 c2 c3 c4 l1 l2 l3 l4 d0 d1 d2 i1 i2 i3 hmx' hi
    have KD := (Keeps.refl (fun _ => False) w1).drew
    have HH2 := Lib.hid (HH1.out.keeps0 KD); have HXB2 := Lib.hid (KD.heap HXB.out (fun h => h)); have HK2 := Lib.hid (HKA.out.trans KD)
    clear KD
    obtain ⟨la, hla⟩ : ∃ la, lev L N n.lo = la := ⟨_, rfl⟩
    obtain ⟨lb, hlb⟩ : ∃ lb, lev L N n.hi = lb := ⟨_, rfl⟩
    obtain ⟨ca, hca⟩ : ∃ ca, cntN L N n.lo = ca := ⟨_, rfl⟩
    obtain ⟨cb, hcb⟩ : ∃ cb, cntN L N n.hi = cb := ⟨_, rfl⟩
    have HLA := Lib.hid hla; have HLB := Lib.hid hlb; have HCA := Lib.hid hca; have HCB := Lib.hid hcb
    have hsum := HCT.out
    rw [hla, hlb, hca, hcb] at hsum
    have hv := HLV.out
    rw [hla, hlb] at hv
    obtain ⟨s1, hs1⟩ : ∃ s1, la - n.lv - 1 = s1 := ⟨_, rfl⟩
    obtain ⟨s2, hs2⟩ : ∃ s2, lb - n.lv - 1 = s2 := ⟨_, rfl⟩
    rw [hs1, hs2] at hsum
    have hsm := HSM.out
    rw [hsum] at hsm
    obtain ⟨va, hva⟩ : ∃ va, ca * 2 ^ s1 = va := ⟨_, rfl⟩
    obtain ⟨vb, hvb⟩ : ∃ vb, cb * 2 ^ s2 = vb := ⟨_, rfl⟩
    rw [hva] at hsum hsm; rw [hvb] at hsum hsm
    have hsh1 := run_shl hs1 hv.2.2.2.1 (by omega) hva (by omega)
    have hsh2 := run_shl hs2 hv.2.2.2.2.1 (by omega) hvb (by omega)
    have hsh3 : IntKind.i64.wrap ((va : Int) + (vb : Int)) = ((va + vb : Nat) : Int) := by rw [show (va : Int) + (vb : Int) = ((va + vb : Nat) : Int) from by omega]; exact IntWalk.i64_in _ (by omega)
    have HVS := Lib.hid hsum
    clear hla hlb hca hcb hv hva hvb hs1 hs2 hsum
    obtain ⟨_, c2, c3, _, _, _⟩ := cn_cells HH2.out
    have x0 : w1.drew.cell? ⟨bx, 0, none⟩ = some (.int .i64 (n.lv : Int)) := (cell_of_blk HXB2.out).trans rfl
    have x1 : w1.drew.cell? ⟨bx, 1, none⟩ = some (.int .i64 (n.lo : Int)) := (cell_of_blk HXB2.out).trans rfl
    have x2 : w1.drew.cell? ⟨bx, 2, none⟩ = some (.int .i64 (n.hi : Int)) := (cell_of_blk HXB2.out).trans rfl
    have hc1 := HIH.out n.lo HLV.out.2.1 w1.drew kn HH2.out HLV.out.2.2.2.2.2.1
    rw [HCA.out] at hc1
    have HC1 := Lib.hid hc1
    clear hc1 HSM
    go_region_held3 (fun w' => w'.cell? ⟨rb, 0, none⟩ = some (.pointer (some ⟨sb, 0, none⟩)) ∧ w'.cell? ⟨fb, 0, none⟩ = some (.func (.func 66) #[] #[.pointer (some ⟨kb, 0, none⟩), .pointer (some ⟨rb, 0, none⟩), .pointer (some ⟨fb, 0, none⟩)]) ∧ w'.cell? ⟨bx, 0, none⟩ = some (.int .i64 (n.lv : Int)) ∧ w'.cell? ⟨bx, 1, none⟩ = some (.int .i64 (n.lo : Int)) ∧ w'.cell? ⟨bx, 2, none⟩ = some (.int .i64 (n.hi : Int)))
      (go_keep)
      (first
        | (go_at_call 67; refine HC4.out.mono ?_; rintro en w7 ⟨rfl, hw7⟩; rw [hw7]; clear hw7 w7)
        | (go_at_call 67; refine HC2.out.mono ?_; rintro en w7 ⟨rfl, hw7⟩; rw [hw7]; clear hw7 w7)
        | (go_at_call 66; refine HC3.out.mono ?_; rintro en w6 ⟨kn2, rfl, hs6, hk6⟩; have HS6 := Lib.hid hs6; have HK6 := Lib.hid hk6; have HXB6 := Lib.hid (hk6.heap HXB5.out HBX.out); have hc4 := level_any w6 sb mf mp L N _ fm pm n.hi hs6.dg HLV.out.2.2.2.2.2.2.1; rw [HLB.out] at hc4; have HC4 := Lib.hid hc4; obtain ⟨_, s1, s2, _, _, _⟩ := cn_cells hs6; have s3 : w6.cell? ⟨bx, 0, none⟩ = some (.int .i64 (n.lv : Int)) := (cell_of_blk HXB6.out).trans rfl; have s4 : w6.cell? ⟨bx, 1, none⟩ = some (.int .i64 (n.lo : Int)) := (cell_of_blk HXB6.out).trans rfl; have s5 : w6.cell? ⟨bx, 2, none⟩ = some (.int .i64 (n.hi : Int)) := (cell_of_blk HXB6.out).trans rfl; clear hs6 hk6 hc4)
        | (go_at_call 66; refine HC1.out.mono ?_; rintro en w5 ⟨kn1, rfl, hs5, hk5⟩; have HS5 := Lib.hid hs5; have HK5 := Lib.hid hk5; have HXB5 := Lib.hid (hk5.heap HXB2.out HBX.out); have hc2 := level_any w5 sb mf mp L N _ fm pm n.lo hs5.dg HLV.out.2.2.2.2.2.1; rw [HLA.out] at hc2; have HC2 := Lib.hid hc2; have hc3 := HIH.out n.hi HLV.out.2.2.1 w5 kn1 hs5 HLV.out.2.2.2.2.2.2.1; rw [HCB.out] at hc3; have HC3 := Lib.hid hc3; obtain ⟨_, t1, t2, _, _, _⟩ := cn_cells hs5; have t3 : w5.cell? ⟨bx, 0, none⟩ = some (.int .i64 (n.lv : Int)) := (cell_of_blk HXB5.out).trans rfl; have t4 : w5.cell? ⟨bx, 1, none⟩ = some (.int .i64 (n.lo : Int)) := (cell_of_blk HXB5.out).trans rfl; have t5 : w5.cell? ⟨bx, 2, none⟩ = some (.int .i64 (n.hi : Int)) := (cell_of_blk HXB5.out).trans rfl; clear hs5 hk5 hc2 hc3))
    all_goals
      obtain ⟨c1, _, _, l1, _, _⟩ := cn_cells HS6.out
      obtain ⟨w8, hr8, hm8, hk8⟩ := HS6.out.mpk.put (P := Tryz.prog) Tryz.underlying73 Tryz.underlying3 (i + 2) (va + vb)
      replace hr8 : (Instr.mapUpdate 73 (.map (some mb)) (.int .i64 ((i : Int) + 2)) (.int .i64 ((va : Int) + (vb : Int)))).run Tryz.prog w6 = .ok () w8 := hr8
      have HM8 := Lib.hid hm8; have HK8 := Lib.hid hk8
      clear hm8 hk8
      go_wp2_with fail
      go_ret
      have hk26 := ((HK2.out.mono (fun _ _ h => h.elim)).trans HK5.out).trans HK6.out
      exact ⟨putP kn2 (i + 2) (va + vb), by rw [HVS.out]; rfl, HS6.out.put HM8.out HK8.out HVS.out.symm, hk26.trans HK8.out⟩

set_option maxRecDepth 100000 in
set_option maxHeartbeats 2000000 in
theorem count_any (w : World) (sb L : Nat) (N : List Dn) (G : Nat → Prop) (k : Nat) (h : Dg w sb L N G) (hL : L ≤ 24) (hk : k < N.length + 2) :
    Calls Tryz.prog 28 #[.pointer (some ⟨sb, 0, none⟩), .int .i64 (k : Int)] w fun e w' => e = .returned (.int .i64 ((cntN L N k * 2 ^ lev L N k : Nat) : Int)) ∧ Keeps (fun _ => False) w w' := by
  have eg : ∀ args w, (callFunc 66 args).run Tryz.prog w = .ok (.enter 66 args) w := enters_of Tryz.func66 (by kernel_rfl) rfl
  have hsf : ∀ (a : Addr) (fn : Fn) (first cap : Array Value) (m : Mode) (w : World), (store a (.func fn first cap) m).run Tryz.prog w = stored Tryz.prog w a (.func fn first cap) m := fun a fn first cap m w => run_store Tryz.prog w a _ m rfl
  have hmf : ∀ (fn : Fn) (first cap : Array Value) (w : World), (Instr.makeFunc fn first cap).run Tryz.prog w = .ok (.func fn first cap) w := fun _ _ _ _ => rfl
  have hmm := @run_makeMap Tryz.prog
  obtain ⟨va, hva⟩ : ∃ va, cntN L N k * 2 ^ lev L N k = va := ⟨_, rfl⟩
  have hvs : va ≤ 16777216 := by
    have h1 := cntN_le h.ok hk
    have h4 : 2 ^ L ≤ 2 ^ 24 := Nat.pow_le_pow_right (by omega) hL
    have e : (2 : Nat) ^ 24 = 16777216 := by decide
    omega
  obtain ⟨lk, hlk⟩ : ∃ lk, lev L N k = lk := ⟨_, rfl⟩
  obtain ⟨ck, hck⟩ : ∃ ck, cntN L N k = ck := ⟨_, rfl⟩
  have hlk24 : lk ≤ 24 := by have := h.ok.lev_le k; omega
  have hw : IntKind.i64.wrap ((ck : Int) * 2 ^ lk) = (va : Int) := by
    rw [show ((ck : Int) * 2 ^ lk) = ((ck * 2 ^ lk : Nat) : Int) from by simp, ← hck, ← hlk, hva]
    exact IntWalk.i64_in _ (by omega)
  have HW := Lib.hid hw
  clear hw
  rw [hva]
  have K1 := (Keeps.refl (fun _ => False) w).alloc (.cells #[.pointer (some ⟨sb, 0, none⟩)] 57)
  have K2 := (Keeps.refl (fun _ => False) (w.alloc (.cells #[.pointer (some ⟨sb, 0, none⟩)] 57))).alloc (.map #[] 0)
  have K3 := (Keeps.refl (fun _ => False) ((w.alloc (.cells #[.pointer (some ⟨sb, 0, none⟩)] 57)).alloc (.map #[] 0))).alloc (.cells #[.map (some (w.heap.size + 1))] 73)
  have K4 := (Keeps.refl (fun _ => False) (((w.alloc (.cells #[.pointer (some ⟨sb, 0, none⟩)] 57)).alloc (.map #[] 0)).alloc (.cells #[.map (some (w.heap.size + 1))] 73))).alloc (.cells #[(.func (.func 66) #[] #[.pointer (some ⟨w.heap.size + 1 + 1, 0, none⟩), .pointer (some ⟨w.heap.size, 0, none⟩), .pointer (some ⟨w.heap.size + 1 + 1 + 1, 0, none⟩)])] 63)
  have b1 := (K2.trans (K3.trans K4)).heap (heap_alloc_new w (.cells #[.pointer (some ⟨sb, 0, none⟩)] 57)) (fun h => h)
  have m2 := (NMap.made (w.alloc (.cells #[.pointer (some ⟨sb, 0, none⟩)] 57)) natV).keeps (K3.trans K4) (fun h => h)
  have b3 := K4.heap (heap_alloc_new ((w.alloc (.cells #[.pointer (some ⟨sb, 0, none⟩)] 57)).alloc (.map #[] 0)) (.cells #[.map (some (w.heap.size + 1))] 73)) (fun h => h)
  have b4 := heap_alloc_new (((w.alloc (.cells #[.pointer (some ⟨sb, 0, none⟩)] 57)).alloc (.map #[] 0)).alloc (.cells #[.map (some (w.heap.size + 1))] 73)) (.cells #[(.func (.func 66) #[] #[.pointer (some ⟨w.heap.size + 1 + 1, 0, none⟩), .pointer (some ⟨w.heap.size, 0, none⟩), .pointer (some ⟨w.heap.size + 1 + 1 + 1, 0, none⟩)])] 63)
  simp only [World.size_alloc] at m2 b3 b4
  obtain ⟨mf, mp, v, fm, pm, hm, hq, hbd⟩ := h
  have HK := Lib.hid (K1.trans (K2.trans (K3.trans K4))); have B1 := Lib.hid b1; have M2 := Lib.hid m2; have B3 := Lib.hid b3; have B4 := Lib.hid b4; have HM := Lib.hid hm; have HKL := Lib.hid hk
  have HLK := Lib.hid hlk; have HCK := Lib.hid hck
  clear K1 K2 K3 K4 b1 m2 b3 b4 hm hq hbd hk hva hlk hck
  go_enter Tryz.func28, Tryz.ntmps28
  go_upto_region 4 with fail
  generalize ((((w.alloc (.cells #[.pointer (some ⟨sb, 0, none⟩)] 57)).alloc (.map #[] 0)).alloc (.cells #[.map (some (w.heap.size + 1))] 73)).alloc (.cells #[(.func (.func 66) #[] #[.pointer (some ⟨w.heap.size + 1 + 1, 0, none⟩), .pointer (some ⟨w.heap.size, 0, none⟩), .pointer (some ⟨w.heap.size + 1 + 1 + 1, 0, none⟩)])] 63)) = W7 at HK B1 M2 B3 B4 ⊢
  have HCS := Lib.hid (show CnS (cnBl (w.heap.size + 1 + 1) w.heap.size (w.heap.size + 1 + 1 + 1) (w.heap.size + 1) sb) (w.heap.size + 1) sb mf mp L N v fm pm (fun _ => none) W7.drew from
    CnS.keeps0 (w := W7) ⟨fun q hq => by
      simp only [cnBl, List.mem_cons, List.not_mem_nil, or_false] at hq
      rcases hq with rfl | rfl | rfl
      · exact B3.out
      · exact B1.out
      · exact B4.out, fun q hq => by
      simp only [cnBl, List.mem_cons, List.not_mem_nil, or_false] at hq
      rcases hq with rfl | rfl | rfl <;> (simp only; omega), M2.out, HM.out.keeps HK.out (fun h => h) (fun h => h) (fun h => h) (fun _ _ h => h), by
      have hn := HM.out.ne
      exact ⟨by omega, by omega, by omega, fun k hk => by have := (HM.out.row_ne k hk).2.2.2; omega⟩, fun k x h => by cases h⟩ ((Keeps.refl (fun _ => False) W7).drew))
  have hc1 := cnt1_in L hL (w.heap.size + 1 + 1) w.heap.size (w.heap.size + 1 + 1 + 1) (w.heap.size + 1) sb mf mp N v fm pm k W7.drew _ HCS.out HKL.out
  rw [HCK.out] at hc1
  have HC1 := Lib.hid hc1
  have HKD := Lib.hid (HK.out.trans ((Keeps.refl (fun _ => False) W7).drew))
  obtain ⟨_, c2, c3, _, _, _⟩ := cn_cells HCS.out
  clear hL hc1
  go_region_held3 (fun w' => w'.cell? ⟨w.heap.size, 0, none⟩ = some (.pointer (some ⟨sb, 0, none⟩)) ∧ w'.cell? ⟨w.heap.size + 1 + 1 + 1, 0, none⟩ = some (.func (.func 66) #[] #[.pointer (some ⟨w.heap.size + 1 + 1, 0, none⟩), .pointer (some ⟨w.heap.size, 0, none⟩), .pointer (some ⟨w.heap.size + 1 + 1 + 1, 0, none⟩)]))
    (go_keep)
    (first
      | (go_at_call 67; refine HC2.out.mono ?_; rintro en w7 ⟨rfl, hw7⟩; rw [hw7]; clear hw7 w7)
      | (go_at_call 66; refine HC1.out.mono ?_; rintro en w5 ⟨kn1, rfl, hs5, hk5⟩; have HK5 := Lib.hid hk5; have hc2 := level_any w5 sb mf mp L N _ fm pm k hs5.dg HKL.out; rw [HLK.out] at hc2; have HC2 := Lib.hid hc2; obtain ⟨_, t1, t2, _, _, _⟩ := cn_cells hs5; clear hs5 hk5 hc2))
  all_goals
    go_wp2_with fail
    go_ret
    exact ⟨by show Ending.returned (Value.int .i64 (IntKind.i64.wrap ((ck : Int) * 2 ^ lk))) = _; rw [HW.out], HKD.out.trans' HK5.out (fun i hi => .inr (by rw [(show i = _ from hi)]; omega))⟩

end Go.Proofs.YtjcgkmodmjckjaaGreat

namespace Go.Proofs.YtjcgkmodmjckjaaGreat
open Go.RowKit Go.Sort Go.Proofs

/-! ### Contains -/
/-! ### the library's Sort and Compact over a row of the call's own -/
/-! ### an append of whatever slice -/
section
variable {P : Program} {w : World}
theorem run_appendS_zero (base : Nat) (t ty e : TypeId) (i : TypeInfo) (size : Nat) (ht : P.underlying t = some (.slice e)) (hi : P.info? e = some i)
    (v : Value) (n : Nat) (xs : List Value) (hown : w.ownsRow base e size v n xs) (ao : Option Addr) (c : Nat) :
    (Builtin.append_ #[t, t] ty #[v, .slice ao 0 c]).run P w = .ok v w := by
  rcases hown.2 with ⟨rfl, rfl⟩ | ⟨g, cap, cur, rfl, _, _, hnc, _⟩
  · cases ao <;> simp [Builtin.append_, run_underlying ht, sizeOf, typeInfo, hi, Builtin.lenOf, Builtin.firstCells, loadCells, loadCellsFrom]
  · cases ao <;> simp [Builtin.append_, run_underlying ht, sizeOf, typeInfo, hi, Builtin.lenOf, Builtin.firstCells, hnc, storeCells, loadCells, loadCellsFrom]
theorem wpList_appendS_zero {ops : Array Oper} {rest : List Oper} {o : Oper} {a : Act} {Q : Exit → Act → World → Prop} (hgd : o.guard = none) (s x : Operand) (t : TypeId)
    (ho : o.op = .call { callee := .builtin .append, args := #[s, x], argTypes := #[t, t] })
    (base : Nat) (e : TypeId) (i : TypeInfo) (size : Nat) (ht : P.underlying t = some (.slice e)) (hi : P.info? e = some i)
    (v : Value) (n : Nat) (xs : List Value) (hs : a.eval s = v) (hown : w.ownsRow base e size v n xs) (ao : Option Addr) (c : Nat) (hx : a.eval x = .slice ao 0 c)
    (h : wpList P ops Q rest (a.put o.dst v) w) : wpList P ops Q (o :: rest) a w := by
  refine wpList_plain hgd fun K hK => ?_
  have hrun := run_appendS_zero (P := P) (w := w) base t o.type e i size ht hi v n xs hown ao c
  unfold Oper.wp
  simp [execOp, ho, resolve, invoke, builtin, hs, hx, hrun, Result.andThen]
  exact hK _ _ h
theorem grownBy_refl (w : World) (row : Option Nat) : w.grownBy w row := ⟨rfl, rfl, rfl, Nat.le_refl _, fun _ _ _ => rfl⟩
/-- append(out, x...) to a row of the call's own, x whatever slice. -/
theorem wpList_append_src {ops : Array Oper} {rest : List Oper} {o : Oper} {a : Act} {Q : Exit → Act → World → Prop} (hgd : o.guard = none) (s x : Operand) (t : TypeId)
    (ho : o.op = .call { callee := .builtin .append, args := #[s, x], argTypes := #[t, t] })
    (base : Nat) (e : TypeId) (i : TypeInfo) (z : Value) (bytes : Nat) (ht : P.underlying t = some (.slice e)) (hi : P.info? e = some i) (hz : i.zero = some z)
    (hsize : i.size = 1) (hby : i.bytes = bytes) (hzs : z.cells.size = 1)
    (v : Value) (n : Nat) (xs : List Value) (hs : a.eval s = v) (hown : w.ownsRow base e 1 v n xs)
    (vx : Value) (m : Nat) (news : List Value) (hx : a.eval x = vx) (hsl : Sl w vx m news) (hl : news.length = m) (h1 : ∀ u ∈ news, u.oneCell' = true)
    (h63 : n + m ≤ maxLen) (hbytes : (n + m) * bytes ≤ 140737488355328) (hbase : base ≤ w.heap.size)
    (h : ∀ v' w', w'.ownsRow base e 1 v' (n + m) (xs ++ news) → w.grownBy w' v.ownBlock → (∀ g, v'.ownBlock = some g → v.ownBlock = some g ∨ w.heap.size ≤ g) → w.drawn ≤ w'.drawn → wpList P ops Q rest (a.put o.dst v') w') : wpList P ops Q (o :: rest) a w := by
  obtain ⟨ao, c, rfl, hm, hc⟩ := hsl
  rcases Nat.eq_zero_or_pos m with h0 | h0
  · subst h0
    have : news = [] := List.length_eq_zero_iff.1 hl
    subst this
    refine wpList_appendS_zero hgd s x t ho base e i 1 ht hi v n xs hs hown ao c hx (h v w (by simpa using hown) (grownBy_refl w _) (fun g hg => .inl hg) (Nat.le_refl _))
  · obtain ⟨b, off, rfl, hcell⟩ := hc h0
    refine wpList_append_d hgd s x t ho base e i z 1 bytes ht hi hz hsize hby hzs (by omega) v n xs hs hown ⟨b, off, none⟩ m c news hx (by omega) (fun j u hj => by
      have h := hcell j u hj
      by_cases hj0 : j = 0
      · subst hj0; simpa [Addr.add] using h
      · simpa [Addr.add, hj0] using h) h1 h0 h63 hbytes hbase w.heap.size rfl fun g cap w' h2 h3 h4 _ h6 => h _ w' h2 h3 (fun k hk => ?_) h6
    rcases h4 with h4 | h4
    · left; rw [h4]; exact hk
    · right; cases (show some g = some k from hk); omega
end

/-! ### Update -/
/-! ### Can, Next -/
end Go.Proofs.YtjcgkmodmjckjaaGreat

namespace Go.Proofs.YtjcgkmodmjckjaaGreat
open Go.RowKit

set_option maxRecDepth 100000 in
theorem newStore_any (w : World) (L : Nat) :
    Calls Tryz.prog 62 #[.int .i64 (L : Int)] w fun e w' => ∃ sb, e = .returned (.pointer (some ⟨sb, 0, none⟩)) ∧ Dg w' sb L [] (fun q => w.heap.size ≤ q ∧ q < w'.heap.size) ∧ Keeps (fun _ => False) w w' ∧ w.heap.size ≤ sb := by
  have hmm := @run_makeMap Tryz.prog
  have K1 := (Keeps.refl (fun _ => False) w).alloc (.map #[] 0)
  have K2 := (Keeps.refl (fun _ => False) (w.alloc (.map #[] 0))).alloc (.map #[] 0)
  have K3 := (Keeps.refl (fun _ => False) ((w.alloc (.map #[] 0)).alloc (.map #[] 0))).alloc (.cells #[.int .i64 (L : Int), .slice none 0 0, .map (some w.heap.size), .map (some (w.heap.size + 1))] 106)
  have m1 := (TMap.made w).keeps (K2.trans K3) (fun h => h)
  have m2 := (TMap.made (w.alloc (.map #[] 0))).keeps K3 (fun h => h)
  have b3 := heap_alloc_new ((w.alloc (.map #[] 0)).alloc (.map #[] 0)) (.cells #[.int .i64 (L : Int), .slice none 0 0, .map (some w.heap.size), .map (some (w.heap.size + 1))] 106)
  simp only [World.size_alloc] at m2 b3
  have HM := Lib.hid (show DgM (((w.alloc (.map #[] 0)).alloc (.map #[] 0)).alloc (.cells #[.int .i64 (L : Int), .slice none 0 0, .map (some w.heap.size), .map (some (w.heap.size + 1))] 106)) (w.heap.size + 1 + 1) w.heap.size (w.heap.size + 1) L [] (.slice none 0 0) (fun _ => none) (fun _ => none) from
    ⟨b3, World.ownsRow_nil _ _ _ _, m1, m2, by omega, DgOk.nil L, fun l lo hi k => ⟨fun h => absurd h (by simp), fun h => absurd h.2 (by simp)⟩, fun op a b k h => absurd h (by simp)⟩)
  have HK := Lib.hid (K1.trans (K2.trans K3))
  clear K1 K2 K3 m1 m2 b3
  go_enter Tryz.func62, Tryz.ntmps62
  go_wp2_with fail
  go_ret
  have hn := HM.out.ne
  exact ⟨w.heap.size + 1 + 1, rfl, ⟨_, _, _, _, _, HM.out, ⟨⟨by omega, hn.2.2.1⟩, ⟨by omega, hn.2.2.2.1⟩, ⟨by omega, hn.2.2.2.2⟩, fun k h => absurd h (by simp [Value.ownBlock])⟩, fun q h => h.2⟩, HK.out, by omega⟩

theorem wpList_append_run {P : Program} {w : World} {ops : Array Oper} {rest : List Oper} {o : Oper} {a : Act} {Q : Exit → Act → World → Prop} (hgd : o.guard = none) (s x : Operand) (t tn : TypeId)
    (ho : o.op = .call { callee := .builtin .append, args := #[s, x], argTypes := #[t, tn] }) (vs vx : Value) (hs : a.eval s = vs) (hx : a.eval x = vx) (v' : Value) (w' : World)
    (hr : (Builtin.append_ #[t, tn] o.type #[vs, vx]).run P w = .ok v' w') (h : wpList P ops Q rest (a.put o.dst v') w') : wpList P ops Q (o :: rest) a w :=
  wpList_plain hgd fun K hK => by
    unfold Oper.wp execOp
    simp only [ho, resolve, invoke, builtin, Sem.run_bind, Sem.run_pure, Result.andThen_ok, List.map_toArray, List.map_cons, List.map_nil, hs, hx, hr]
    exact hK _ _ h

set_option maxRecDepth 100000 in
theorem growNil_any (w : World) (n : Nat) (hn : n ≤ 1000) :
    Calls Tryz.prog 118 #[.slice none 0 0, .int .i64 (n : Int)] w fun e w' => ∃ v, e = .returned v ∧ w'.ownsRow w.heap.size 3 1 v 0 [] ∧ Keeps (fun _ => False) w w' := by
  obtain ⟨i0, hi0, hz0, hz1, hz2⟩ := info_parts Tryz.info3
  have q1 : decide ((n : Int) < 0) = false := by simp
  by_cases h0 : n = 0
  · subst h0
    have q2 : decide ((0 : Int) < 0) = false := rfl
    go_enter Tryz.func118, Tryz.ntmps118
    go_wp2_with fail
    go_ret
    exact ⟨_, rfl, World.ownsRow_nil _ _ _ _, Keeps.refl _ _⟩
  · have q2 : decide ((0 : Int) < (n : Int)) = true := by simp; omega
    have q3 : decide (0 < n) = true := by simp; omega
    have hap := fun ty => Lib.run_append_nil_zeros (P := Tryz.prog) w 22 3 ty 3 i0 (.int .i64 0) .i64 .i64 Tryz.underlying22 Tryz.underlying3 hi0 hz0 n (by omega) (by omega) (by omega) (by rw [hz2]; omega)
    obtain ⟨cp, hcp⟩ : ∃ cp, grownCap w n 0 3 = cp := ⟨_, rfl⟩
    have hge : n ≤ cp := by rw [← hcp]; exact grownCap_ge _ _ _ _
    have hcx : cp ≤ maxLen := by rw [← hcp]; exact grownCap_le_maxLen _ _ _ _ (by unfold maxLen; omega)
    rw [hcp] at hap
    have hs : (Builtin.zeroCells (Value.int .i64 0).cells n ++ Builtin.zeroCells (Value.int .i64 0).cells (cp - n)).size = cp := by simp [size_zeroCells, Value.cells]; omega
    generalize (Builtin.zeroCells (Value.int .i64 0).cells n ++ Builtin.zeroCells (Value.int .i64 0).cells (cp - n)) = cur at hap hs
    have HW := Lib.hid (show (w.drew.alloc (.cells cur 3)).ownsRow w.heap.size 3 1 (.slice (some ⟨w.heap.size, 0, none⟩) 0 cp) 0 [] from
      ⟨rfl, .inr ⟨w.heap.size, cp, cur, rfl, Nat.le_refl _, heap_alloc_new w.drew _, Nat.zero_le _, hcx, by omega, by simp⟩⟩)
    have HK := Lib.hid ((Keeps.refl (fun _ => False) w).drew.alloc (.cells cur 3))
    clear hcp hs
    go_enter Tryz.func118, Tryz.ntmps118
    go_wp2_with (at_builtin; refine wpList_append_run rfl _ _ _ _ rfl (.slice none 0 0) (.int .i64 (n : Int)) (by rfl) (by rfl) _ _ (hap _) ?_)
    go_wp2_with fail
    go_ret
    exact ⟨_, rfl, HW.out, HK.out⟩

end Go.Proofs.YtjcgkmodmjckjaaGreat

namespace Go.Proofs.YtjcgkmodmjckjaaGreat
open Go.RowKit

theorem flat_take {ls : List (List Int)} {k : Nat} {l : List Int} (h : ls[k]? = some l) : (ls.take (k + 1)).flatten = (ls.take k).flatten ++ l := by
  rw [take_getS h, List.flatten_append]; simp
theorem flat_take_le (ls : List (List Int)) (k : Nat) : (ls.take k).flatten.length ≤ ls.flatten.length := by
  have h : ls.flatten = (ls.take k).flatten ++ (ls.drop k).flatten := by rw [← List.flatten_append, List.take_append_drop]
  rw [h, List.length_append]; omega

/-- How many elements the first k rows have. -/
def flatLen (ls : List (List Int)) (k : Nat) : Nat := (ls.take k).flatten.length
theorem flatLen_step {ls : List (List Int)} {k : Nat} {l : List Int} (h : ls[k]? = some l) : flatLen ls (k + 1) = flatLen ls k + l.length := by unfold flatLen; rw [flat_take h, List.length_append]
theorem flatLen_le (ls : List (List Int)) (k : Nat) : flatLen ls k ≤ ls.flatten.length := flat_take_le ls k
def flatV (ls : List (List Int)) (k : Nat) : List Value := (ls.take k).flatten.map (Value.int .i64)
theorem flatV_step {ls : List (List Int)} {k : Nat} {l : List Int} (h : ls[k]? = some l) : flatV ls (k + 1) = flatV ls k ++ l.map (Value.int .i64) := by unfold flatV; rw [flat_take h, List.map_append]
theorem flatV_all {ls : List (List Int)} {k : Nat} (h : ls.length ≤ k) : flatV ls k = ls.flatten.map (Value.int .i64) := by unfold flatV; rw [List.take_of_length_le h]
theorem flatLen_all {ls : List (List Int)} {k : Nat} (h : ls.length ≤ k) : flatLen ls k = ls.flatten.length := by unfold flatLen; rw [List.take_of_length_le h]

set_option maxRecDepth 100000 in
set_option maxHeartbeats 2000000 in
theorem concat_any (w : World) (v : Value) (ls : List (List Int)) (h : Lists w v ls) (hn : ls.length ≤ 1000) (hs : ls.flatten.length ≤ 1000) :
    Calls Tryz.prog 95 #[v] w fun e w' => ∃ v', e = .returned v' ∧ w'.ownsRow w.heap.size 3 1 v' ls.flatten.length (ls.flatten.map (Value.int .i64)) ∧ Keeps (fun _ => False) w w' := by
  obtain ⟨i0, hi0, hz0, hz1, hz2⟩ := info_parts Tryz.info3
  have HL := Lib.hid h
  obtain ⟨ao, cap, hv, hm, hc⟩ := h
  subst hv
  have HC := Lib.hid hc
  clear hc
  go_enter Tryz.func95, Tryz.ntmps95
  go_wp2_with fail
  go_loop [3, 11] (fun sv iv => ∃ k : Nat, k ≤ ls.length ∧ iv = .int .i64 (k : Int) ∧ sv = .int .i64 (flatLen ls k : Int)) (fun _ iv => ls.length - (intOf iv).toNat)
  case atStart => exact ⟨0, Nat.zero_le _, rfl, rfl⟩
  case round =>
    obtain ⟨k, hk, rfl, rfl⟩ := hrel
    by_cases hlt : k < ls.length
    · obtain ⟨b, off, rfl, hcell⟩ := HC.out (by omega)
      obtain ⟨l, hl⟩ : ∃ l, ls[k]? = some l := ⟨_, List.getElem?_eq_getElem hlt⟩
      obtain ⟨u, hu, hin⟩ := hcell k l hl
      obtain ⟨al, cl, hul, ml⟩ := hin.form
      subst hul
      have HF := Lib.hid (flatLen_step hl)
      have hle := flatLen_le ls (k + 1)
      rw [flatLen_step hl] at hle
      have hd : decide (((flatLen ls k : Int) + (l.length : Int)) < 0) = false := by simp; omega
      have i0' : (0 : Int) ≤ (k : Int) := by omega
      have i1' : (k : Int) < (ls.length : Int) := by omega
      clear hcell hin hl
      go_wp2_with fail
      go_round
      case rel => exact ⟨k + 1, by omega, by go_num, by rw [HF.out]; go_num⟩
      case measure => simp [intOf]; omega
    · have HG := Lib.hid (growNil_any w (flatLen ls k) (by have := flatLen_le ls k; omega))
      have hk' : k = ls.length := by omega
      subst hk'
      clear hlt
      go_wp2_with fail
      refine HG.out.mono ?_; rintro e w2 ⟨v0, rfl, hown, hk2⟩
      have HO2 := Lib.hid hown; have HK2 := Lib.hid hk2
      clear hown hk2 HG
      go_wp2_with fail
      go_loopw [6, 27] (fun ov iv wr => ∃ k : Nat, k ≤ ls.length ∧ iv = .int .i64 (k : Int) ∧ wr.ownsRow w.heap.size 3 1 ov (flatLen ls k) (flatV ls k) ∧ Keeps (fun _ => False) w wr) (fun _ iv _ => ls.length - (intOf iv).toNat)
      case atStart => exact ⟨0, Nat.zero_le _, rfl, HO2.out, HK2.out⟩
      case round =>
        obtain ⟨j, hj, rfl, how, hkw⟩ := hrel
        have HO := Lib.hid how; have HK := Lib.hid hkw
        clear how hkw
        by_cases hlt : j < ls.length
        · obtain ⟨b, off, rfl, hcell⟩ := HC.out (by omega)
          obtain ⟨l, hl⟩ : ∃ l, ls[j]? = some l := ⟨_, List.getElem?_eq_getElem hlt⟩
          obtain ⟨u, hu0, hin0⟩ := hcell j l hl
          have hu := HK.out.cell hu0 (fun h => h)
          have HIN := Lib.hid (hin0.keeps0 HK.out)
          obtain ⟨al, cl, hul, ml⟩ := hin0.form
          subst hul
          have HF := Lib.hid (flatV_step hl)
          have HFL := Lib.hid (flatLen_step hl)
          have hle := flatLen_le ls (j + 1)
          rw [flatLen_step hl] at hle
          have i0' : (0 : Int) ≤ (j : Int) := by omega
          have i1' : (j : Int) < (ls.length : Int) := by omega
          have hsz := HK.out.size
          clear hcell hin0 hl hu0
          go_wp2_with (at_builtin; refine wpList_append_src rfl _ _ _ rfl w.heap.size 3 i0 _ 8 Tryz.underlying22 hi0 hz0 hz1 hz2 rfl _ (flatLen ls j) (flatV ls j) (by rfl) HO.out _ l.length (l.map (Value.int .i64)) (by rfl) HIN.out (by simp) (by simp [Value.oneCell']) (by unfold maxLen; omega) (by omega) (by omega) ?_)
          intro v' w4 hown hgrow hat hd4
          have HN := Lib.hid (show w4.ownsRow w.heap.size 3 1 v' (flatLen ls (j + 1)) (flatV ls (j + 1)) from by
            rw [HFL.out, HF.out]; exact hown)
          have HKN := Lib.hid (own_grown HO.out HK.out (Keeps.refl _ _) hgrow)
          clear hown hgrow hat hd4
          go_wp2_with fail
          go_roundw
          case rel => exact ⟨j + 1, by omega, by go_num, HN.out, HKN.out⟩
          case measure => simp [intOf]; omega
        · have ho := HO.out
          rw [flatLen_all (by omega), flatV_all (by omega)] at ho
          have HOF := Lib.hid ho
          clear ho HO
          go_wp2_with fail
          go_ret
          exact ⟨_, rfl, HOF.out, HK.out⟩

end Go.Proofs.YtjcgkmodmjckjaaGreat

namespace Go.Proofs.YtjcgkmodmjckjaaGreat
open Go.RowKit

/-- What And and Exists may cost. -/
def opC (a : Nat) : Nat := if a = 0 then 0 else 524287
theorem opC_le (a : Nat) : opC a ≤ 524287 := by unfold opC; split <;> omega
theorem zero_of_false {L : Nat} {N N' : List Dn} {k b l : Nat} {S : Nat → Bool} (h : DgPost L N N' k b l S) (hs : ∀ m, S m = false) : k = 0 := by
  by_cases h0 : k = 0
  · exact h0
  · obtain ⟨m, _, _, hm⟩ := dv_some h.ok k h.lt h0
    rw [h.val, hs] at hm; cases hm
/-- What an operation hands back, with what it costs, and that it hands back nothing where it is given nothing. -/
def DgZ (w : World) (sb L : Nat) (N : List Dn) (G : Nat → Prop) (b : Nat) (z : Prop) (S : Nat → Bool) (e : Ending) (w' : World) : Prop :=
  ∃ (k : Nat) (N' : List Dn) (G' : Nat → Prop), e = .returned (.int .i64 (k : Int)) ∧ DgPost L N N' k b 0 S ∧ (z → k = 0) ∧ Dg w' sb L N' G' ∧ Keeps G w w' ∧ ∀ q, G' q → G q ∨ w.heap.size ≤ q

set_option maxRecDepth 100000 in
theorem bothz_any (w : World) (sb b : Nat) : Calls Tryz.prog 65 #[.pointer (some ⟨sb, 0, none⟩), .int .i64 0, .int .i64 0, .int .i64 (b : Int)] w fun e w' => e = .returned (.int .i64 0) ∧ w' = w := by
  by_cases h0 : b = 0
  · subst h0
    go_enter Tryz.func65, Tryz.ntmps65
    go_wp2_with fail
    go_ret
    exact ⟨rfl, rfl⟩
  · have q1 : ((0 : Int) == (b : Int)) = false := by simp; omega
    by_cases h1 : b = 1
    · subst h1
      go_enter Tryz.func65, Tryz.ntmps65
      go_wp2_with fail
      go_ret
      exact ⟨rfl, rfl⟩
    · have q2 : decide ((b : Int) < 2) = false := by simp; omega
      have q3 : decide (b < 2) = false := by simp; omega
      go_enter Tryz.func65, Tryz.ntmps65
      go_wp2_with fail
      go_ret
      exact ⟨rfl, rfl⟩
set_option maxRecDepth 100000 in
theorem andz_any (w : World) (sb L : Nat) (N : List Dn) (G : Nat → Prop) (a b : Nat) (h : Dg w sb L N G) (hL : L ≤ 24) (ha : a < N.length + 2) (hb : b < N.length + 2) (hbig : low N + opC a ≤ 5800000000000) :
    Calls Tryz.prog 40 #[.pointer (some ⟨sb, 0, none⟩), .int .i64 (a : Int), .int .i64 (b : Int)] w (DgZ w sb L N G (opC a) (a = 0) (fun m => dv N a m && dv N b m)) := by
  by_cases h0 : a = 0
  · subst h0
    have HD := Lib.hid h
    have HC := Lib.hid (bothz_any w sb b)
    clear h hL ha hb hbig
    go_enter Tryz.func40, Tryz.ntmps40
    go_wp2_with fail
    refine HC.out.mono ?_; rintro e w2 ⟨rfl, hw⟩
    rw [hw]; clear hw w2
    go_wp2_with fail
    go_ret
    exact ⟨0, N, G, rfl, .same HD.out.ok (by omega) (fun m => by rw [dv_zero]; rfl) (Nat.zero_le _), fun _ => rfl, HD.out, Keeps.refl _ _, fun q h => .inl h⟩
  · have hc : opC a = 524287 := by unfold opC; rw [if_neg h0]
    have hl := lowB_le L (min (lev L N a) (lev L N b))
    refine (and_any w sb L N G a b h hL ha hb (by omega)).mono ?_
    rintro e w' ⟨k, N', G', rfl, hp, hd, hk, hn⟩
    exact ⟨k, N', G', rfl, hp.weak (by omega) (Nat.zero_le _) (fun _ => rfl), fun h => absurd h h0, hd, hk, hn⟩
theorem exz_any (w : World) (sb L p : Nat) (N : List Dn) (G : Nat → Prop) (a : Nat) (h : Dg w sb L N G) (hL : L ≤ 24) (hp : p < L) (ha : a < N.length + 2) (hbig : low N + opC a ≤ 5800000000000) :
    Calls Tryz.prog 96 #[.pointer (some ⟨sb, 0, none⟩), .int .i64 (a : Int), .int .i64 (p : Int)] w (DgZ w sb L N G (opC a) (a = 0) (exT p (dv N a))) := by
  have hc : lowB L (lev L N a) ≤ opC a := by
    unfold opC
    by_cases h0 : a = 0
    · subst h0; rw [if_pos rfl, lev_lt (by omega), lowB_top (Nat.le_refl _)]; exact Nat.le_refl _
    · rw [if_neg h0]; exact lowB_le _ _
  refine (exists_any w sb L p N G a h hL hp ha (by omega)).mono ?_
  rintro e w' ⟨k, N', G', rfl, hp', hd, hk, hn⟩
  exact ⟨k, N', G', rfl, hp'.weak hc (Nat.zero_le _) (fun _ => rfl), fun h0 => by subst h0; exact zero_of_false hp' (fun m => by unfold exT; rw [dv_zero, dv_zero]; rfl), hd, hk, hn⟩

/-- f, and the facts of ps are all there (or all not). -/
def litS (b : Bool) (ps : List Int) (f : Nat → Bool) (m : Nat) : Bool := f m && ps.all fun p => m.testBit p.toNat == b
theorem litS_nil (b : Bool) (f : Nat → Bool) (m : Nat) : litS b [] f m = f m := by unfold litS; simp
theorem litS_snoc (b : Bool) (ps : List Int) (f : Nat → Bool) (x : Nat) (m : Nat) : litS b (ps ++ [(x : Int)]) f m = (litS b ps f m && (m.testBit x == b)) := by
  unfold litS
  rw [List.all_append, Bool.and_assoc]
  simp
theorem lit_step {L : Nat} {N N' N1 N2 : List Dn} {k k1 k2 b c x j : Nat} {f : Nat → Bool} {ps : List Int} {pos : Bool} (hp : DgPost L N N' k b 0 (litS pos (ps.take j) f)) (h1 : DgPost L N' N1 k1 (nb x) x (fun m => m.testBit x == pos)) (h2 : DgPost L N1 N2 k2 c 0 (fun m => dv N1 k m && dv N1 k1 m)) (hx : ps[j]? = some (x : Int)) :
    DgPost L N N2 k2 (b + (1 + c)) 0 (litS pos (ps.take (j + 1)) f) :=
  ((hp.trans h1).trans h2).weak (by have := nb_le x; omega) (Nat.zero_le _) (fun m => by
    rw [take_getS hx, litS_snoc, h1.val, h1.le.dv hp.ok hp.lt, hp.val])
theorem exs_step {L : Nat} {N N' N2 : List Dn} {k k2 b c x : Nat} {f : Nat → Bool} (hp : DgPost L N N' k b 0 f) (h2 : DgPost L N' N2 k2 c 0 (exT x (dv N' k))) :
    DgPost L N N2 k2 (b + c) 0 (exT x f) :=
  (hp.trans h2).weak (Nat.le_refl _) (Nat.zero_le _) (fun m => by unfold exT; rw [hp.val, hp.val])
/-- For some values of the facts of ps. -/
def exsT (ps : List Int) (f : Nat → Bool) : Nat → Bool := ps.foldl (fun g p => exT p.toNat g) f
theorem exsT_snoc (ps : List Int) (x : Nat) (f : Nat → Bool) : exsT (ps ++ [(x : Int)]) f = exT x (exsT ps f) := by unfold exsT; rw [List.foldl_append]; rfl
/-- The sets of a task in memory: the box, and the store. -/
structure StS (w0 w : World) (ss sb L : Nat) (N : List Dn) (G : Nat → Prop) (n : Int) (vi vg vo : Value) (gk : Nat) : Prop where
  blk : w.heap[ss]? = some (.cells #[.pointer (some ⟨sb, 0, none⟩), .int .i64 n, vi, vg, vo, .int .i64 (gk : Int)] 59 (0, 0))
  dg : Dg w sb L N G
  sep : ¬ G ss
  k0 : Keeps (fun _ => False) w0 w
  gb : ∀ q, G q → w0.heap.size ≤ q
theorem StS.op {w0 w w' : World} {ss sb L : Nat} {N N' : List Dn} {G G' : Nat → Prop} {n : Int} {vi vg vo : Value} {gk : Nat} (h : StS w0 w ss sb L N G n vi vg vo gk) (hd : Dg w' sb L N' G') (hk : Keeps G w w') (hn : ∀ q, G' q → G q ∨ w.heap.size ≤ q) : StS w0 w' ss sb L N' G' n vi vg vo gk :=
  ⟨hk.heap h.blk h.sep, hd, fun hq => (hn _ hq).elim h.sep (fun hs => by have := lt_of_heap h.blk; omega), h.k0.trans' hk (fun i hi => .inr (h.gb i hi)), fun q hq => (hn q hq).elim (h.gb q) (fun hs => Nat.le_trans h.k0.size hs)⟩
theorem StS.keeps0 {w0 w w' : World} {ss sb L : Nat} {N : List Dn} {G : Nat → Prop} {n : Int} {vi vg vo : Value} {gk : Nat} (h : StS w0 w ss sb L N G n vi vg vo gk) (hk : Keeps (fun _ => False) w w') : StS w0 w' ss sb L N G n vi vg vo gk :=
  ⟨hk.heap h.blk (fun h => h), h.dg.keeps0 hk, h.sep, h.k0.trans hk, h.gb⟩
theorem StS.c0 {w0 w : World} {ss sb L : Nat} {N : List Dn} {G : Nat → Prop} {n : Int} {vi vg vo : Value} {gk : Nat} (h : StS w0 w ss sb L N G n vi vg vo gk) : w.cell? ⟨ss, 0, none⟩ = some (.pointer (some ⟨sb, 0, none⟩)) ∧ ss < w.heap.size := ⟨(cell_of_blk h.blk).trans rfl, lt_of_heap h.blk⟩
/-- What a function of the sets hands back. -/
def StR (w0 w : World) (ss sb L : Nat) (N : List Dn) (G : Nat → Prop) (n : Int) (vi vg vo : Value) (gk b : Nat) (z : Prop) (S : Nat → Bool) (e : Ending) (w' : World) : Prop :=
  ∃ (k : Nat) (N' : List Dn) (G' : Nat → Prop), e = .returned (.int .i64 (k : Int)) ∧ DgPost L N N' k b 0 S ∧ (z → k = 0) ∧ StS w0 w' ss sb L N' G' n vi vg vo gk ∧ Keeps G w w' ∧ ∀ q, G' q → G q ∨ w.heap.size ≤ q

end Go.Proofs.YtjcgkmodmjckjaaGreat

namespace Go.Proofs.YtjcgkmodmjckjaaGreat
open Go.RowKit

theorem StS.drew {w0 w : World} {ss sb L : Nat} {N : List Dn} {G : Nat → Prop} {n : Int} {vi vg vo : Value} {gk : Nat} (h : StS w0 w ss sb L N G n vi vg vo gk) : StS w0 w.drew ss sb L N G n vi vg vo gk := h.keeps0 ((Keeps.refl (fun _ => False) w).drew)

set_option maxRecDepth 100000 in
set_option maxHeartbeats 2000000 in
theorem without_any (w0 w : World) (ss sb L : Nat) (N : List Dn) (G : Nat → Prop) (n : Int) (vi vg vo : Value) (gk : Nat) (a b : Nat) (h : StS w0 w ss sb L N G n vi vg vo gk) (hL : L ≤ 24) (ha : a < N.length + 2) (hb : b < N.length + 2) (hbig : low N + 2000000 ≤ 5800000000000) :
    Calls Tryz.prog 30 #[.pointer (some ⟨ss, 0, none⟩), .int .i64 (a : Int), .int .i64 (b : Int)] w (StR w0 w ss sb L N G n vi vg vo gk (524287 + opC a) (a = 0) (fun m => dv N a m && !dv N b m)) := by
  have HS := Lib.hid h.drew
  obtain ⟨c0, l0⟩ := h.c0
  have c1 := HS.out.c0.1
  have HC1 := Lib.hid (not_any w.drew sb L N G b HS.out.dg hL hb (by have := lowB_le L (lev L N b); omega))
  have HA := Lib.hid (show a < N.length + 2 from ha)
  have HB := Lib.hid (show low N + 2000000 ≤ 5800000000000 from hbig)
  have HK := Lib.hid ((Keeps.refl G w).drew)
  clear h ha hb hbig
  go_enter Tryz.func30, Tryz.ntmps30
  go_upto_region 1 with fail
  go_region_held3 (fun w' => w'.cell? ⟨ss, 0, none⟩ = some (.pointer (some ⟨sb, 0, none⟩)))
    (go_keep)
    (first
      | (go_at_call 40; refine HC2.out.mono ?_; rintro en w6 ⟨k2, N2, G2, rfl, hp2, hz2, hd2, hk2, hn2⟩; have HP2 := Lib.hid hp2; have HZ2 := Lib.hid hz2; have HS2 := Lib.hid (HS1.out.op hd2 hk2 hn2); have HK2 := Lib.hid hk2; have HN2 := Lib.hid hn2; have u1 := HS2.out.c0.1; clear hp2 hz2 hd2 hk2 hn2)
      | (go_at_call 70; refine HC1.out.mono ?_; rintro en w5 ⟨k1, N1, G1, rfl, hp1, hd1, hk1, hn1⟩; have HP1 := Lib.hid hp1; have HS1 := Lib.hid (HS.out.op hd1 hk1 hn1); have HK1 := Lib.hid hk1; have HN1 := Lib.hid hn1; have t1 := HS1.out.c0.1; have HC2 := Lib.hid (andz_any w5 sb L N1 G1 a k1 hd1 hL (by have := hp1.le.len; have := HA.out; omega) hp1.lt (by have h1 := hp1.cnt; have h2 := lowB_le L (lev L N b); have h3 := HB.out; have h4 := opC_le a; omega)); clear hp1 hd1 hk1 hn1))
  all_goals
    go_wp2_with fail
    go_ret
    exact ⟨k2, N2, G2, rfl, (HP1.out.trans HP2.out).weak (by have := lowB_le L (lev L N b); omega) (Nat.zero_le _) (fun m => by rw [HP1.out.le.dv HS.out.dg.ok HA.out, HP1.out.val]; rfl), HZ2.out, HS2.out, (HK.out.trans HK1.out).trans' HK2.out HN1.out, news HN1.out HN2.out HK1.out.size⟩

theorem opC_mono {a k : Nat} (h : a = 0 → k = 0) : opC k ≤ opC a := by
  unfold opC
  by_cases h0 : a = 0
  · rw [if_pos h0, if_pos (h h0)]; exact Nat.le_refl _
  · rw [if_neg h0]; split <;> omega

set_option maxRecDepth 100000 in
set_option maxHeartbeats 4000000 in
theorem set_any (w0 w : World) (ss sb L : Nat) (N : List Dn) (G : Nat → Prop) (n : Int) (vi vg vo : Value) (gk : Nat) (a : Nat) (vp va vd : Value) (cst : Int) (add del : List Int) (h : StS w0 w ss sb L N G n vi vg vo gk) (hL : L ≤ 24) (ha : a < N.length + 2) (hia : Ints w0 va add) (hid : Ints w0 vd del) (hra : ∀ p ∈ add, 0 ≤ p ∧ p < (L : Int)) (hrd : ∀ p ∈ del, 0 ≤ p ∧ p < (L : Int)) (hbig : low N + (add.length + del.length) * (1 + opC a) + 2 ≤ 5800000000000) :
    Calls Tryz.prog 68 #[.pointer (some ⟨ss, 0, none⟩), .int .i64 (a : Int), .agg #[vp, va, vd, .int .i64 cst]] w (StR w0 w ss sb L N G n vi vg vo gk ((add.length + del.length) * (1 + opC a)) (a = 0) (litS false del (litS true add (dv N a)))) := by
  obtain ⟨aa, ca, h1, ma⟩ := hia.form
  obtain ⟨ad, cd, h2, md⟩ := hid.form
  subst h1 h2
  have HPA := Lib.hid hia; have HPD := Lib.hid hid; have HRA := Lib.hid hra; have HRD := Lib.hid hrd
  have hsum : add.length * (1 + opC a) + del.length * (1 + opC a) = (add.length + del.length) * (1 + opC a) := (Nat.add_mul _ _ _).symm
  have HBG2 := Lib.hid (show low N + (add.length * (1 + opC a) + del.length * (1 + opC a)) + 2 ≤ 5800000000000 from by omega)
  have HBG := Lib.hid (show low N + (0 + add.length * (1 + opC a)) + 2 ≤ 5800000000000 from by omega)
  have HSUM := Lib.hid hsum
  have KB := (Keeps.refl (fun _ => False) w).alloc (.cells #[vp, .slice aa add.length ca, .slice ad del.length cd, .int .i64 cst] 72)
  have HXB := Lib.hid (heap_alloc_new w (.cells #[vp, .slice aa add.length ca, .slice ad del.length cd, .int .i64 cst] 72))
  have HBN := Lib.hid (show ¬ G w.heap.size from fun h' => by have := h.dg.bnd _ h'; omega)
  have HP0 := Lib.hid (show DgPost L N N a 0 0 (dv N a) from .same h.dg.ok ha (fun _ => rfl) (Nat.zero_le _))
  have HZ0 := Lib.hid (show a = 0 → a = 0 from fun h => h)
  have HS0 := Lib.hid (h.keeps0 KB); have HKB := Lib.hid (KB.mono (S' := G) (fun _ _ h => h.elim))
  clear h hia hid hra hrd hbig ha KB hsum
  go_enter Tryz.func68, Tryz.ntmps68
  go_upto_region 1 with fail
  generalize (w.alloc (.cells #[vp, .slice aa add.length ca, .slice ad del.length cd, .int .i64 cst] 72)) = w1 at HXB HS0 HKB ⊢
  generalize w.heap.size = bx at HBN HXB ⊢
  have HK0 := Lib.hid (Keeps.refl G w1); have HN0 := Lib.hid (show ∀ q, G q → G q ∨ w1.heap.size ≤ q from fun q h => .inl h)
  have x1 : w1.cell? ⟨bx, 1, none⟩ = some (.slice aa add.length ca) := (cell_of_blk HXB.out).trans rfl
  have x2 : w1.cell? ⟨bx, 2, none⟩ = some (.slice ad del.length cd) := (cell_of_blk HXB.out).trans rfl
  have xl := lt_of_heap HXB.out
  go_wp2_with fail
  go_loopw [1, 14] (fun av iv wr => ∃ (j k : Nat) (N' : List Dn) (G' : Nat → Prop), iv = .int .i64 (j : Int) ∧ j ≤ add.length ∧ av = .int .i64 (k : Int) ∧ DgPost L N N' k (0 + j * (1 + opC a)) 0 (litS true (add.take j) (dv N a)) ∧ (a = 0 → k = 0) ∧ StS w0 wr ss sb L N' G' n vi vg vo gk ∧ Keeps G w1 wr ∧ ∀ q, G' q → G q ∨ w1.heap.size ≤ q) (fun _ iv _ => add.length - (intOf iv).toNat)
  case atStart => exact ⟨0, _, _, _, rfl, Nat.zero_le _, rfl, HP0.out.weak (by omega) (Nat.zero_le _) (fun m => by rw [List.take_zero, litS_nil]), HZ0.out, HS0.out, HK0.out, HN0.out⟩
  case round =>
    obtain ⟨j, k, N', G', rfl, hj, rfl, hp, hz, hs, hk, hn⟩ := hrel
    have HP := Lib.hid hp; have HZ := Lib.hid hz; have HS := Lib.hid hs; have HK := Lib.hid hk; have HN := Lib.hid hn
    clear hp hz hs hk hn
    by_cases hlt : j < add.length
    · obtain ⟨bb, bo, hao, hcell⟩ := HPA.out.cell rfl (by omega)
      cases hao
      obtain ⟨p, hp⟩ : ∃ p, add[j]? = some p := ⟨_, List.getElem?_eq_getElem hlt⟩
      have hpr := HRA.out p (List.mem_of_getElem? hp)
      obtain ⟨x, rfl⟩ := Int.eq_ofNat_of_zero_le hpr.1
      have hxL : x < L := by have := hpr.2; omega
      have HX := Lib.hid hp
      have hc := HS.out.k0.cell (hcell j _ hp) (fun h => h)
      have i0' : (0 : Int) ≤ (j : Int) := by omega
      have i1' : (j : Int) < (add.length : Int) := by omega
      have HLT := Lib.hid hlt
      have HCST := Lib.hid (show low N' ≤ low N + (0 + j * (1 + opC a)) from HP.out.cnt)
      have HMUL := Lib.hid (show j * (1 + opC a) + (1 + opC a) ≤ add.length * (1 + opC a) from by rw [← Nat.succ_mul]; exact Nat.mul_le_mul_right _ hlt)
      have HS1 := Lib.hid HS.out.drew
      have HC1 := Lib.hid (literal_any wr.drew sb L N' G' x true HS1.out.dg hL hxL (by have h1 := HCST.out; have h2 := HMUL.out; have h3 := HBG.out; omega))
      have c1 := HS1.out.c0.1
      obtain ⟨c0, l0⟩ := HS.out.c0
      clear hcell hp hpr hlt
      go_upto_region 4 with fail
      go_region_held3 (fun w' => w'.cell? ⟨ss, 0, none⟩ = some (.pointer (some ⟨sb, 0, none⟩)))
        (go_keep)
        (first
          | (go_at_call 40; refine HC2.out.mono ?_; rintro en w6 ⟨k2, N2, G2, rfl, hp2, hz2, hd2, hk2, hn2⟩; have HP2 := Lib.hid hp2; have HZ2 := Lib.hid hz2; have HS3 := Lib.hid (HS2.out.op hd2 hk2 hn2); have HK2 := Lib.hid hk2; have HN2 := Lib.hid hn2; have u1 := HS3.out.c0.1; clear hp2 hz2 hd2 hk2 hn2)
          | (go_at_call 63; refine HC1.out.mono ?_; rintro en w5 ⟨k1, N1, G1, rfl, hp1, hd1, hk1, hn1⟩; have HP1 := Lib.hid hp1; have HS2 := Lib.hid (HS1.out.op hd1 hk1 hn1); have HK1 := Lib.hid hk1; have HN1 := Lib.hid hn1; have t1 := HS2.out.c0.1; have HC2 := Lib.hid (andz_any w5 sb L N1 G1 k k1 hd1 hL (by have := hp1.le.len; have := HP.out.lt; omega) hp1.lt (by have h1 := hp1.cnt; have h2 := nb_le x; have h3 := HCST.out; have h4 := HMUL.out; have h5 := HBG.out; have h6 : opC k ≤ opC a := opC_mono HZ.out; omega)); clear hp1 hd1 hk1 hn1))
      all_goals
        go_wp2_with fail
        go_roundw
        case rel =>
          have h6 : opC k ≤ opC a := opC_mono HZ.out
          refine ⟨j + 1, k2, N2, G2, by go_num, HLT.out, rfl, (lit_step HP.out HP1.out HP2.out HX.out).weak (by rw [Nat.succ_mul]; omega) (Nat.zero_le _) (fun _ => rfl), fun h0 => HZ2.out (HZ.out h0), HS3.out, (HK.out.trans' (Keeps.trans ((Keeps.refl G' wr).drew) HK1.out) HN.out).trans' HK2.out (news HN.out HN1.out HK.out.size), news (news HN.out HN1.out HK.out.size) HN2.out (HK.out.trans' (Keeps.trans ((Keeps.refl G' wr).drew) HK1.out) HN.out).size⟩
        case measure => simp [intOf]; have := HLT.out; omega
    · have hje : j = add.length := by omega
      subst hje
      clear hlt
      have HXW := Lib.hid (HK.out.heap HXB.out HBN.out)
      have hpf := HP.out
      rw [List.take_of_length_le (Nat.le_refl _)] at hpf
      clear x1 x2 xl HP0 HZ0 HS0 HK0 HN0 HBG
      have HP0 := Lib.hid hpf; have HZ0 := HZ; have HS0 := HS; have HK0 := HK; have HN0 := HN
      clear hpf HP HZ HS HK HN
      have x2 : wr.cell? ⟨bx, 2, none⟩ = some (.slice ad del.length cd) := (cell_of_blk HXW.out).trans rfl
      have xl := lt_of_heap HXW.out
      have HBG := Lib.hid (show low N + ((0 + add.length * (1 + opC a)) + del.length * (1 + opC a)) + 2 ≤ 5800000000000 from by have := HBG2.out; omega)
      go_wp2_with fail
      go_loopw [1, 34] (fun av iv wr => ∃ (j k : Nat) (N' : List Dn) (G' : Nat → Prop), iv = .int .i64 (j : Int) ∧ j ≤ del.length ∧ av = .int .i64 (k : Int) ∧ DgPost L N N' k ((0 + add.length * (1 + opC a)) + j * (1 + opC a)) 0 (litS false (del.take j) (litS true add (dv N a))) ∧ (a = 0 → k = 0) ∧ StS w0 wr ss sb L N' G' n vi vg vo gk ∧ Keeps G w1 wr ∧ ∀ q, G' q → G q ∨ w1.heap.size ≤ q) (fun _ iv _ => del.length - (intOf iv).toNat)
      case atStart => exact ⟨0, _, _, _, rfl, Nat.zero_le _, rfl, HP0.out.weak (by omega) (Nat.zero_le _) (fun m => by rw [List.take_zero, litS_nil]), HZ0.out, HS0.out, HK0.out, HN0.out⟩
      case round =>
        obtain ⟨j, k, N', G', rfl, hj, rfl, hp, hz, hs, hk, hn⟩ := hrel
        have HP := Lib.hid hp; have HZ := Lib.hid hz; have HS := Lib.hid hs; have HK := Lib.hid hk; have HN := Lib.hid hn
        clear hp hz hs hk hn
        by_cases hlt : j < del.length
        · obtain ⟨bb, bo, hao, hcell⟩ := HPD.out.cell rfl (by omega)
          cases hao
          obtain ⟨p, hp⟩ : ∃ p, del[j]? = some p := ⟨_, List.getElem?_eq_getElem hlt⟩
          have hpr := HRD.out p (List.mem_of_getElem? hp)
          obtain ⟨x, rfl⟩ := Int.eq_ofNat_of_zero_le hpr.1
          have hxL : x < L := by have := hpr.2; omega
          have HX := Lib.hid hp
          have hc := HS.out.k0.cell (hcell j _ hp) (fun h => h)
          have i0' : (0 : Int) ≤ (j : Int) := by omega
          have i1' : (j : Int) < (del.length : Int) := by omega
          have HLT := Lib.hid hlt
          have HCST := Lib.hid (show low N' ≤ low N + ((0 + add.length * (1 + opC a)) + j * (1 + opC a)) from HP.out.cnt)
          have HMUL := Lib.hid (show j * (1 + opC a) + (1 + opC a) ≤ del.length * (1 + opC a) from by rw [← Nat.succ_mul]; exact Nat.mul_le_mul_right _ hlt)
          have HS1 := Lib.hid HS.out.drew
          have HC1 := Lib.hid (literal_any wr.drew sb L N' G' x false HS1.out.dg hL hxL (by have h1 := HCST.out; have h2 := HMUL.out; have h3 := HBG.out; omega))
          have c1 := HS1.out.c0.1
          obtain ⟨c0, l0⟩ := HS.out.c0
          clear hcell hp hpr hlt
          go_upto_region 9 with fail
          go_region_held3 (fun w' => w'.cell? ⟨ss, 0, none⟩ = some (.pointer (some ⟨sb, 0, none⟩)))
            (go_keep)
            (first
              | (go_at_call 40; refine HC2.out.mono ?_; rintro en w6 ⟨k2, N2, G2, rfl, hp2, hz2, hd2, hk2, hn2⟩; have HP2 := Lib.hid hp2; have HZ2 := Lib.hid hz2; have HS3 := Lib.hid (HS2.out.op hd2 hk2 hn2); have HK2 := Lib.hid hk2; have HN2 := Lib.hid hn2; have u1 := HS3.out.c0.1; clear hp2 hz2 hd2 hk2 hn2)
              | (go_at_call 63; refine HC1.out.mono ?_; rintro en w5 ⟨k1, N1, G1, rfl, hp1, hd1, hk1, hn1⟩; have HP1 := Lib.hid hp1; have HS2 := Lib.hid (HS1.out.op hd1 hk1 hn1); have HK1 := Lib.hid hk1; have HN1 := Lib.hid hn1; have t1 := HS2.out.c0.1; have HC2 := Lib.hid (andz_any w5 sb L N1 G1 k k1 hd1 hL (by have := hp1.le.len; have := HP.out.lt; omega) hp1.lt (by have h1 := hp1.cnt; have h2 := nb_le x; have h3 := HCST.out; have h4 := HMUL.out; have h5 := HBG.out; have h6 : opC k ≤ opC a := opC_mono HZ.out; omega)); clear hp1 hd1 hk1 hn1))
          all_goals
            go_wp2_with fail
            go_roundw
            case rel =>
              have h6 : opC k ≤ opC a := opC_mono HZ.out
              refine ⟨j + 1, k2, N2, G2, by go_num, HLT.out, rfl, (lit_step HP.out HP1.out HP2.out HX.out).weak (by rw [Nat.succ_mul]; omega) (Nat.zero_le _) (fun _ => rfl), fun h0 => HZ2.out (HZ.out h0), HS3.out, (HK.out.trans' (Keeps.trans ((Keeps.refl G' wr).drew) HK1.out) HN.out).trans' HK2.out (news HN.out HN1.out HK.out.size), news (news HN.out HN1.out HK.out.size) HN2.out (HK.out.trans' (Keeps.trans ((Keeps.refl G' wr).drew) HK1.out) HN.out).size⟩
            case measure => simp [intOf]; have := HLT.out; omega
        · have hje : j = del.length := by omega
          subst hje
          clear hlt
          go_wp2_with fail
          go_ret
          have hpf := HP.out
          rw [List.take_of_length_le (Nat.le_refl _)] at hpf
          exact ⟨k, N', G', rfl, hpf.weak (by have := HSUM.out; omega) (Nat.zero_le _) (fun _ => rfl), HZ.out, HS.out, HKB.out.trans HK.out, fun q hq => (HN.out q hq).imp (fun h => h) (fun h => Nat.le_trans HKB.out.size h)⟩

set_option maxRecDepth 100000 in
set_option maxHeartbeats 4000000 in
theorem free_any (w0 w : World) (ss sb L : Nat) (N : List Dn) (G : Nat → Prop) (n : Int) (vi vg vo : Value) (gk : Nat) (a : Nat) (vp va vd : Value) (cst : Int) (add del : List Int) (h : StS w0 w ss sb L N G n vi vg vo gk) (hL : L ≤ 24) (ha : a < N.length + 2) (hia : Ints w0 va add) (hid : Ints w0 vd del) (hra : ∀ p ∈ add, 0 ≤ p ∧ p < (L : Int)) (hrd : ∀ p ∈ del, 0 ≤ p ∧ p < (L : Int)) (hfew : add.length + del.length ≤ 1000) (hbig : low N + (add.length + del.length) * opC a ≤ 5800000000000) :
    Calls Tryz.prog 69 #[.pointer (some ⟨ss, 0, none⟩), .int .i64 (a : Int), .agg #[vp, va, vd, .int .i64 cst]] w (StR w0 w ss sb L N G n vi vg vo gk ((add.length + del.length) * opC a) (a = 0) (exsT (add ++ del) (dv N a))) := by
  obtain ⟨aa, ca, h1, ma⟩ := hia.form
  obtain ⟨ad, cd, h2, md⟩ := hid.form
  subst h1 h2
  obtain ⟨ps, hps⟩ : ∃ ps, add ++ del = ps := ⟨_, rfl⟩
  have hpl : ps.length = add.length + del.length := by rw [← hps, List.length_append]
  have HRG := Lib.hid (show ∀ p ∈ ps, 0 ≤ p ∧ p < (L : Int) from fun p hp => by rw [← hps] at hp; exact (List.mem_append.1 hp).elim (hra p) (hrd p))
  rw [hps, ← hpl]
  rw [← hpl] at hbig hfew
  have HBG := Lib.hid hbig
  have K1 := (Keeps.refl (fun _ => False) w).alloc (.cells #[vp, .slice aa add.length ca, .slice ad del.length cd, .int .i64 cst] 72)
  have K2 := (Keeps.refl (fun _ => False) (w.alloc (.cells #[vp, .slice aa add.length ca, .slice ad del.length cd, .int .i64 cst] 72))).alloc (.cells #[.slice aa add.length ca, .slice ad del.length cd] 22)
  have hb2 := heap_alloc_new (w.alloc (.cells #[vp, .slice aa add.length ca, .slice ad del.length cd, .int .i64 cst] 72)) (.cells #[.slice aa add.length ca, .slice ad del.length cd] 22)
  rw [World.size_alloc] at hb2
  have k02 := (h.k0.trans K1).trans K2
  have HLS := Lib.hid (show Lists ((w.alloc (.cells #[vp, .slice aa add.length ca, .slice ad del.length cd, .int .i64 cst] 72)).alloc (.cells #[.slice aa add.length ca, .slice ad del.length cd] 22)) (.slice (some ⟨w.heap.size + 1, 0, none⟩) 2 2) [add, del] from
    ⟨some ⟨w.heap.size + 1, 0, none⟩, 2, rfl, by unfold maxLen; simp, fun _ => ⟨w.heap.size + 1, 0, rfl, fun i l hl => by
      match i, hl with
      | 0, hl => cases hl; exact ⟨_, (cell_of_blk hb2).trans rfl, hia.keeps0 k02⟩
      | 1, hl => cases hl; exact ⟨_, (cell_of_blk hb2).trans rfl, hid.keeps0 k02⟩
      | i + 2, hl => simp at hl⟩⟩)
  have HCC := Lib.hid (concat_any _ _ [add, del] HLS.out (by simp) (by simp; omega))
  have HFL := Lib.hid (show [add, del].flatten = ps from by simp [← hps])
  have HBD := Lib.hid h.dg.bnd
  have HP0 := Lib.hid (show DgPost L N N a 0 0 (dv N a) from .same h.dg.ok ha (fun _ => rfl) (Nat.zero_le _))
  have HS := Lib.hid h; have HK12 := Lib.hid (K1.trans K2)
  clear h hia hid hra hrd hbig ha K1 K2 hb2 k02 hpl HLS
  go_enter Tryz.func69, Tryz.ntmps69
  go_wp2_with fail
  refine HCC.out.mono ?_; rintro e w3 ⟨vr, rfl, hown, hk3⟩
  rw [HFL.out] at hown
  have HKB := Lib.hid (HK12.out.trans hk3)
  have HRW := Lib.hid hown
  have HS3 := Lib.hid (HS.out.keeps0 HKB.out)
  clear hown hk3 HCC HK12 HS
  obtain ⟨av, cv, hv⟩ := ownsRow_form1 HRW.out
  subst hv
  have HNG := Lib.hid (show ∀ q, (Value.slice av ps.length cv).ownBlock = some q → ¬ G q from fun q hq hG => by
    have h1 := (World.ownsRow.lt HRW.out q hq).1; have h2 := HBD.out q hG; simp only [World.size_alloc] at h1; omega)
  have HII := Lib.hid (show Ints w3 (.slice av ps.length cv) ps from Sl.of_own HRW.out)
  go_wp2_with fail
  go_loopw [1, 16] (fun kv iv wr => ∃ (j k : Nat) (N' : List Dn) (G' : Nat → Prop), iv = .int .i64 (j : Int) ∧ j ≤ ps.length ∧ kv = .int .i64 (k : Int) ∧ DgPost L N N' k (j * opC a) 0 (exsT (ps.take j) (dv N a)) ∧ (a = 0 → k = 0) ∧ StS w0 wr ss sb L N' G' n vi vg vo gk ∧ Keeps G w3 wr ∧ ∀ q, G' q → G q ∨ w3.heap.size ≤ q) (fun _ iv _ => ps.length - (intOf iv).toNat)
  case atStart => exact ⟨0, a, N, G, rfl, Nat.zero_le _, rfl, HP0.out.weak (by omega) (Nat.zero_le _) (fun m => rfl), fun h => h, HS3.out, Keeps.refl _ _, fun q h => .inl h⟩
  case round =>
    obtain ⟨j, k, N', G', rfl, hj, rfl, hp, hz, hs, hk, hn⟩ := hrel
    have HP := Lib.hid hp; have HZ := Lib.hid hz; have HS := Lib.hid hs; have HK := Lib.hid hk; have HN := Lib.hid hn
    clear hp hz hs hk hn
    by_cases hlt : j < ps.length
    · obtain ⟨bb, bo, hao, hcell⟩ := HII.out.cell rfl (by omega)
      cases hao
      obtain ⟨p, hp⟩ : ∃ p, ps[j]? = some p := ⟨_, List.getElem?_eq_getElem hlt⟩
      have hpr := HRG.out p (List.mem_of_getElem? hp)
      obtain ⟨x, rfl⟩ := Int.eq_ofNat_of_zero_le hpr.1
      have hxL : x < L := by have := hpr.2; omega
      have HX := Lib.hid hp
      have hc := HK.out.cell (hcell j _ hp) (HNG.out _ rfl)
      have i0' : (0 : Int) ≤ (j : Int) := by omega
      have i1' : (j : Int) < (ps.length : Int) := by omega
      have HLT := Lib.hid hlt
      have HCST := Lib.hid (show low N' ≤ low N + (j * opC a) from HP.out.cnt)
      have HMUL := Lib.hid (show j * opC a + opC a ≤ ps.length * opC a from by rw [← Nat.succ_mul]; exact Nat.mul_le_mul_right _ hlt)
      have HMO := Lib.hid (show opC k ≤ opC a from opC_mono HZ.out)
      have HC1 := Lib.hid (exz_any wr sb L x N' G' k HS.out.dg hL hxL HP.out.lt (by have h1 := HCST.out; have h2 := HMUL.out; have h3 := HBG.out; have h4 := HMO.out; omega))
      obtain ⟨c0, l0⟩ := HS.out.c0
      clear hcell hp hpr hlt
      go_wp2_with fail
      refine HC1.out.mono ?_; rintro e w5 ⟨k1, N1, G1, rfl, hp1, hz1, hd1, hk1, hn1⟩
      have HP1 := Lib.hid hp1; have HZ1 := Lib.hid hz1; have HS1 := Lib.hid (HS.out.op hd1 hk1 hn1); have HK1 := Lib.hid hk1; have HN1 := Lib.hid hn1
      clear hp1 hz1 hd1 hk1 hn1
      go_wp2_with fail
      go_roundw
      case rel => exact ⟨j + 1, k1, N1, G1, by go_num, HLT.out, rfl, (exs_step HP.out HP1.out).weak (by have := HMO.out; rw [Nat.succ_mul]; omega) (Nat.zero_le _) (fun m => by rw [take_getS HX.out, exsT_snoc]), fun h0 => HZ1.out (HZ.out h0), HS1.out, HK.out.trans' HK1.out HN.out, news HN.out HN1.out HK.out.size⟩
      case measure => simp [intOf]; have := HLT.out; omega
    · have hje : j = ps.length := by omega
      subst hje
      clear hlt
      go_wp2_with fail
      go_ret
      have hpf := HP.out
      rw [List.take_of_length_le (Nat.le_refl _)] at hpf
      exact ⟨k, N', G', rfl, hpf, HZ.out, HS.out, (HKB.out.mono (fun _ _ h => h.elim)).trans HK.out, fun q hq => (HN.out q hq).imp (fun h => h) (fun h => Nat.le_trans HKB.out.size h)⟩

set_option maxRecDepth 100000 in
set_option maxHeartbeats 4000000 in
theorem image_any (w0 w : World) (ss sb L : Nat) (N : List Dn) (G : Nat → Prop) (n : Int) (vi vg vo : Value) (gk : Nat) (a i : Nat) (ops : List Opr) (o : Opr) (h : StS w0 w ss sb L N G n vi vg vo gk) (hL : L ≤ 24) (hop : OpsAt w0 vo ops) (ho : ops[i]? = some o) (hfew : ops.length ≤ 40) (ha : a < N.length + 2) (hrp : ∀ p ∈ o.pre, 0 ≤ p ∧ p < (L : Int)) (hra : ∀ p ∈ o.add, 0 ≤ p ∧ p < (L : Int)) (hrd : ∀ p ∈ o.del, 0 ≤ p ∧ p < (L : Int)) (hlp : o.pre.length ≤ 24) (hla : o.add.length ≤ 24) (hld : o.del.length ≤ 24) (hbig : low N + (o.pre.length * (1 + opC a) + ((o.add.length + o.del.length) * opC a + (o.add.length + o.del.length) * (1 + opC a))) + 2 ≤ 5800000000000) :
    Calls Tryz.prog 29 #[.pointer (some ⟨ss, 0, none⟩), .int .i64 (a : Int), .int .i64 (i : Int)] w (StR w0 w ss sb L N G n vi vg vo gk ((o.pre.length * (1 + opC a) + ((o.add.length + o.del.length) * opC a + (o.add.length + o.del.length) * (1 + opC a)))) (a = 0) (litS false o.del (litS true o.add (exsT (o.add ++ o.del) (litS true o.pre (dv N a)))))) := by
  have hil : i < ops.length := (List.getElem?_eq_some_iff.1 ho).1
  obtain ⟨aw, cw, hvo, hmo⟩ := hop.form
  subst hvo
  obtain ⟨bo, oo, hao, hcell⟩ := hop.cell rfl (by omega)
  cases hao
  obtain ⟨vp, va, vd, p0, p1, p2, p3, i1, i2, i3⟩ := hcell i o ho
  obtain ⟨ap, cp, hvp, mp⟩ := i1.form
  obtain ⟨aa, ca, hva, ma⟩ := i2.form
  obtain ⟨ad, cd, hvd, md⟩ := i3.form
  subst hvp hva hvd
  have HIP := Lib.hid i1; have HIA := Lib.hid i2; have HID := Lib.hid i3
  have HRP := Lib.hid hrp; have HRA := Lib.hid hra; have HRD := Lib.hid hrd; have HLN := Lib.hid (And.intro hlp (And.intro hla hld))
  have hk0 := h.k0
  have r0 := hk0.cell p0 (fun h => h); have r1 := hk0.cell p1 (fun h => h); have r2 := hk0.cell p2 (fun h => h); have r3 := hk0.cell p3 (fun h => h)
  have c4 : w.cell? ⟨ss, 4, none⟩ = some (.slice (some ⟨bo, oo, none⟩) ops.length cw) := (cell_of_blk h.blk).trans rfl
  have l0 := lt_of_heap h.blk
  have KB := (Keeps.refl (fun _ => False) w).alloc (.cells #[.slice ap o.pre.length cp, .slice aa o.add.length ca, .slice ad o.del.length cd, .int .i64 o.cost] 72)
  have HXB := Lib.hid (heap_alloc_new w (.cells #[.slice ap o.pre.length cp, .slice aa o.add.length ca, .slice ad o.del.length cd, .int .i64 o.cost] 72))
  have HBN := Lib.hid (show ¬ G w.heap.size from fun h' => by have := h.dg.bnd _ h'; omega)
  have HPA := Lib.hid (show DgPost L N N a 0 0 (dv N a) from .same h.dg.ok ha (fun _ => rfl) (Nat.zero_le _))
  have HS0 := Lib.hid (h.keeps0 KB); have HKB := Lib.hid (KB.mono (S' := G) (fun _ _ h => h.elim))
  have HBIG := Lib.hid hbig; have HAL := Lib.hid ha
  have j0 : (0 : Int) ≤ (i : Int) := by omega
  have j1 : (i : Int) < (ops.length : Int) := by omega
  clear h hop ho hfew hrp hra hrd hlp hla hld hbig ha KB hcell i1 i2 i3 p0 p1 p2 p3 hk0 hil
  go_enter Tryz.func29, Tryz.ntmps29
  go_upto_region 2 with fail
  generalize (w.alloc (.cells #[.slice ap o.pre.length cp, .slice aa o.add.length ca, .slice ad o.del.length cd, .int .i64 o.cost] 72)) = w1 at HXB HS0 HKB ⊢
  generalize w.heap.size = bx at HBN HXB ⊢
  clear r0 r1 r2 r3 c4 l0
  have HK0 := Lib.hid (Keeps.refl G w1); have HN0 := Lib.hid (show ∀ q, G q → G q ∨ w1.heap.size ≤ q from fun q h => .inl h)
  have HP0 := HPA; have HZ0 := Lib.hid (show a = 0 → a = 0 from fun h => h)
  have HBG := Lib.hid (show low N + (0 + o.pre.length * (1 + opC a)) + 2 ≤ 5800000000000 from by have := HBIG.out; omega)
  have x0 : w1.cell? ⟨bx, 0, none⟩ = some (.slice ap o.pre.length cp) := (cell_of_blk HXB.out).trans rfl
  have xl := lt_of_heap HXB.out
  go_wp2_with fail
  go_loopw [1, 21] (fun av iv wr => ∃ (j k : Nat) (N' : List Dn) (G' : Nat → Prop), iv = .int .i64 (j : Int) ∧ j ≤ o.pre.length ∧ av = .int .i64 (k : Int) ∧ DgPost L N N' k (0 + j * (1 + opC a)) 0 (litS true (o.pre.take j) (dv N a)) ∧ (a = 0 → k = 0) ∧ StS w0 wr ss sb L N' G' n vi vg (.slice (some ⟨bo, oo, none⟩) ops.length cw) gk ∧ Keeps G w1 wr ∧ ∀ q, G' q → G q ∨ w1.heap.size ≤ q) (fun _ iv _ => o.pre.length - (intOf iv).toNat)
  case atStart => exact ⟨0, _, _, _, rfl, Nat.zero_le _, rfl, HP0.out.weak (by omega) (Nat.zero_le _) (fun m => by rw [List.take_zero, litS_nil]), HZ0.out, HS0.out, HK0.out, HN0.out⟩
  case round =>
    obtain ⟨j, k, N', G', rfl, hj, rfl, hp, hz, hs, hk, hn⟩ := hrel
    have HP := Lib.hid hp; have HZ := Lib.hid hz; have HS := Lib.hid hs; have HK := Lib.hid hk; have HN := Lib.hid hn
    clear hp hz hs hk hn
    by_cases hlt : j < o.pre.length
    · obtain ⟨bb, bo, hao, hcell⟩ := HIP.out.cell rfl (by omega)
      cases hao
      obtain ⟨p, hp⟩ : ∃ p, o.pre[j]? = some p := ⟨_, List.getElem?_eq_getElem hlt⟩
      have hpr := HRP.out p (List.mem_of_getElem? hp)
      obtain ⟨x, rfl⟩ := Int.eq_ofNat_of_zero_le hpr.1
      have hxL : x < L := by have := hpr.2; omega
      have HX := Lib.hid hp
      have hc := HS.out.k0.cell (hcell j _ hp) (fun h => h)
      have i0' : (0 : Int) ≤ (j : Int) := by omega
      have i1' : (j : Int) < (o.pre.length : Int) := by omega
      have HLT := Lib.hid hlt
      have HCST := Lib.hid (show low N' ≤ low N + (0 + j * (1 + opC a)) from HP.out.cnt)
      have HMUL := Lib.hid (show j * (1 + opC a) + (1 + opC a) ≤ o.pre.length * (1 + opC a) from by rw [← Nat.succ_mul]; exact Nat.mul_le_mul_right _ hlt)
      have HS1 := Lib.hid HS.out.drew
      have HC1 := Lib.hid (literal_any wr.drew sb L N' G' x true HS1.out.dg hL hxL (by have h1 := HCST.out; have h2 := HMUL.out; have h3 := HBG.out; omega))
      have c1 := HS1.out.c0.1
      obtain ⟨c0, l0⟩ := HS.out.c0
      clear hcell hp hpr hlt
      go_upto_region 5 with fail
      go_region_held3 (fun w' => w'.cell? ⟨ss, 0, none⟩ = some (.pointer (some ⟨sb, 0, none⟩)))
        (go_keep)
        (first
          | (go_at_call 40; refine HC2.out.mono ?_; rintro en w6 ⟨k2, N2, G2, rfl, hp2, hz2, hd2, hk2, hn2⟩; have HP2 := Lib.hid hp2; have HZ2 := Lib.hid hz2; have HS3 := Lib.hid (HS2.out.op hd2 hk2 hn2); have HK2 := Lib.hid hk2; have HN2 := Lib.hid hn2; have u1 := HS3.out.c0.1; clear hp2 hz2 hd2 hk2 hn2)
          | (go_at_call 63; refine HC1.out.mono ?_; rintro en w5 ⟨k1, N1, G1, rfl, hp1, hd1, hk1, hn1⟩; have HP1 := Lib.hid hp1; have HS2 := Lib.hid (HS1.out.op hd1 hk1 hn1); have HK1 := Lib.hid hk1; have HN1 := Lib.hid hn1; have t1 := HS2.out.c0.1; have HC2 := Lib.hid (andz_any w5 sb L N1 G1 k k1 hd1 hL (by have := hp1.le.len; have := HP.out.lt; omega) hp1.lt (by have h1 := hp1.cnt; have h2 := nb_le x; have h3 := HCST.out; have h4 := HMUL.out; have h5 := HBG.out; have h6 : opC k ≤ opC a := opC_mono HZ.out; omega)); clear hp1 hd1 hk1 hn1))
      all_goals
        go_wp2_with fail
        go_roundw
        case rel =>
          have h6 : opC k ≤ opC a := opC_mono HZ.out
          refine ⟨j + 1, k2, N2, G2, by go_num, HLT.out, rfl, (lit_step HP.out HP1.out HP2.out HX.out).weak (by rw [Nat.succ_mul]; omega) (Nat.zero_le _) (fun _ => rfl), fun h0 => HZ2.out (HZ.out h0), HS3.out, (HK.out.trans' (Keeps.trans ((Keeps.refl G' wr).drew) HK1.out) HN.out).trans' HK2.out (news HN.out HN1.out HK.out.size), news (news HN.out HN1.out HK.out.size) HN2.out (HK.out.trans' (Keeps.trans ((Keeps.refl G' wr).drew) HK1.out) HN.out).size⟩
        case measure => simp [intOf]; have := HLT.out; omega
    · have hje : j = o.pre.length := by omega
      subst hje
      clear hlt
      have HXW := Lib.hid (HK.out.heap HXB.out HBN.out)
      have hpf := HP.out
      rw [List.take_of_length_le (Nat.le_refl _)] at hpf
      have HPF := Lib.hid hpf
      have KD := (Keeps.refl (fun _ => False) wr).drew
      have HSD := Lib.hid (HS.out.keeps0 KD); have HXD := Lib.hid (KD.heap HXW.out (fun h => h)); have HKD := Lib.hid (HK.out.trans (KD.mono (fun _ _ h => h.elim)))
      have HMO := Lib.hid (show opC k ≤ opC a from opC_mono HZ.out)
      have HM1 := Lib.hid (show (o.add.length + o.del.length) * opC k ≤ (o.add.length + o.del.length) * opC a from Nat.mul_le_mul_left _ HMO.out)
      have HBN1 := Lib.hid (show ¬ G' bx from fun h => (HN.out _ h).elim HBN.out (fun h => by have := lt_of_heap HXB.out; omega))
      have HC1 := Lib.hid (free_any w0 wr.drew ss sb L N' G' n vi vg _ gk k (.slice ap o.pre.length cp) _ _ o.cost o.add o.del HSD.out hL hpf.lt HIA.out HID.out HRA.out HRD.out (by have := HLN.out; omega) (by have h1 := hpf.cnt; have h2 := HM1.out; have h3 := HBIG.out; omega))
      have d0 : wr.drew.cell? ⟨bx, 0, none⟩ = some (.slice ap o.pre.length cp) := (cell_of_blk HXD.out).trans rfl
      have d1 : wr.drew.cell? ⟨bx, 1, none⟩ = some (.slice aa o.add.length ca) := (cell_of_blk HXD.out).trans rfl
      have d2 : wr.drew.cell? ⟨bx, 2, none⟩ = some (.slice ad o.del.length cd) := (cell_of_blk HXD.out).trans rfl
      have d3 : wr.drew.cell? ⟨bx, 3, none⟩ = some (.int .i64 o.cost) := (cell_of_blk HXD.out).trans rfl
      clear KD hpf x0 xl HP0 HZ0 HS0 HK0 HN0 HBG
      go_upto_region 7 with fail
      go_region_held3 (fun w' => w'.cell? ⟨bx, 0, none⟩ = some (.slice ap o.pre.length cp) ∧ w'.cell? ⟨bx, 1, none⟩ = some (.slice aa o.add.length ca) ∧ w'.cell? ⟨bx, 2, none⟩ = some (.slice ad o.del.length cd) ∧ w'.cell? ⟨bx, 3, none⟩ = some (.int .i64 o.cost))
        (go_keep)
        (first
          | (go_at_call 68; refine HC2.out.mono ?_; rintro en w6 ⟨k2, N2, G2, rfl, hp2, hz2, hs2, hk2, hn2⟩; have HP2 := Lib.hid hp2; have HZ2 := Lib.hid hz2; have HS2 := Lib.hid hs2; have HK2 := Lib.hid hk2; have HN2 := Lib.hid hn2; have HX6 := Lib.hid (hk2.heap HX5.out HBN2.out); have sp0 : w6.cell? ⟨bx, 0, none⟩ = some (.slice ap o.pre.length cp) := (cell_of_blk HX6.out).trans rfl; have sp1 : w6.cell? ⟨bx, 1, none⟩ = some (.slice aa o.add.length ca) := (cell_of_blk HX6.out).trans rfl; have sp2 : w6.cell? ⟨bx, 2, none⟩ = some (.slice ad o.del.length cd) := (cell_of_blk HX6.out).trans rfl; have sp3 : w6.cell? ⟨bx, 3, none⟩ = some (.int .i64 o.cost) := (cell_of_blk HX6.out).trans rfl; clear hp2 hz2 hs2 hk2 hn2)
          | (go_at_call 69; refine HC1.out.mono ?_; rintro en w5 ⟨k1, N1, G1, rfl, hp1, hz1, hs1, hk1, hn1⟩; have HP1 := Lib.hid hp1; have HZ1 := Lib.hid hz1; have HS1 := Lib.hid hs1; have HK1 := Lib.hid hk1; have HN1 := Lib.hid hn1; have HX5 := Lib.hid (hk1.heap HXD.out HBN1.out); have HBN2 := Lib.hid (show ¬ G1 bx from fun h => (HN1.out _ h).elim HBN1.out (fun h => by have := lt_of_heap HXD.out; omega)); have HM2 := Lib.hid (show (o.add.length + o.del.length) * (1 + opC k1) ≤ (o.add.length + o.del.length) * (1 + opC a) from Nat.mul_le_mul_left _ (Nat.add_le_add_left (Nat.le_trans (opC_mono hz1) HMO.out) 1)); have HC2 := Lib.hid (set_any w0 w5 ss sb L N1 G1 n vi vg _ gk k1 (.slice ap o.pre.length cp) _ _ o.cost o.add o.del hs1 hL hp1.lt HIA.out HID.out HRA.out HRD.out (by have h1 := HPF.out.cnt; have h2 := HM1.out; have h3 := HBIG.out; have h4 := hp1.cnt; have h5 := HM2.out; omega)); have tp0 : w5.cell? ⟨bx, 0, none⟩ = some (.slice ap o.pre.length cp) := (cell_of_blk HX5.out).trans rfl; have tp1 : w5.cell? ⟨bx, 1, none⟩ = some (.slice aa o.add.length ca) := (cell_of_blk HX5.out).trans rfl; have tp2 : w5.cell? ⟨bx, 2, none⟩ = some (.slice ad o.del.length cd) := (cell_of_blk HX5.out).trans rfl; have tp3 : w5.cell? ⟨bx, 3, none⟩ = some (.int .i64 o.cost) := (cell_of_blk HX5.out).trans rfl; clear hp1 hz1 hs1 hk1 hn1))
      all_goals
        go_wp2_with fail
        go_ret
        have e1 : dv N' k = litS true o.pre (dv N a) := funext fun m => HPF.out.val m
        have e2 : dv N1 k1 = exsT (o.add ++ o.del) (dv N' k) := funext fun m => HP1.out.val m
        refine ⟨k2, N2, G2, rfl, ((HPF.out.trans HP1.out).trans HP2.out).weak (by have h1 := HM1.out; have h2 := HM2.out; omega) (Nat.zero_le _) (fun m => by rw [e2, e1]), fun h0 => HZ2.out (HZ1.out (HZ.out h0)), HS2.out, HKB.out.trans ((HKD.out.trans' HK1.out HN.out).trans' HK2.out (news HN.out HN1.out HKD.out.size)), fun q hq => (news (news HN.out HN1.out HKD.out.size) HN2.out (HKD.out.trans' HK1.out HN.out).size q hq).imp (fun h => h) (fun h => Nat.le_trans HKB.out.size h)⟩

end Go.Proofs.YtjcgkmodmjckjaaGreat

namespace Go.Proofs.YtjcgkmodmjckjaaGreat
open Go.RowKit

theorem blk6_set {w : World} {b : Nat} {x0 x1 x2 x3 x4 x5 : Value} {T : TypeId} (h : w.heap[b]? = some (.cells #[x0, x1, x2, x3, x4, x5] T (0, 0))) (u : Value) : (w.setCell ⟨b, 5, none⟩ u).heap[b]? = some (.cells #[x0, x1, x2, x3, x4, u] T (0, 0)) := by rw [blk_set_same h]; rfl
theorem le12 {a j : Nat} (h : a ≤ j * 524288) (hj : j ≤ 24) : a ≤ 12582912 := by omega
theorem isSet_few {l : List Int} {n : Int} (h : isSetB l n = true) (hn : n ≤ 24) : l.length ≤ 24 := by
  obtain ⟨h1, h2⟩ := isSet_iff.1 h
  have h3 : (l.map Int.toNat).Nodup := by
    refine List.pairwise_map.2 (h2.imp_of_mem ?_)
    intro a b ha hb hlt he
    have := h1 a ha; have := h1 b hb; omega
  have h4 := nodup_sub h3 (r := List.range 24) (fun x hx => by
    obtain ⟨y, hy, rfl⟩ := List.mem_map.1 hx
    have := h1 y hy
    exact List.mem_range.2 (by omega))
  rw [List.length_map, List.length_range] at h4
  exact h4

set_option maxRecDepth 100000 in
set_option maxHeartbeats 4000000 in
theorem newSets_any (w : World) (vi vg vo : Value) (t : Tsk) (L : Nat) (h : TaskAt w vi vg vo t) (ok : t.Ok) (hLn : t.n = (L : Int)) :
    Calls Tryz.prog 24 #[.agg #[.int .i64 t.n, vi, vg, vo]] w fun e w' => ∃ (ss sb : Nat) (N : List Dn) (G : Nat → Prop) (gk : Nat), e = .returned (.pointer (some ⟨ss, 0, none⟩)) ∧ StS w w' ss sb L N G t.n vi vg vo gk ∧ gk < N.length + 2 ∧ (∀ m, dv N gk m = litS true t.goal (fun _ => true) m) ∧ low N ≤ 12582912 ∧ w.heap.size ≤ ss := by
  have hL : L ≤ 24 := by have := ok.n1; omega
  obtain ⟨ai, ci, h1, _⟩ := h.init.form
  obtain ⟨ag, cg, h2, _⟩ := h.goal.form
  obtain ⟨ao, co, h3, hmo⟩ := h.ops.form
  subst h1 h2 h3
  have hgr := (isSet_iff.1 ok.goal).1
  have hgl := isSet_few ok.goal ok.n1
  have HG := Lib.hid h.goal; have HGR := Lib.hid (show ∀ p ∈ t.goal, 0 ≤ p ∧ p < (L : Int) from fun p hp => by have := hgr p hp; omega)
  have HT := Lib.hid h
  have KB := (Keeps.refl (fun _ => False) w).alloc (.cells #[.int .i64 t.n, .slice ai t.init.length ci, .slice ag t.goal.length cg, .slice ao t.ops.length co] 25)
  have HXB := Lib.hid (heap_alloc_new w (.cells #[.int .i64 t.n, .slice ai t.init.length ci, .slice ag t.goal.length cg, .slice ao t.ops.length co] 25))
  have HKB := Lib.hid KB
  clear h ok hgr KB
  rw [hLn] at HXB HKB ⊢
  go_enter Tryz.func24, Tryz.ntmps24
  go_upto_region 1 with fail
  generalize (w.alloc (.cells #[.int .i64 (L : Int), .slice ai t.init.length ci, .slice ag t.goal.length cg, .slice ao t.ops.length co] 25)) = w1 at HXB HKB ⊢
  have HBXL := Lib.hid (Nat.le_refl w.heap.size)
  generalize hbx : w.heap.size = bx at HXB HBXL ⊢
  have HBE := Lib.hid hbx
  clear hbx
  have KD := (Keeps.refl (fun _ => False) w1).drew
  have HXD := Lib.hid (KD.heap HXB.out (fun h => h)); have HKD := Lib.hid (HKB.out.trans KD)
  clear KD
  have d0 : w1.drew.cell? ⟨bx, 0, none⟩ = some (.int .i64 (L : Int)) := (cell_of_blk HXD.out).trans rfl
  have d1 : w1.drew.cell? ⟨bx, 1, none⟩ = some (.slice ai t.init.length ci) := (cell_of_blk HXD.out).trans rfl
  have d2 : w1.drew.cell? ⟨bx, 2, none⟩ = some (.slice ag t.goal.length cg) := (cell_of_blk HXD.out).trans rfl
  have d3 : w1.drew.cell? ⟨bx, 3, none⟩ = some (.slice ao t.ops.length co) := (cell_of_blk HXD.out).trans rfl
  have HC1 := Lib.hid (newStore_any w1.drew L)
  go_region_held3 (fun w' => w'.cell? ⟨bx, 0, none⟩ = some (.int .i64 (L : Int)) ∧ w'.cell? ⟨bx, 1, none⟩ = some (.slice ai t.init.length ci) ∧ w'.cell? ⟨bx, 2, none⟩ = some (.slice ag t.goal.length cg) ∧ w'.cell? ⟨bx, 3, none⟩ = some (.slice ao t.ops.length co))
    (go_keep)
    (first
      | (go_at_call 62; refine HC1.out.mono ?_; rintro en w5 ⟨sb, rfl, hd5, hk5, hs5⟩; have HD5 := Lib.hid hd5; have HK5 := Lib.hid hk5; have HSB := Lib.hid hs5; have HX5 := Lib.hid (hk5.heap HXD.out (fun h => h)); have t0 : w5.cell? ⟨bx, 0, none⟩ = some (.int .i64 (L : Int)) := (cell_of_blk HX5.out).trans rfl; have t1 : w5.cell? ⟨bx, 1, none⟩ = some (.slice ai t.init.length ci) := (cell_of_blk HX5.out).trans rfl; have t2 : w5.cell? ⟨bx, 2, none⟩ = some (.slice ag t.goal.length cg) := (cell_of_blk HX5.out).trans rfl; have t3 : w5.cell? ⟨bx, 3, none⟩ = some (.slice ao t.ops.length co) := (cell_of_blk HX5.out).trans rfl; clear hd5 hk5 hs5))
  all_goals
    have K6 := (Keeps.refl (fun _ => False) w5).alloc (.cells #[.pointer (some ⟨sb, 0, none⟩), .int .i64 (L : Int), .slice ai t.init.length ci, .slice ag t.goal.length cg, .slice ao t.ops.length co, .int .i64 1] 59)
    have HB6 := Lib.hid (heap_alloc_new w5 (.cells #[.pointer (some ⟨sb, 0, none⟩), .int .i64 (L : Int), .slice ai t.init.length ci, .slice ag t.goal.length cg, .slice ao t.ops.length co, .int .i64 1] 59))
    have HX6 := Lib.hid (K6.heap HX5.out (fun h => h))
    have HS6 := Lib.hid (show StS w _ w5.heap.size sb L [] (fun q => w1.drew.heap.size ≤ q ∧ q < w5.heap.size) (L : Int) (.slice ai t.init.length ci) (.slice ag t.goal.length cg) (.slice ao t.ops.length co) 1 from ⟨HB6.out, HD5.out.keeps0 K6, fun h => by have := h.2; omega, (HKD.out.trans HK5.out).trans K6, fun q hq => Nat.le_trans HKD.out.size hq.1⟩)
    have HSZ := Lib.hid (show w.heap.size ≤ w5.heap.size from (HKD.out.trans HK5.out).size)
    clear K6 HD5 HK5 HSB HX5 t0 t1 t2 t3 d0 d1 d2 d3 HC1 HB6 HXD HXB HKD HKB
    go_upto_region 2 with fail
    generalize (w5.alloc (.cells #[.pointer (some ⟨sb, 0, none⟩), .int .i64 (L : Int), .slice ai t.init.length ci, .slice ag t.goal.length cg, .slice ao t.ops.length co, .int .i64 1] 59)) = w6 at HX6 HS6 ⊢
    generalize w5.heap.size = ss at HS6 HSZ ⊢
    have x2 : w6.cell? ⟨bx, 2, none⟩ = some (.slice ag t.goal.length cg) := (cell_of_blk HX6.out).trans rfl
    have xl := lt_of_heap HX6.out
    go_wp2_with fail
    go_loopw [15] (fun iv wr => ∃ (j k : Nat) (N' : List Dn) (G' : Nat → Prop), iv = .int .i64 (j : Int) ∧ j ≤ t.goal.length ∧ StS w wr ss sb L N' G' (L : Int) (.slice ai t.init.length ci) (.slice ag t.goal.length cg) (.slice ao t.ops.length co) k ∧ k < N'.length + 2 ∧ (∀ m, dv N' k m = litS true (t.goal.take j) (fun _ => true) m) ∧ low N' ≤ j * 524288) (fun iv _ => t.goal.length - (intOf iv).toNat)
    case atStart => exact ⟨0, 1, [], _, rfl, Nat.zero_le _, HS6.out, by simp, fun m => by rw [dv_one, List.take_zero, litS_nil], by simp [low]⟩
    case round =>
      obtain ⟨j, k, N', G', rfl, hj, hs, hk, hv, hc⟩ := hrel
      have HS := Lib.hid hs; have HKK := Lib.hid hk; have HV := Lib.hid hv; have HCST := Lib.hid hc
      clear hs hk hv hc x2 xl
      by_cases hlt : j < t.goal.length
      · obtain ⟨bb, bo, hao, hcell⟩ := HG.out.cell rfl (by omega)
        cases hao
        obtain ⟨p, hp⟩ : ∃ p, t.goal[j]? = some p := ⟨_, List.getElem?_eq_getElem hlt⟩
        have hpr := HGR.out p (List.mem_of_getElem? hp)
        obtain ⟨x, rfl⟩ := Int.eq_ofNat_of_zero_le hpr.1
        have hxL : x < L := by have := hpr.2; omega
        have HX := Lib.hid hp
        have hce := HS.out.k0.cell (hcell j _ hp) (fun h => h)
        have i0' : (0 : Int) ≤ (j : Int) := by omega
        have i1' : (j : Int) < (t.goal.length : Int) := by omega
        have HLT := Lib.hid hlt
        have HS1 := Lib.hid HS.out.drew
        have HC1 := Lib.hid (literal_any wr.drew sb L N' G' x true HS1.out.dg hL hxL (by have h1 := HCST.out; have h2 : j ≤ 24 := (by omega); omega))
        have c0 : wr.cell? ⟨ss, 0, none⟩ = some (.pointer (some ⟨sb, 0, none⟩)) := (cell_of_blk HS.out.blk).trans rfl
        have c5 : wr.cell? ⟨ss, 5, none⟩ = some (.int .i64 (k : Int)) := (cell_of_blk HS.out.blk).trans rfl
        have l0 := lt_of_heap HS.out.blk
        have hj24 : j ≤ 24 := by omega
        clear hcell hp hpr hlt
        go_upto_region 5 with fail
        go_region_with (first
          | (go_at_call 40; refine HC2.out.mono ?_; rintro en w8 ⟨k2, N2, G2, rfl, hp2, hz2, hd2, hk2, hn2⟩; have HP2 := Lib.hid hp2; have HS3 := Lib.hid (HS2.out.op hd2 hk2 hn2); have u0 : w8.cell? ⟨ss, 0, none⟩ = some (.pointer (some ⟨sb, 0, none⟩)) := (cell_of_blk HS3.out.blk).trans rfl; have u5 : w8.cell? ⟨ss, 5, none⟩ = some (.int .i64 (k : Int)) := (cell_of_blk HS3.out.blk).trans rfl; have uf : w8.frozen? ⟨ss, 5, none⟩ = false := frozen_of_blk HS3.out.blk; have ul := lt_of_heap HS3.out.blk; clear hp2 hz2 hd2 hk2 hn2)
          | (go_at_call 63; refine HC1.out.mono ?_; rintro en w7 ⟨k1, N1, G1, rfl, hp1, hd1, hk1, hn1⟩; have HP1 := Lib.hid hp1; have HS2 := Lib.hid (HS1.out.op hd1 hk1 hn1); have t0 : w7.cell? ⟨ss, 0, none⟩ = some (.pointer (some ⟨sb, 0, none⟩)) := (cell_of_blk HS2.out.blk).trans rfl; have t5 : w7.cell? ⟨ss, 5, none⟩ = some (.int .i64 (k : Int)) := (cell_of_blk HS2.out.blk).trans rfl; have tl := lt_of_heap HS2.out.blk; have HC2 := Lib.hid (andz_any w7 sb L N1 G1 k k1 hd1 hL (by have := hp1.le.len; have := HKK.out; omega) hp1.lt (by have h1 := hp1.cnt; have h2 := nb_le x; have h3 := HCST.out; have h6 := opC_le k; omega)); clear hp1 hd1 hk1 hn1))
        all_goals
          have HSF := Lib.hid (show StS w (w8.setCell ⟨ss, 5, none⟩ (.int .i64 (k2 : Int))) ss sb L N2 G2 _ _ _ _ k2 from
            ⟨blk6_set HS3.out.blk _, HS3.out.dg.keeps (keepsCell ss 5 _) (fun q e h => HS3.out.sep (by rw [← (e : q = ss)]; exact h)), HS3.out.sep, HS3.out.k0.trans' (keepsCell ss 5 _) (fun i hi => .inr (by rw [(show i = ss from hi)]; exact HSZ.out)), HS3.out.gb⟩)
          clear u0 u5 uf ul
          go_wp2_with fail
          go_roundw
          case rel =>
            refine ⟨j + 1, k2, N2, G2, by go_num, HLT.out, HSF.out, HP2.out.lt, fun m => ?_, ?_⟩
            · rw [HP2.out.val, HP1.out.val, HP1.out.le.dv HS1.out.dg.ok HKK.out, HV.out, take_getS HX.out, litS_snoc]
            · have h1 := HP1.out.cnt; have h2 := HP2.out.cnt; have h3 := nb_le x; have h4 := opC_le k; have h5 := HCST.out
              omega
          case measure => simp [intOf]; have := HLT.out; omega
      · have hje : j = t.goal.length := by omega
        subst hje
        go_wp2_with fail
        go_ret
        refine ⟨ss, sb, N', G', k, rfl, HS.out, HKK.out, fun m => ?_, le12 HCST.out hgl, HSZ.out⟩
        rw [HV.out, List.take_of_length_le (Nat.le_refl _)]

end Go.Proofs.YtjcgkmodmjckjaaGreat

namespace Go.Proofs.YtjcgkmodmjckjaaGreat

theorem litS_iff {b : Bool} {ps : List Int} {f : Nat → Bool} {m : Nat} : litS b ps f m = true ↔ f m = true ∧ ∀ p ∈ ps, m.testBit p.toNat = b := by
  unfold litS
  rw [Bool.and_eq_true, List.all_eq_true]
  simp only [beq_iff_eq]
theorem exsT_iff {ps : List Int} {f : Nat → Bool} {m : Nat} : exsT ps f m = true ↔ ∃ x, f x = true ∧ ∀ i, (∀ p ∈ ps, i ≠ p.toNat) → x.testBit i = m.testBit i := by
  induction ps generalizing f with
  | nil =>
    constructor
    · intro h; exact ⟨m, h, fun _ _ => rfl⟩
    · rintro ⟨x, h1, h2⟩
      have : x = m := Nat.eq_of_testBit_eq fun i => h2 i (by simp)
      subst this; exact h1
  | cons p ps ih =>
    show exsT ps (exT p.toNat f) m = true ↔ _
    rw [ih]
    constructor
    · rintro ⟨y, h1, h2⟩
      unfold exT at h1
      rw [Bool.or_eq_true] at h1
      rcases h1 with h1 | h1
      · exact ⟨_, h1, fun i hi => by rw [bit_set, if_neg (hi p (by simp))]; exact h2 i (fun q hq => hi q (by simp [hq]))⟩
      · exact ⟨_, h1, fun i hi => by rw [bit_clr, if_neg (hi p (by simp))]; exact h2 i (fun q hq => hi q (by simp [hq]))⟩
    · rintro ⟨x, h1, h2⟩
      cases hm : m.testBit p.toNat with
      | true =>
        refine ⟨x ||| 2 ^ p.toNat, ?_, fun i hi => ?_⟩
        · unfold exT
          rw [Bool.or_eq_true]
          cases hx : x.testBit p.toNat with
          | true => exact .inl (by rw [show x ||| 2 ^ p.toNat ||| 2 ^ p.toNat = x from Nat.eq_of_testBit_eq fun i => by rw [bit_set, bit_set]; by_cases h : i = p.toNat <;> simp [h, hx]]; exact h1)
          | false => exact .inr (by rw [show (x ||| 2 ^ p.toNat ||| 2 ^ p.toNat) ^^^ 2 ^ p.toNat = x from Nat.eq_of_testBit_eq fun i => by rw [bit_clr, bit_set]; by_cases h : i = p.toNat <;> simp [h, hx]]; exact h1)
        · rw [bit_set]
          by_cases h : i = p.toNat
          · rw [if_pos h, h, hm]
          · rw [if_neg h]; exact h2 i (fun q hq => by rcases List.mem_cons.1 hq with rfl | hq; exact h; exact hi q hq)
      | false =>
        refine ⟨(x ||| 2 ^ p.toNat) ^^^ 2 ^ p.toNat, ?_, fun i hi => ?_⟩
        · unfold exT
          rw [Bool.or_eq_true]
          cases hx : x.testBit p.toNat with
          | true => exact .inl (by rw [show (x ||| 2 ^ p.toNat) ^^^ 2 ^ p.toNat ||| 2 ^ p.toNat = x from Nat.eq_of_testBit_eq fun i => by rw [bit_set, bit_clr]; by_cases h : i = p.toNat <;> simp [h, hx]]; exact h1)
          | false => exact .inr (by rw [show ((x ||| 2 ^ p.toNat) ^^^ 2 ^ p.toNat ||| 2 ^ p.toNat) ^^^ 2 ^ p.toNat = x from Nat.eq_of_testBit_eq fun i => by rw [bit_clr, bit_clr]; by_cases h : i = p.toNat <;> simp [h, hx]]; exact h1)
        · rw [bit_clr]
          by_cases h : i = p.toNat
          · rw [if_pos h, h, hm]
          · rw [if_neg h]; exact h2 i (fun q hq => by rcases List.mem_cons.1 hq with rfl | hq; exact h; exact hi q hq)
/-- What image says. -/
def imgB (o : Opr) (f : Nat → Bool) : Nat → Bool := litS false o.del (litS true o.add (exsT (o.add ++ o.del) (litS true o.pre f)))
theorem symCan {o : Opr} {n : Int} (ho : o.Ok n) (x : Nat) : o.word.can x = true ↔ ∀ p ∈ o.pre, x.testBit p.toNat = true := by
  have hp := (isSet_iff.1 ho.pre).1
  unfold Wop.can Opr.word
  simp only [beq_iff_eq]
  constructor
  · intro h p hpp
    have h1 := congrArg (fun w => w.testBit p.toNat) h
    have e : ((p.toNat : Nat) : Int) = p := by have := (hp p hpp).1; omega
    simp only [Nat.testBit_and] at h1
    rw [testBit_wd (fun x hx => (hp x hx).1), e] at h1
    simpa [hpp] using h1
  · intro h
    apply Nat.eq_of_testBit_eq
    intro i
    rw [Nat.testBit_and, testBit_wd (fun x hx => (hp x hx).1)]
    by_cases hi : (i : Int) ∈ o.pre
    · have := h _ hi
      simp at this
      simp [hi, this]
    · simp [hi]
theorem symNext {o : Opr} {n : Int} (ho : o.Ok n) (x : Nat) {i : Nat} (hi : i < 32) : (o.word.next x).testBit i = ((x.testBit i && !decide ((i : Int) ∈ o.del)) || decide ((i : Int) ∈ o.add)) := by
  have ha := (isSet_iff.1 ho.add).1
  have hd := (isSet_iff.1 ho.del).1
  unfold Wop.next Opr.word
  rw [Nat.testBit_or, testBit_andN _ _ _ hi, testBit_wd (fun x hx => (ha x hx).1), testBit_wd (fun x hx => (hd x hx).1)]
theorem symNextLt {o : Opr} {L : Nat} (ho : o.Ok (L : Int)) {x : Nat} (hx : x < 2 ^ L) : o.word.next x < 2 ^ L := by
  have ha := (isSet_iff.1 ho.add).1
  exact Nat.or_lt_two_pow (andN_lt hx) (wd_lt ha)
theorem img_iff {o : Opr} {L : Nat} (hL : L ≤ 24) (ho : o.Ok (L : Int)) {f : Nat → Bool} {m : Nat} (hm : m < 2 ^ L) : imgB o f m = true ↔ ∃ x, x < 2 ^ L ∧ f x = true ∧ o.word.can x = true ∧ o.word.next x = m := by
  have ha := (isSet_iff.1 ho.add).1
  have hd := (isSet_iff.1 ho.del).1
  have hdj := disj_iff.1 ho.disj
  have hpow : ∀ {y : Nat}, y < 2 ^ L → ∀ i, L ≤ i → y.testBit i = false := fun {y} hy i hi => Nat.testBit_lt_two_pow (Nat.lt_of_lt_of_le hy (Nat.pow_le_pow_right (by omega) hi))
  unfold imgB
  rw [litS_iff, litS_iff, exsT_iff]
  constructor
  · rintro ⟨⟨⟨x, hx, hag⟩, hadd⟩, hdel⟩
    rw [litS_iff] at hx
    have hag' : ∀ i : Nat, (i : Int) ∉ o.add → (i : Int) ∉ o.del → x.testBit i = m.testBit i := fun i h1 h2 => hag i (fun p hp e => by
      rcases List.mem_append.1 hp with h | h
      · have := (ha p h).1; exact h1 (by rw [e, show ((p.toNat : Nat) : Int) = p from by omega]; exact h)
      · have := (hd p h).1; exact h2 (by rw [e, show ((p.toNat : Nat) : Int) = p from by omega]; exact h))
    have hxL : x < 2 ^ L := Nat.lt_pow_two_of_testBit _ (fun i hi => by
      rw [hag' i (fun h => by have := (ha _ h).2; omega) (fun h => by have := (hd _ h).2; omega)]
      exact hpow hm i hi)
    refine ⟨x, hxL, hx.1, (symCan ho x).2 hx.2, Nat.eq_of_testBit_eq fun i => ?_⟩
    by_cases hi : i < 32
    · rw [symNext ho x hi]
      by_cases h1 : (i : Int) ∈ o.add
      · have := hadd _ h1
        simp at this
        simp [h1, this]
      · by_cases h2 : (i : Int) ∈ o.del
        · have := hdel _ h2
          simp at this
          simp [h1, h2, this]
        · simp [h1, h2, hag' i h1 h2]
    · rw [hpow (symNextLt ho hxL) i (by omega), hpow hm i (by omega)]
  · rintro ⟨x, hxL, hf, hc, rfl⟩
    refine ⟨⟨⟨x, litS_iff.2 ⟨hf, (symCan ho x).1 hc⟩, fun i hi => ?_⟩, fun p hp => ?_⟩, fun p hp => ?_⟩
    · by_cases h32 : i < 32
      · rw [symNext ho x h32]
        have h1 : (i : Int) ∉ o.add := fun h => hi _ (List.mem_append.2 (.inl h)) (by omega)
        have h2 : (i : Int) ∉ o.del := fun h => hi _ (List.mem_append.2 (.inr h)) (by omega)
        simp [h1, h2]
      · rw [hpow hxL i (by omega), hpow (symNextLt ho hxL) i (by omega)]
    · have hb := ha p hp
      rw [symNext ho x (by omega), show ((p.toNat : Nat) : Int) = p from by omega]
      simp [hp]
    · have hb := hd p hp
      have hna : p ∉ o.add := fun h => hdj p h hp
      rw [symNext ho x (by omega), show ((p.toNat : Nat) : Int) = p from by omega]
      simp [hp, hna]

end Go.Proofs.YtjcgkmodmjckjaaGreat

namespace Go.Proofs.YtjcgkmodmjckjaaGreat

/-- The state m is reached with n steps, and not with fewer. -/
def Dp (ops : List Wop) (s m n : Nat) : Prop := (∃ q, runOps ops s q = some m ∧ q.length = n) ∧ ∀ q, runOps ops s q = some m → n ≤ q.length
section
variable {ops : List Wop} {s : Nat}
theorem Dp.zero : Dp ops s s 0 := ⟨⟨[], rfl, rfl⟩, fun _ _ => Nat.zero_le _⟩
theorem Dp.start {m : Nat} (h : Dp ops s m 0) : m = s := by
  obtain ⟨⟨q, h1, h2⟩, _⟩ := h
  have : q = [] := List.length_eq_zero_iff.1 h2
  subst this
  exact (Option.some.inj h1).symm
theorem Dp.unique {m a b : Nat} (h : Dp ops s m a) (g : Dp ops s m b) : a = b := by
  obtain ⟨⟨p, h1, h2⟩, h3⟩ := h
  obtain ⟨⟨q, g1, g2⟩, g3⟩ := g
  have := h3 q g1; have := g3 p h1; omega
theorem Dp.least {m : Nat} : ∀ (n : Nat) (q : List Nat), q.length ≤ n → runOps ops s q = some m → ∃ k, k ≤ q.length ∧ Dp ops s m k := by
  intro n
  induction n with
  | zero => intro q hq h; exact ⟨q.length, Nat.le_refl _, ⟨q, h, rfl⟩, fun p _ => by omega⟩
  | succ n ih =>
    intro q hq h
    by_cases hm : ∃ p, runOps ops s p = Option.some m ∧ p.length < q.length
    · obtain ⟨p, h1, h2⟩ := hm
      obtain ⟨k, h3, h4⟩ := ih p (by omega) h1
      exact ⟨k, by omega, h4⟩
    · exact ⟨q.length, Nat.le_refl _, ⟨q, h, rfl⟩, fun p hp => Nat.le_of_not_lt (fun hlt => hm ⟨p, hp, hlt⟩)⟩
theorem Dp.prev {m n : Nat} (h : Dp ops s m (n + 1)) : ∃ (x i : Nat) (op : Wop), Dp ops s x n ∧ ops[i]? = some op ∧ op.can x = true ∧ op.next x = m := by
  obtain ⟨⟨q, h1, h2⟩, h3⟩ := h
  have hne : q ≠ [] := fun e => by rw [e] at h2; cases h2
  obtain ⟨p, o, rfl⟩ : ∃ p o, q = p ++ [o] := ⟨q.dropLast, q.getLast hne, (List.dropLast_concat_getLast hne).symm⟩
  obtain ⟨y, op, g1, g2, g3, g4⟩ := runOps_snoc h1
  rw [List.length_append, List.length_singleton] at h2
  refine ⟨y, o, op, ⟨⟨p, g1, by omega⟩, fun r hr => ?_⟩, g2, g3, g4.symm⟩
  have h5 := h3 (r ++ [o]) (by rw [g4]; exact runOps_snoc' hr g2 g3)
  rw [List.length_append, List.length_singleton] at h5
  omega
theorem Dp.next {m n : Nat} : ((∃ (x i : Nat) (op : Wop), Dp ops s x n ∧ ops[i]? = some op ∧ op.can x = true ∧ op.next x = m) ∧ ∀ k, k ≤ n → ¬ Dp ops s m k) ↔ Dp ops s m (n + 1) := by
  constructor
  · rintro ⟨⟨x, i, op, ⟨⟨q, h1, h2⟩, _⟩, h3, h4, rfl⟩, h5⟩
    refine ⟨⟨q ++ [i], runOps_snoc' h1 h3 h4, by rw [List.length_append, List.length_singleton, h2]⟩, fun p hp => ?_⟩
    by_cases hlt : p.length ≤ n
    · obtain ⟨k, h6, h7⟩ := Dp.least p.length p (Nat.le_refl _) hp
      exact absurd h7 (h5 k (by omega))
    · omega
  · intro h
    exact ⟨h.prev, fun k hk hd => by have := h.unique hd; omega⟩
/-- All smaller depths occur, too: so depths are less than the number of states. -/
theorem Dp.chain : ∀ {n m : Nat}, Dp ops s m n → ∃ xs : List Nat, xs.length = n + 1 ∧ (∀ k x, xs[k]? = Option.some x → Dp ops s x k) := by
  intro n
  induction n with
  | zero => intro m h; exact ⟨[m], rfl, fun k x hx => by
      cases k with
      | zero => cases hx; exact h
      | succ k => simp at hx⟩
  | succ n ih =>
    intro m h
    obtain ⟨x, _, _, hx, _⟩ := h.prev
    obtain ⟨xs, h1, h2⟩ := ih hx
    refine ⟨xs ++ [m], by rw [List.length_append, h1]; rfl, fun k y hy => ?_⟩
    by_cases hk : k < xs.length
    · rw [List.getElem?_append_left hk] at hy; exact h2 k y hy
    · have h3 := (List.getElem?_eq_some_iff.1 hy).1
      rw [List.length_append, List.length_singleton] at h3
      have h4 : k = xs.length := by omega
      rw [h4, List.getElem?_append_right (Nat.le_refl _)] at hy
      simp at hy
      rw [← hy, h4, h1]; exact h
theorem Dp.lt {l : List Nat} (hl : ∀ q y, runOps ops s q = Option.some y → y ∈ l) {n m : Nat} (h : Dp ops s m n) : n < l.length := by
  obtain ⟨xs, h1, h2⟩ := h.chain
  have hn : xs.Nodup := by
    rw [List.nodup_iff_pairwise_ne, List.pairwise_iff_getElem]
    intro i j hi hj hij he
    have d1 := h2 i _ (List.getElem?_eq_getElem hi)
    have d2 := h2 j _ (List.getElem?_eq_getElem hj)
    rw [he] at d1
    have := d1.unique d2; omega
  have h3 := nodup_sub hn (r := l) (fun x hx => by
    obtain ⟨k, hk⟩ := List.mem_iff_getElem?.1 hx
    obtain ⟨⟨q, g1, _⟩, _⟩ := h2 k x hk
    exact hl q x g1)
  omega
/-- The states of a depth. -/
theorem Dp.list {l : List Nat} (hd : l.Nodup) (hl : ∀ q y, runOps ops s q = Option.some y → y ∈ l) (n : Nat) : ∃ S : List Nat, S.Nodup ∧ ∀ x, x ∈ S ↔ Dp ops s x n := by
  refine ⟨l.filter fun x => @decide (Dp ops s x n) (Classical.propDecidable _), hd.filter _, fun x => ?_⟩
  rw [List.mem_filter]
  constructor
  · rintro ⟨_, h⟩; exact @of_decide_eq_true _ (Classical.propDecidable _) h
  · intro h
    obtain ⟨⟨q, g1, _⟩, _⟩ := id h
    exact ⟨hl q x g1, @decide_eq_true _ (Classical.propDecidable _) h⟩
/-- f is the set of the states of the depth n; g that of the depths up to n. -/
def LayIs (L : Nat) (ops : List Wop) (s : Nat) (f : Nat → Bool) (n : Nat) : Prop := ∀ m, m < 2 ^ L → (f m = true ↔ Dp ops s m n)
def AllIs (L : Nat) (ops : List Wop) (s : Nat) (f : Nat → Bool) (n : Nat) : Prop := ∀ m, m < 2 ^ L → (f m = true ↔ ∃ k, k ≤ n ∧ Dp ops s m k)
/-- What the images of a set say, up to an operator. -/
def imgsB (os : List Opr) (f : Nat → Bool) (m : Nat) : Bool := os.any fun o => imgB o f m
theorem imgsB_snoc (os : List Opr) (o : Opr) (f : Nat → Bool) (m : Nat) : imgsB (os ++ [o]) f m = (imgsB os f m || imgB o f m) := by unfold imgsB; rw [List.any_append]; simp
end
theorem cube_iff {L s m : Nat} (hs : s < 2 ^ L) (hm : m < 2 ^ L) : cubeS L s 0 m = true ↔ m = s := by
  unfold cubeS
  rw [List.all_eq_true]
  constructor
  · intro h
    apply Nat.eq_of_testBit_eq
    intro i
    by_cases hi : i < L
    · have := h i (List.mem_range.2 hi)
      simpa using this
    · rw [Nat.testBit_lt_two_pow (Nat.lt_of_lt_of_le hm (Nat.pow_le_pow_right (by omega) (by omega))), Nat.testBit_lt_two_pow (Nat.lt_of_lt_of_le hs (Nat.pow_le_pow_right (by omega) (by omega)))]
  · rintro rfl i _
    simp
theorem LayIs.next {L : Nat} {os : List Opr} {s n : Nat} {f g : Nat → Bool} (hL : L ≤ 24) (hos : ∀ o ∈ os, o.Ok (L : Int)) (hst : ∀ q y, runOps (wordsOf os) s q = some y → y < 2 ^ L) (hf : LayIs L (wordsOf os) s f n) (hg : AllIs L (wordsOf os) s g n) :
    LayIs L (wordsOf os) s (fun m => imgsB os f m && !g m) (n + 1) := by
  intro m hm
  rw [← Dp.next, Bool.and_eq_true]
  have hw : ∀ {i : Nat} {op : Wop}, (wordsOf os)[i]? = some op → ∃ o, os[i]? = some o ∧ op = o.word := fun {i op} h => by
    unfold wordsOf at h
    rw [List.getElem?_map] at h
    cases ho : os[i]? with
    | none => rw [ho] at h; cases h
    | some o => rw [ho] at h; cases h; exact ⟨o, rfl, rfl⟩
  constructor
  · rintro ⟨h1, h2⟩
    unfold imgsB at h1
    rw [List.any_eq_true] at h1
    obtain ⟨o, ho, h3⟩ := h1
    obtain ⟨x, hx, h4, h5, h6⟩ := (img_iff hL (hos o ho) hm).1 h3
    obtain ⟨i, hi⟩ := List.mem_iff_getElem?.1 ho
    refine ⟨⟨x, i, o.word, (hf x hx).1 h4, by unfold wordsOf; rw [List.getElem?_map, hi]; rfl, h5, h6⟩, fun k hk hd => ?_⟩
    have h7 := (hg m hm).2 ⟨k, hk, hd⟩
    rw [h7] at h2; cases h2
  · rintro ⟨⟨x, i, op, hx, hi, hc, he⟩, hno⟩
    obtain ⟨o, ho, rfl⟩ := hw hi
    have hxL : x < 2 ^ L := by obtain ⟨⟨q, g1, _⟩, _⟩ := hx; exact hst q x g1
    refine ⟨?_, ?_⟩
    · unfold imgsB
      rw [List.any_eq_true]
      exact ⟨o, List.mem_of_getElem? ho, (img_iff hL (hos o (List.mem_of_getElem? ho)) hm).2 ⟨x, hxL, (hf x hxL).2 hx, hc, he⟩⟩
    · cases hgm : g m with
      | false => rfl
      | true =>
        obtain ⟨k, hk, hd⟩ := (hg m hm).1 hgm
        exact absurd hd (hno k hk)
theorem AllIs.next {L : Nat} {ops : List Wop} {s n : Nat} {f g : Nat → Bool} (hg : AllIs L ops s g n) (hf : LayIs L ops s f (n + 1)) : AllIs L ops s (fun m => g m || f m) (n + 1) := by
  intro m hm
  rw [Bool.or_eq_true, hg m hm, hf m hm]
  constructor
  · rintro (⟨k, h1, h2⟩ | h)
    · exact ⟨k, by omega, h2⟩
    · exact ⟨n + 1, Nat.le_refl _, h⟩
  · rintro ⟨k, h1, h2⟩
    by_cases hk : k = n + 1
    · subst hk; exact .inr h2
    · exact .inl ⟨k, by omega, h2⟩
/-- What Layers hands back. -/
def LayersIs (ops : List Wop) (s : Nat) (out : List Int) : Prop :=
  (∀ n c, out[n]? = some c → ∃ S : List Nat, S.Nodup ∧ S ≠ [] ∧ (∀ x, x ∈ S ↔ Dp ops s x n) ∧ c = (S.length : Int)) ∧ ∀ x n, Dp ops s x n → n < out.length

end Go.Proofs.YtjcgkmodmjckjaaGreat

namespace Go.Proofs.YtjcgkmodmjckjaaGreat
open Go.RowKit

/-- The sets, and the row of numbers that Layers hands back. -/
structure LyS (w3 wr : World) (B ss sb L : Nat) (n : Int) (vi vg vo : Value) (gk : Nat) (N : List Dn) (G : Nat → Prop) (ov : Value) (out : List Int) : Prop where
  st : StS w3 wr ss sb L N G n vi vg vo gk
  row : wr.ownsRow B 3 1 ov out.length (out.map (Value.int .i64))
  off : ∀ k, ov.ownBlock = some k → ¬ G k
  ssB : ss < B
  low : w3.heap.size ≤ B
section
variable {w3 wr w' : World} {B ss sb L : Nat} {n : Int} {vi vg vo : Value} {gk : Nat} {N N' : List Dn} {G G' : Nat → Prop} {ov ov' : Value} {out out' : List Int}
theorem LyS.opS (h : LyS w3 wr B ss sb L n vi vg vo gk N G ov out) (hs : StS w3 w' ss sb L N' G' n vi vg vo gk) (hk : Keeps G wr w') (hn : ∀ q, G' q → G q ∨ wr.heap.size ≤ q) : LyS w3 w' B ss sb L n vi vg vo gk N' G' ov out :=
  ⟨hs, heap_row h.row hk h.off, fun k hk' hg => (hn k hg).elim (h.off k hk') (fun hs => by have := (World.ownsRow.lt h.row k hk').2; omega), h.ssB, h.low⟩
theorem LyS.op (h : LyS w3 wr B ss sb L n vi vg vo gk N G ov out) (hd : Dg w' sb L N' G') (hk : Keeps G wr w') (hn : ∀ q, G' q → G q ∨ wr.heap.size ≤ q) : LyS w3 w' B ss sb L n vi vg vo gk N' G' ov out := h.opS (h.st.op hd hk hn) hk hn
theorem LyS.keeps0 (h : LyS w3 wr B ss sb L n vi vg vo gk N G ov out) (hk : Keeps (fun _ => False) wr w') : LyS w3 w' B ss sb L n vi vg vo gk N G ov out :=
  ⟨h.st.keeps0 hk, heap_row h.row hk (fun _ _ h => h), h.off, h.ssB, h.low⟩
theorem LyS.grow (h : LyS w3 wr B ss sb L n vi vg vo gk N G ov out) (hk : Keeps (fun k => ov.ownBlock = some k) wr w') (hr : w'.ownsRow B 3 1 ov' out'.length (out'.map (Value.int .i64))) (hb : ∀ k, ov'.ownBlock = some k → ov.ownBlock = some k ∨ wr.heap.size ≤ k) : LyS w3 w' B ss sb L n vi vg vo gk N G ov' out' := by
  have hlo : ∀ k, ov.ownBlock = some k → B ≤ k := fun k hk => (World.ownsRow.lt h.row k hk).1
  refine ⟨⟨hk.heap h.st.blk (fun e => by have := hlo _ e; have := h.ssB; omega), h.st.dg.keeps hk (fun k e => h.off k e), h.st.sep, h.st.k0.trans' hk (fun i hi => .inr (by have := hlo i hi; have := h.low; omega)), h.st.gb⟩, hr, fun k hk' hg => ?_, h.ssB, h.low⟩
  rcases hb k hk' with h1 | h1
  · exact h.off k h1 hg
  · have := h.st.dg.bnd k hg; omega
end
/-- What Layers hands back. -/
def LayRes (t : Tsk) (out : List Int) (fc fi : Int) : Prop :=
  (fc ≠ 0 ∧ expF t = (fc, fi) ∧ out = []) ∨ (fc = 0 ∧ fi = 0 ∧ t.Ok ∧ ∃ l, explored t = some l ∧ LayersIs (wordsOf t.ops) (wd t.init) out)
def LayPost (t : Tsk) (w : World) (e : Ending) (w' : World) : Prop := Keeps (fun _ => False) w w' ∧ ∃ v out fc fi, e = .returned (.tuple #[v, fltV fc fi]) ∧ Ints w' v out ∧ LayRes t out fc fi
/-- The layers that have been counted. -/
def LayCnt (ops : List Wop) (s : Nat) (out : List Int) : Prop := ∀ n c, out[n]? = some c → ∃ S : List Nat, S.Nodup ∧ S ≠ [] ∧ (∀ x, x ∈ S ↔ Dp ops s x n) ∧ c = (S.length : Int)
theorem LayCnt.snoc {ops : List Wop} {s : Nat} {out : List Int} {c : Int} (h : LayCnt ops s out) (hc : ∃ S : List Nat, S.Nodup ∧ S ≠ [] ∧ (∀ x, x ∈ S ↔ Dp ops s x out.length) ∧ c = (S.length : Int)) : LayCnt ops s (out ++ [c]) := by
  intro n d hd
  by_cases hn : n < out.length
  · rw [List.getElem?_append_left hn] at hd; exact h n d hd
  · have h1 := (List.getElem?_eq_some_iff.1 hd).1
    rw [List.length_append, List.length_singleton] at h1
    have h2 : n = out.length := by omega
    rw [h2, List.getElem?_append_right (Nat.le_refl _)] at hd
    simp at hd
    rw [h2, ← hd]; exact hc
theorem LayCnt.done {ops : List Wop} {s : Nat} {out : List Int} (h : LayCnt ops s out) (hz : ∀ x, ¬ Dp ops s x out.length) : LayersIs ops s out := by
  refine ⟨h, fun x n hd => Nat.lt_of_not_le (fun hle => ?_)⟩
  obtain ⟨xs, h1, h2⟩ := hd.chain
  have hlt : out.length < xs.length := by omega
  exact hz _ (h2 out.length _ (List.getElem?_eq_getElem hlt))
/-- What an operator's image costs at most. -/
theorem opr_few {o : Opr} {L : Nat} (hL : L ≤ 24) (ho : o.Ok (L : Int)) : o.pre.length ≤ 24 ∧ o.add.length ≤ 24 ∧ o.del.length ≤ 24 ∧ o.add.length + o.del.length ≤ 24 := by
  have hn : ((L : Nat) : Int) ≤ 24 := by omega
  refine ⟨isSet_few ho.pre hn, isSet_few ho.add hn, isSet_few ho.del hn, ?_⟩
  obtain ⟨a1, a2⟩ := isSet_iff.1 ho.add
  obtain ⟨d1, d2⟩ := isSet_iff.1 ho.del
  have hdj := disj_iff.1 ho.disj
  have hb : ∀ p ∈ o.add ++ o.del, 0 ≤ p ∧ p < (L : Int) := fun p hp => (List.mem_append.1 hp).elim (a1 p) (d1 p)
  have hnd : (o.add ++ o.del).Nodup := List.nodup_append.2 ⟨a2.imp (fun h => by omega), d2.imp (fun h => by omega), fun a ha b hb e => hdj a ha (by rw [e]; exact hb)⟩
  have h3 : ((o.add ++ o.del).map Int.toNat).Nodup := by
    refine List.pairwise_map.2 (hnd.imp_of_mem ?_)
    intro a b ha hb' hne he
    have := hb a ha; have := hb b hb'
    exact hne (by omega)
  have h4 := nodup_sub h3 (r := List.range 24) (fun x hx => by
    obtain ⟨y, hy, rfl⟩ := List.mem_map.1 hx
    have := hb y hy
    exact List.mem_range.2 (by omega))
  rw [List.length_map, List.length_append, List.length_range] at h4
  exact h4
theorem img_cost {p q c : Nat} (hp : p ≤ 24) (hq : q ≤ 24) (hc : c ≤ 524287) : p * (1 + c) + (q * c + q * (1 + c)) ≤ 37748736 := by
  have h1 : p * (1 + c) ≤ 24 * 524288 := Nat.mul_le_mul hp (by omega)
  have h2 : q * c ≤ 24 * 524288 := Nat.mul_le_mul hq (by omega)
  have h3 : q * (1 + c) ≤ 24 * 524288 := Nat.mul_le_mul hq (by omega)
  omega

end Go.Proofs.YtjcgkmodmjckjaaGreat
