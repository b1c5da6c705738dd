/- The reference's Arcs. -/
import Derived.Test.YtcfcmmajlkkabaaLists
namespace Go.Proofs.Ytcfcmmajlkkabaa
open Go.RowKit

def arcCells (A : List Arc) : List Value := A.flatMap fun a => [.int .i64 (a.frm : Int), .int .i64 (a.to : Int), .int .i64 (a.op : Int), .int .i64 a.cost]
theorem arcCells_append (a b : List Arc) : arcCells (a ++ b) = arcCells a ++ arcCells b := by unfold arcCells; exact List.flatMap_append
theorem arcCells_get {A : List Arc} {i : Nat} {a : Arc} (h : A[i]? = some a) : (arcCells A)[i * 4]? = some (.int .i64 (a.frm : Int)) ∧ (arcCells A)[i * 4 + 1]? = some (.int .i64 (a.to : Int)) ∧ (arcCells A)[i * 4 + 2]? = some (.int .i64 (a.op : Int)) ∧ (arcCells A)[i * 4 + 3]? = some (.int .i64 a.cost) := by
  induction A generalizing i with
  | nil => simp at h
  | cons o r ih =>
    have e : arcCells (o :: r) = .int .i64 (o.frm : Int) :: .int .i64 (o.to : Int) :: .int .i64 (o.op : Int) :: .int .i64 o.cost :: arcCells r := rfl
    rw [e]
    cases i with
    | zero => simp at h; subst h; exact ⟨rfl, rfl, rfl, rfl⟩
    | succ i =>
      obtain ⟨h1, h2, h3, h4⟩ := ih (by simpa using h)
      rw [show (i + 1) * 4 = i * 4 + 1 + 1 + 1 + 1 by omega]
      refine ⟨?_, ?_, ?_, ?_⟩
      · simpa using h1
      · rw [show i * 4 + 1 + 1 + 1 + 1 + 1 = i * 4 + 1 + 1 + 1 + 1 + 1 from rfl]; simpa using h2
      · simpa using h3
      · simpa using h4

/-- A slice of arcs in a row of one's own. -/
def OwnArcs (B : Nat) (w : World) (v : Value) (A : List Arc) : Prop := w.ownsRow B 95 4 v A.length (arcCells A)

theorem OwnArcs.snoc {B n : Nat} {w4 : World} {V : Value} {A : List Arc} {a : Arc} (hn : A.length = n) (hown : w4.ownsRow B 95 4 V (n + 1) (arcCells A ++ [.int .i64 (a.frm : Int), .int .i64 (a.to : Int), .int .i64 (a.op : Int), .int .i64 a.cost])) : OwnArcs B w4 V (A ++ [a]) := by
  unfold OwnArcs
  rw [List.length_append, arcCells_append, hn]
  exact hown

theorem Try.info_arc : (Try.prog.info? 95).map (fun i => (i.zero, i.size, i.bytes)) = some (some (.agg #[.int .i64 0, .int .i64 0, .int .i64 0, .int .i64 0]), 4, 32) := by kernel_rfl

def part (ops : List Wop) (L : List Nat) (p x j : Nat) : List Arc := arcsTo ops L p ++ opArcs ops L p x j
def part2 (ops : List Wop) (L : List Nat) (p x j : Nat) (c : Int) (y k : Nat) : List Arc := part ops L p x j ++ hits L p j c y k
theorem part_zero (ops : List Wop) (L : List Nat) (p x : Nat) : part ops L p x 0 = arcsTo ops L p := by unfold part; rw [opArcs, List.append_nil]
theorem part_step {ops : List Wop} {L : List Nat} {p x j : Nat} {o : Wop} (ho : ops[j]? = some o) : part ops L p x (j + 1) = if o.can x = true then part2 ops L p x j o.cost (o.next x) L.length else part ops L p x j := by
  unfold part part2 part
  rw [opArcs, ho]; simp only
  split
  · rw [List.append_assoc]
  · rw [List.append_nil]
theorem part_all {ops : List Wop} {L : List Nat} {p x n : Nat} (hx : L[p]? = some x) (hn : ops.length = n) : part ops L p x n = arcsTo ops L (p + 1) := by
  unfold part; rw [arcsTo, hx]; simp only; rw [hn]
theorem part2_zero (ops : List Wop) (L : List Nat) (p x j : Nat) (c : Int) (y : Nat) : part2 ops L p x j c y 0 = part ops L p x j := by unfold part2; rw [hits, List.append_nil]
theorem part2_step {ops : List Wop} {L : List Nat} {p x j : Nat} {c : Int} {y z k : Nat} (hz : L[k]? = some z) : part2 ops L p x j c y (k + 1) = part2 ops L p x j c y k ++ (if z = y then [⟨p, k, j, c⟩] else []) := by
  unfold part2; rw [hits, hz]; simp [List.append_assoc]

theorem part2_le (ops : List Wop) (L : List Nat) (hL : L.length ≤ 2000) (hops : ops.length ≤ 40) {i j k : Nat} (hi : i ≤ L.length) (hj : j ≤ ops.length) (hk : k ≤ L.length) (x : Nat) (c : Int) (y : Nat) :
    (part2 ops L i x j c y k).length ≤ 200000000 := by
  have h1 := arcsTo_len ops L i
  have h2 := opArcs_len ops L i x j
  have h3 := hits_len L i j c y k
  have h4 : ops.length * L.length ≤ 40 * 2000 := Nat.mul_le_mul hops hL
  have h5 : i * (ops.length * L.length) ≤ 2000 * (40 * 2000) := Nat.mul_le_mul (by omega) h4
  have h6 : j * L.length ≤ 40 * 2000 := Nat.mul_le_mul (by omega) hL
  unfold part2 part
  simp only [List.length_append]
  omega

set_option maxRecDepth 100000 in
set_option maxHeartbeats 4000000 in
theorem arcs_any (w : World) (vi vg vo vl : Value) (t : Tsk) (L : List Nat) (h : TaskAt w vi vg vo t) (ok : t.Ok) (hl : Lists w vl (L.map facts)) (hg : ∀ x ∈ L, Good t.n x) (hfew : L.length ≤ 2000) :
    Calls Try.prog 21 #[.agg #[.int .i64 t.n, vi, vg, vo], vl] w fun e w' => ∃ v, e = .returned v ∧ OwnArcs w.heap.size w' v (arcs (wordsOf t.ops) L) ∧ Keeps (fun _ => False) w w' := by
  obtain ⟨i0, hi0, hz0, hz1, hz2⟩ := info_parts Try.info3
  obtain ⟨j0, hj0, jz0, jz1, jz2⟩ := info_parts Try.info_arc
  obtain ⟨ai, ci, h1, _⟩ := h.init.form
  obtain ⟨ag, cg, h2, _⟩ := h.goal.form
  obtain ⟨ao, co, h3, hmo⟩ := h.ops.form
  obtain ⟨al, cl, h4, _⟩ := hl.form
  have hcl := hl.cell h4
  rw [List.length_map] at h4 hcl
  subst h1 h2 h3 h4
  have hn32 : t.n ≤ 32 := by have := ok.n1; omega
  have hoc := h.ops.cell rfl
  have HB := Lib.hid (Four.new w (.int .i64 t.n) (.slice ai t.init.length ci) (.slice ag t.goal.length cg) (.slice ao t.ops.length co) 25)
  have K1 := (Keeps.refl (fun _ => False) w).alloc (.cells #[.int .i64 t.n, .slice ai t.init.length ci, .slice ag t.goal.length cg, .slice ao t.ops.length co] 25)
  have HT := Lib.hid (h.keeps0 K1); have HCL := Lib.hid hcl; have HOC := Lib.hid hoc
  have HK := Lib.hid K1; have OK := Lib.hid ok; have HG := Lib.hid hg
  have hops : (wordsOf t.ops).length = t.ops.length := by unfold wordsOf; rw [List.length_map]
  have HOPS := Lib.hid hops
  have hfo := ok.few
  have HLE := Lib.hid (show ∀ i j k : Nat, i ≤ L.length → j ≤ t.ops.length → k ≤ L.length → ∀ (x : Nat) (c : Int) (y : Nat), (part2 (wordsOf t.ops) L i x j c y k).length ≤ 200000000 from fun i j k hi hj hk x c y => part2_le (wordsOf t.ops) L hfew (by rw [hops]; exact hfo) hi (by rw [hops]; exact hj) hk x c y)
  clear h hl hcl hoc K1 ok hg hops
  go_enter Try.func21, Try.ntmps21
  go_upto_region 1 with fail
  generalize (w.alloc (.cells #[.int .i64 t.n, .slice ai t.init.length ci, .slice ag t.goal.length cg, .slice ao t.ops.length co] 25)) = w1 at HB HT HK ⊢
  have hbx := HB.out.lt
  go_wp2_with fail
  go_loopw [5, 6] (fun v5 i6 wr => ∃ i : Nat, i ≤ L.length ∧ i6 = .int .i64 (i : Int) ∧ wr.ownsRow w1.heap.size 3 1 v5 i ((L.take i).map fun x : Nat => Value.int .i64 (x : Int)) ∧ Keeps (fun _ => False) w1 wr) (fun _ i6 _ => L.length - (intOf i6).toNat)
  case atStart => exact ⟨0, Nat.zero_le _, rfl, World.ownsRow_nil _ _ _ _, Keeps.refl _ _⟩
  case round =>
    obtain ⟨i, hi, rfl, hown, hkw⟩ := hrel
    obtain ⟨av, cv, hav⟩ := ownsRow_form1 hown
    subst hav
    have HO := Lib.hid hown; have KW := Lib.hid hkw
    have hsw := hkw.size
    have hsz := HK.out.size
    clear hown hkw
    by_cases hlt : i < L.length
    · obtain ⟨bl, ol, rfl, hx'⟩ := HCL.out (by omega)
      obtain ⟨x, hx⟩ : ∃ x, L[i]? = some x := ⟨_, List.getElem?_eq_getElem hlt⟩
      obtain ⟨u, hu, hiu⟩ := hx' i (facts x) (by rw [List.getElem?_map, hx]; rfl)
      have hu2 := (HK.out.trans KW.out).cell hu (fun h => h)
      have HIU := Lib.hid (hiu.keeps0 (HK.out.trans KW.out))
      have HX := Lib.hid hx
      have HGX := Lib.hid (HG.out x (List.mem_of_getElem? hx))
      have HTK := Lib.hid (take_getS hx)
      obtain ⟨au, cu, hfu, _⟩ := hiu.form
      subst hfu
      clear hx' hx hu hiu
      go_wp2_with fail
      refine (rword_any _ _ _ HIU.out (isSet_mono HGX.out.1 (by omega))).mono ?_; rintro e w3 ⟨rfl, rfl⟩
      rw [HGX.out.2]
      go_wp2_with (at_builtin; refine wpList_append_d rfl _ _ _ rfl w1.heap.size 3 i0 _ 1 8 Try.underlying22 hi0 hz0 hz1 hz2 rfl (by omega) _ i ((L.take i).map fun x : Nat => Value.int .i64 (x : Int)) (by rfl) (World.ownsRow.alloc HO.out (.cells #[.int .i64 (x : Int)] 3)) ⟨wr.heap.size, 0, none⟩ 1 1 [.int .i64 (x : Int)] (by rfl) (by rfl) ?hnews ?hone (by omega) (by unfold maxLen; omega) (by omega) (by simp; omega) (wr.heap.size + 1) (by simp) ?_)
      case hnews => exact World.news_of_block (cs := #[.int .i64 (x : Int)]) (t := 3) (fr := (0, 0)) (heap_alloc_new _ _)
      case hone => simp [Value.oneCell']
      intro gg cap2 w4 hown hgrow hat hlt4 hd4
      have HN := Lib.hid (show w4.ownsRow w1.heap.size 3 1 (.slice (some ⟨gg, 0, none⟩) (i + 1) cap2) (i + 1) ((L.take (i + 1)).map fun x : Nat => Value.int .i64 (x : Int)) by
        rw [HTK.out, List.map_append, List.map_take]; exact hown)
      have HKN := Lib.hid (own_grown HO.out KW.out ((Keeps.refl _ wr).alloc (.cells #[.int .i64 (x : Int)] 3)) hgrow)
      clear hown hgrow hat hd4
      go_wp2_with fail
      go_roundw
      case rel => exact ⟨i + 1, by omega, by go_num, HN.out, HKN.out⟩
      case measure => simp [intOf]; omega
    · have hie : i = L.length := by omega
      obtain ⟨w2, rfl⟩ : ∃ w2, w2 = wr := ⟨_, rfl⟩
      have HWD := Lib.hid (show Ints w2 (.slice av i cv) (L.map fun x : Nat => (x : Int)) by
        have h := Sl.of_own HO.out
        rw [List.take_of_length_le (by omega)] at h
        unfold Ints
        rw [List.length_map, List.map_map]
        rw [← hie]
        exact h)
      have HCW := Lib.hid (HWD.out.cell rfl)
      subst hie
      have HK2 := Lib.hid (HK.out.trans KW.out)
      have HT2 := Lib.hid (HT.out.keeps0 KW.out)
      have HB2 := Lib.hid (HB.out.keeps0 KW.out)
      clear hlt hbx
      go_wp2_with fail
      go_loopw [7, 8] (fun v7 i8 wq => ∃ p : Nat, p ≤ L.length ∧ i8 = .int .i64 (p : Int) ∧ OwnArcs w2.heap.size wq v7 (arcsTo (wordsOf t.ops) L p) ∧ Keeps (fun _ => False) w2 wq) (fun _ i8 _ => L.length - (intOf i8).toNat)
      case atStart => exact ⟨0, Nat.zero_le _, rfl, World.ownsRow_nil _ _ _ _, Keeps.refl _ _⟩
      case round =>
        obtain ⟨p, hp, rfl, hown, hkq⟩ := hrel
        obtain ⟨a7, c7, h7⟩ := ownsRow_formS hown
        subst h7
        have HO2 := Lib.hid hown; have KQ := Lib.hid hkq
        clear hown hkq
        by_cases hlt : p < L.length
        · obtain ⟨bl, ol, rfl, hx'⟩ := HCL.out (by omega)
          obtain ⟨x, hx⟩ : ∃ x, L[p]? = some x := ⟨_, List.getElem?_eq_getElem hlt⟩
          obtain ⟨u, hu, hiu⟩ := hx' p (facts x) (by rw [List.getElem?_map, hx]; rfl)
          have HU := Lib.hid (HK2.out.cell hu (fun h => h))
          have HIU := Lib.hid (hiu.keeps0 HK2.out)
          have HX := Lib.hid hx
          have HGX := Lib.hid (HG.out x (List.mem_of_getElem? hx))
          have HTO := Lib.hid (part_all (x := x) hx HOPS.out)
          obtain ⟨au, cu, hfu, _⟩ := hiu.form
          subst hfu
          clear hx' hx hu hiu
          have hbr := (HB2.out.keeps0 KQ.out).lt
          obtain ⟨d0, d1, d2, d3⟩ := HB2.out.keeps0 KQ.out
          go_upto_region 11 with fail
          clear d0 d1 d2 d3 hbr
          go_loopw [7, 9] (fun v7 i9 wq => ∃ j : Nat, j ≤ t.ops.length ∧ i9 = .int .i64 (j : Int) ∧ OwnArcs w2.heap.size wq v7 (part (wordsOf t.ops) L p x j) ∧ Keeps (fun _ => False) w2 wq) (fun _ i9 _ => t.ops.length - (intOf i9).toNat)
          case atStart => exact ⟨0, Nat.zero_le _, rfl, by rw [part_zero]; exact HO2.out, KQ.out⟩
          case round =>
            obtain ⟨j, hj, rfl, hown, hkq⟩ := hrel
            obtain ⟨a7, c7, h7⟩ := ownsRow_formS hown
            subst h7
            have HO3 := Lib.hid hown; have KR := Lib.hid hkq
            have hbq := (HB2.out.keeps0 hkq).lt
            obtain ⟨q0, q1, q2, q3⟩ := HB2.out.keeps0 hkq
            have hcu := hkq.cell HU.out (fun h => h)
            clear hown hkq HO2 KQ
            by_cases hjl : j < t.ops.length
            · obtain ⟨o, ho⟩ : ∃ o, t.ops[j]? = some o := ⟨_, List.getElem?_eq_getElem hjl⟩
              have HOO := Lib.hid ho
              have hok := OK.out.ops o (List.mem_of_getElem? ho)
              obtain ⟨hap, haf, hgn⟩ := good_next (by omega : t.n ≤ 32) hok HGX.out
              have HAP := Lib.hid hap; have HAF := Lib.hid haf; have HGN := Lib.hid hgn
              have hwo : (wordsOf t.ops)[j]? = some o.word := by unfold wordsOf; rw [List.getElem?_map, ho]; rfl
              have HNT := Lib.hid (show part (wordsOf t.ops) L p x (j + 1) = if o.word.can x = true then part2 (wordsOf t.ops) L p x j o.cost (o.word.next x) L.length else part (wordsOf t.ops) L p x j from part_step hwo)
              have HTQ := Lib.hid (HT2.out.keeps0 KR.out)
              have HIQ := Lib.hid (show Ints wr (.slice au (facts x).length cu) (facts x) from HIU.out.keeps0 KR.out)
              obtain ⟨bo, oo, rfl, hoc⟩ := HOC.out (by omega)
              obtain ⟨va, vb, vc, c0, c1, c2, c3, _⟩ := hoc j o ho
              have HC3 := Lib.hid (HK2.out.cell c3 (fun h => h))
              clear ho hok hap haf hgn hwo hoc c0 c1 c2 c3
              go_upto_region 13 with fail
              go_still_tail 6, (by kernel_rfl)
              change wpList _ _ _ _ _ wr.drew
              have KD := (Keeps.refl (fun _ => False) wr).drew
              have HTD := Lib.hid (HTQ.out.keeps0 KD); have HID := Lib.hid (show Ints wr.drew (.slice au (facts x).length cu) (facts x) from HIQ.out.keeps0 KD)
              have HRD := Lib.hid (show OwnArcs _ _ _ _ from KD.ownsRow HO3.out (fun _ _ h => h)); have KDD := Lib.hid (KR.out.trans KD)
              clear KD hcu q0 q1 q2 q3 HTQ HIQ HO3 KR
              generalize wr.drew = w4 at HTD HID HRD KDD ⊢
              go_wp2_with fail
              refine (applies_any _ _ _ _ _ t (facts x) j o HTD.out HID.out HOO.out).mono ?_; rintro e w5 ⟨rfl, hk5⟩
              rw [HAP.out]
              have HR5 := Lib.hid (show OwnArcs _ _ _ _ from hk5.ownsRow HRD.out (fun _ _ h => h)); have HT5 := Lib.hid (HTD.out.keeps0 hk5); have HI5 := Lib.hid (show Ints w5 (.slice au (facts x).length cu) (facts x) from HID.out.keeps0 hk5); have K5 := Lib.hid (KDD.out.trans hk5)
              clear hk5 HRD HTD HID KDD
              cases hcan : o.word.can x with
              | false =>
                have HSQ := Lib.hid (show part (wordsOf t.ops) L p x (j + 1) = part (wordsOf t.ops) L p x j by rw [HNT.out, hcan]; simp)
                clear hcan
                go_wp2_with fail
                go_roundw
                case rel => exact ⟨j + 1, by omega, by go_num, by rw [HSQ.out]; exact HR5.out, K5.out⟩
                case measure => simp [intOf]; omega
              | true =>
                have HSQ := Lib.hid (show part (wordsOf t.ops) L p x (j + 1) = part2 (wordsOf t.ops) L p x j o.cost (o.word.next x) L.length by rw [HNT.out, hcan]; simp)
                clear hcan
                have hb5 := (HB2.out.keeps0 K5.out).lt
                obtain ⟨q0, q1, q2, q3⟩ := HB2.out.keeps0 K5.out
                have hcu5 := K5.out.cell HU.out (fun h => h)
                go_upto_region 14 with fail
                go_still_tail 6, (by kernel_rfl)
                change wpList _ _ _ _ _ w5.drew
                have KD := (Keeps.refl (fun _ => False) w5).drew
                have HTD := Lib.hid (HT5.out.keeps0 KD); have HID := Lib.hid (show Ints w5.drew (.slice au (facts x).length cu) (facts x) from HI5.out.keeps0 KD)
                have HRD := Lib.hid (show OwnArcs _ _ _ _ from KD.ownsRow HR5.out (fun _ _ h => h)); have KDD := Lib.hid (K5.out.trans KD)
                clear KD hcu5 q0 q1 q2 q3 HT5 HI5 HR5 K5 hb5
                generalize w5.drew = w6 at HTD HID HRD KDD ⊢
                go_wp2_with fail
                refine (after_any _ _ _ _ _ t (facts x) j o HTD.out HID.out HOO.out OK.out.n0 (by have := OK.out.n1; omega)).mono ?_; rintro e w7 ⟨vn, rfl, hown7, hk7⟩
                rw [HAF.out] at hown7
                have HI7 := Lib.hid (show Ints w7 vn (facts (o.word.next x)) from Sl.of_own hown7 |> fun h => by simpa [Ints] using h)
                obtain ⟨an, cn, hvn⟩ := ownsRow_form1 hown7
                subst hvn
                have HR7 := Lib.hid (show OwnArcs _ _ _ _ from hk7.ownsRow HRD.out (fun _ _ h => h)); have K7 := Lib.hid (KDD.out.trans hk7)
                clear hown7 hk7 HTD HID HRD KDD
                go_wp2_with fail
                refine (rword_any _ _ _ HI7.out (isSet_mono HGN.out.1 (by have := OK.out.n1; omega))).mono ?_; rintro e w8 ⟨rfl, rfl⟩
                rw [HGN.out.2]
                go_upto_region 16 with fail
                go_loopw [7, 11] (fun v7 i11 wq => ∃ k : Nat, k ≤ L.length ∧ i11 = .int .i64 (k : Int) ∧ OwnArcs w2.heap.size wq v7 (part2 (wordsOf t.ops) L p x j o.cost (o.word.next x) k) ∧ Keeps (fun _ => False) w2 wq) (fun _ i11 _ => L.length - (intOf i11).toNat)
                case atStart => exact ⟨0, Nat.zero_le _, rfl, by rw [part2_zero]; exact HR7.out, K7.out⟩
                case round =>
                  obtain ⟨k, hk, rfl, hown, hkq⟩ := hrel
                  obtain ⟨a7, c7, h7⟩ := ownsRow_formS hown
                  subst h7
                  have HO4 := Lib.hid hown; have K4 := Lib.hid hkq
                  clear hown hkq HR7 K7 HI7
                  by_cases hkl : k < L.length
                  · obtain ⟨y, hy⟩ : ∃ y, L[k]? = some y := ⟨_, List.getElem?_eq_getElem hkl⟩
                    obtain ⟨bw, ow, rfl, hcw⟩ := HCW.out (by rw [List.length_map]; omega)
                    have hwc := K4.out.cell (hcw k (y : Int) (by rw [List.getElem?_map, hy]; rfl)) (fun h => h)
                    have HH := Lib.hid (part2_step (ops := wordsOf t.ops) (L := L) (p := p) (x := x) (j := j) (c := o.cost) (y := o.word.next x) hy)
                    have hbd := HLE.out p j k (Nat.le_of_lt hlt) (Nat.le_of_lt hjl) (Nat.le_of_lt hkl) x o.cost (o.word.next x)
                    clear hcw hy
                    by_cases hyz : y = o.word.next x
                    · have hq : (((y : Nat) : Int) == ((o.word.next x : Nat) : Int)) = true := by rw [hyz]; simp
                      have HHT := Lib.hid (show part2 (wordsOf t.ops) L p x j o.cost (o.word.next x) (k + 1) = part2 (wordsOf t.ops) L p x j o.cost (o.word.next x) k ++ [⟨p, k, j, o.cost⟩] by rw [HH.out, if_pos hyz])
                      clear hyz
                      have hbq := (HB2.out.keeps0 K4.out).lt
                      obtain ⟨q0, q1, q2, q3⟩ := HB2.out.keeps0 K4.out
                      have hc3 := K4.out.cell HC3.out (fun h => h)
                      have hsz := K4.out.size
                      go_wp2_with (at_builtin; refine wpList_append_d rfl _ _ _ rfl w2.heap.size 95 j0 _ 4 32 Try.underlying38 hj0 jz0 jz1 jz2 rfl (by omega) _ (part2 (wordsOf t.ops) L p x j o.cost (o.word.next x) k).length (arcCells (part2 (wordsOf t.ops) L p x j o.cost (o.word.next x) k)) (by rfl) (World.ownsRow.alloc HO4.out (.cells #[.int .i64 (p : Int), .int .i64 (k : Int), .int .i64 (j : Int), .int .i64 o.cost] 95)) ⟨wr.heap.size, 0, none⟩ 1 1 [.int .i64 (p : Int), .int .i64 (k : Int), .int .i64 (j : Int), .int .i64 o.cost] (by rfl) (by rfl) ?hnews ?hone (by omega) (by unfold maxLen; omega) (by omega) (by simp; omega) (wr.heap.size + 1) (by simp) ?_)
                      case hnews => exact World.news_of_block (cs := #[.int .i64 (p : Int), .int .i64 (k : Int), .int .i64 (j : Int), .int .i64 o.cost]) (t := 95) (fr := (0, 0)) (heap_alloc_new _ _)
                      case hone => simp [Value.oneCell']
                      intro gg cap2 w9 hown hgrow hat hlt9 hd9
                      have HN := Lib.hid (show OwnArcs w2.heap.size w9 (.slice (some ⟨gg, 0, none⟩) ((part2 (wordsOf t.ops) L p x j o.cost (o.word.next x) k).length + 1) cap2) (part2 (wordsOf t.ops) L p x j o.cost (o.word.next x) (k + 1)) by
                        rw [HHT.out]
                        exact OwnArcs.snoc (a := ⟨p, k, j, o.cost⟩) rfl hown)
                      have HKN := Lib.hid (own_grown HO4.out K4.out ((Keeps.refl _ wr).alloc (.cells #[.int .i64 (p : Int), .int .i64 (k : Int), .int .i64 (j : Int), .int .i64 o.cost] 95)) hgrow)
                      clear hown hgrow hat hd9 hbd
                      go_wp2_with fail
                      go_roundw
                      case rel => exact ⟨k + 1, by omega, by go_num, HN.out, HKN.out⟩
                      case measure => simp [intOf]; omega
                    · have hq : (((y : Nat) : Int) == ((o.word.next x : Nat) : Int)) = false := by simp; omega
                      have HHT := Lib.hid (show part2 (wordsOf t.ops) L p x j o.cost (o.word.next x) (k + 1) = part2 (wordsOf t.ops) L p x j o.cost (o.word.next x) k by rw [HH.out, if_neg hyz, List.append_nil])
                      clear hyz hbd
                      go_wp2_with fail
                      go_roundw
                      case rel => exact ⟨k + 1, by omega, by go_num, by rw [HHT.out]; exact HO4.out, K4.out⟩
                      case measure => simp [intOf]; omega
                  · have hke : k = L.length := by omega
                    have HN := Lib.hid (show OwnArcs w2.heap.size wr (.slice a7 (part2 (wordsOf t.ops) L p x j o.cost (o.word.next x) k).length c7) (part (wordsOf t.ops) L p x (j + 1)) by rw [HSQ.out, ← hke]; exact HO4.out)
                    clear hke
                    go_wp2_with fail
                    go_roundw
                    case rel => exact ⟨j + 1, by omega, by go_num, HN.out, K4.out⟩
                    case measure => simp [intOf]; omega
            · have hje : j = t.ops.length := by omega
              have HN := Lib.hid (show OwnArcs w2.heap.size wr (.slice a7 (part (wordsOf t.ops) L p x j).length c7) (arcsTo (wordsOf t.ops) L (p + 1)) by rw [← HTO.out, ← hje]; exact HO3.out)
              clear hje
              go_wp2_with fail
              go_roundw
              case rel => exact ⟨p + 1, by omega, by go_num, HN.out, KR.out⟩
              case measure => simp [intOf]; omega
        · have HN := Lib.hid (show OwnArcs w2.heap.size wr (.slice a7 (arcsTo (wordsOf t.ops) L p).length c7) (arcs (wordsOf t.ops) L) by
            have hpe : p = L.length := by omega
            unfold arcs; rw [← hpe]; exact HO2.out)
          go_wp2_with fail
          go_ret
          exact ⟨_, rfl, ownsRow_mono HN.out HK2.out.size, HK2.out.trans KQ.out⟩

end Go.Proofs.Ytcfcmmajlkkabaa
