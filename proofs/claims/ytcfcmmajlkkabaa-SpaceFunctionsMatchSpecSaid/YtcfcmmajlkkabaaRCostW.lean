/- The reference's Costs, walked. -/
import Derived.Test.YtcfcmmajlkkabaaRCosts
namespace Go.Proofs.Ytcfcmmajlkkabaa
open Go.RowKit

theorem at_new {W : World} {v : Value} {gg n c : Nat} (hat : v.ownBlock = some gg ∨ gg = W.heap.size + 1) : ∀ k, (Value.slice (some ⟨gg, 0, none⟩) n c).ownBlock = some k → v.ownBlock = some k ∨ W.heap.size ≤ k := by
  intro k hk
  simp [Value.ownBlock] at hk
  subst hk
  rcases hat with h | h
  · exact .inl h
  · exact .inr (by omega)

def outL (t : Tsk) (L : List Nat) (i : Nat) : List Value := (costStart ((L.take i).map (goalW t))).map (Value.int .i64)
def wordL (L : List Nat) (i : Nat) : List Value := (L.take i).map fun x : Nat => Value.int .i64 (x : Int)
theorem len_outL (t : Tsk) {L : List Nat} {i : Nat} (h : i ≤ L.length) : (outL t L i).length = i := by unfold outL costStart; simp; omega
theorem len_wordL {L : List Nat} {i : Nat} (h : i ≤ L.length) : (wordL L i).length = i := by unfold wordL; simp; omega
theorem outL_succ (t : Tsk) {L : List Nat} {i x : Nat} (h : L[i]? = some x) : outL t L (i + 1) = outL t L i ++ [.int .i64 (if goalW t x = true then 0 else bigC)] := by
  unfold outL costStart; rw [take_getS h]; simp
theorem wordL_succ {L : List Nat} {i x : Nat} (h : L[i]? = some x) : wordL L (i + 1) = wordL L i ++ [.int .i64 (x : Int)] := by
  unfold wordL; rw [take_getS h]; simp
def frmL (A : List Arc) : List Value := A.map fun a => Value.int .i64 (a.frm : Int)
def toL (A : List Arc) : List Value := A.map fun a => Value.int .i64 (a.to : Int)
def costL (A : List Arc) : List Value := A.map fun a => Value.int .i64 a.cost
theorem len_frmL (A : List Arc) : (frmL A).length = A.length := by unfold frmL; simp
theorem len_toL (A : List Arc) : (toL A).length = A.length := by unfold toL; simp
theorem len_costL (A : List Arc) : (costL A).length = A.length := by unfold costL; simp

/-- The three rows of the arcs. -/
structure ARows (w2 : World) (A : List Arc) (v8 v9 v10 : Value) (wr : World) : Prop where
  rows : Rws w2.heap.size wr [(v8, frmL A), (v9, toL A), (v10, costL A)]
  keeps : Keeps (fun _ => False) w2 wr
theorem ARows.own {w2 : World} {A : List Arc} {v8 v9 v10 : Value} {wr : World} (h : ARows w2 A v8 v9 v10 wr) :
    wr.ownsRow w2.heap.size 3 1 v8 A.length (frmL A) ∧ wr.ownsRow w2.heap.size 3 1 v9 A.length (toL A) ∧ wr.ownsRow w2.heap.size 3 1 v10 A.length (costL A) := by
  have h1 := h.rows.own (v8, frmL A) (by simp)
  have h2 := h.rows.own (v9, toL A) (by simp)
  have h3 := h.rows.own (v10, costL A) (by simp)
  simp only [len_frmL, len_toL, len_costL] at h1 h2 h3
  exact ⟨h1, h2, h3⟩
theorem ARows.keeps0 {w2 : World} {A : List Arc} {v8 v9 v10 : Value} {wr wq : World} (h : ARows w2 A v8 v9 v10 wr) (hk : Keeps (fun _ => False) wr wq) : ARows w2 A v8 v9 v10 wq := ⟨h.rows.keeps0 hk, h.keeps.trans hk⟩

/-- A row of ints that is stored into. -/
structure ORow (w1 w3 : World) (g n cap : Nat) (d : List Int) (wq : World) : Prop where
  own : wq.ownsRow w1.heap.size 3 1 (.slice (some ⟨g, 0, none⟩) n cap) n (d.map (Value.int .i64))
  keeps : Keeps (fun b => b = g) w3 wq
theorem ORow.len {w1 w3 : World} {g n cap : Nat} {d : List Int} {wq : World} (h : ORow w1 w3 g n cap d wq) : d.length = n := by simpa using h.own.1
theorem ORow.set {w1 w3 : World} {g n cap : Nat} {d : List Int} {wq : World} (h : ORow w1 w3 g n cap d wq) (i : Nat) (z : Int) : ORow w1 w3 g n cap (d.set i z) (wq.setCell ⟨g, i, none⟩ (.int .i64 z)) := by
  refine ⟨?_, h.keeps.setCell (p := ⟨g, i, none⟩) (.inl rfl) _⟩
  have := (h.own.stored i (.int .i64 z)).1
  rw [List.map_set]
  exact this
theorem ORow.cell {w1 w3 : World} {g n cap : Nat} {d : List Int} {wq : World} (h : ORow w1 w3 g n cap d wq) {i : Nat} {x : Int} (hx : d[i]? = some x) : wq.cell? ⟨g, i, none⟩ = some (.int .i64 x) := by
  have hl := (List.getElem?_eq_some_iff.1 hx).1
  rw [h.own.cellAt i (by rw [← h.len]; omega), List.getElem?_map, hx]; rfl
theorem ORow.frozen {w1 w3 : World} {g n cap : Nat} {d : List Int} {wq : World} (h : ORow w1 w3 g n cap d wq) (i : Nat) : wq.frozen? ⟨g, i, none⟩ = false := h.own.frozenAt i
theorem ORow.lt {w1 w3 : World} {g n cap : Nat} {d : List Int} {wq : World} (h : ORow w1 w3 g n cap d wq) : g < wq.heap.size := (World.ownsRow.lt h.own g rfl).2
theorem ORow.keeps0 {w1 w3 : World} {g n cap : Nat} {d : List Int} {wq wp : World} (h : ORow w1 w3 g n cap d wq) (hk : Keeps (fun _ => False) wq wp) : ORow w1 w3 g n cap d wp := ⟨hk.ownsRow h.own (fun _ _ h => h), h.keeps.trans (hk.mono (fun _ _ h => h.elim))⟩

def CHead (w1 w3 : World) (g cap : Nat) (A : List Arc) (acc : List Bool) (k : Nat) (v : Value) (wr : World) : Prop :=
  ∃ (d : List Int) (again : Bool), v = .bool again ∧ CostInv A acc d ∧ ORow w1 w3 g acc.length cap d wr ∧ (again = false → ∀ a ∈ A, stableC d a) ∧ k = 2 * weightC d + (if again = true then 1 else 0)
def CMid (w1 w3 : World) (g cap : Nat) (A : List Arc) (acc : List Bool) (m : Nat) (i : Nat) (v : Value) (wr : World) : Prop :=
  ∃ (d : List Int) (again : Bool), v = .bool again ∧ CostInv A acc d ∧ ORow w1 w3 g acc.length cap d wr ∧ (again = false → ∀ a ∈ A.take i, stableC d a) ∧ weightC d ≤ m ∧ (again = true → weightC d < m)
def RCostPost (w : World) (A : List Arc) (acc : List Bool) (e : Ending) (w' : World) : Prop :=
  ∃ v d, e = .returned v ∧ CostOk A acc d ∧ w'.ownsRow w.heap.size 3 1 v acc.length (d.map (Value.int .i64)) ∧ Keeps (fun _ => False) w w'
theorem stableC_of {d : List Int} {a : Arc} {x y : Int} (hx : d[a.frm]? = some x) (hy : d[a.to]? = some y) (h : ¬ y < bigC ∨ x ≤ y + a.cost) : stableC d a := by
  intro z hz h0
  rw [hy] at hz; cases hz
  rcases h with h | h
  · exact absurd h0 h
  · exact ⟨x, hx, h⟩
theorem stableC_take {d : List Int} {A : List Arc} {i : Nat} {a : Arc} (ha : A[i]? = some a) (hs : stableC d a) (h : ∀ b ∈ A.take i, stableC d b) : ∀ b ∈ A.take (i + 1), stableC d b := by
  intro b hb
  rw [take_getS ha] at hb
  rcases List.mem_append.1 hb with hb | hb
  · exact h b hb
  · simp at hb; subst hb; exact hs
theorem acells {w2 w3 : World} {A : List Arc} {v : Value} {xs : List Value} (h : w3.ownsRow w2.heap.size 3 1 v A.length xs) : ∀ {ao cap}, v = .slice ao A.length cap → 0 < A.length → ∃ b, ao = some ⟨b, 0, none⟩ ∧ w2.heap.size ≤ b ∧ ∀ j x, xs[j]? = some x → w3.cell? ⟨b, j, none⟩ = some x := by
  intro ao cap hv hpos
  obtain ⟨g, cap', hv', h1, h2⟩ := h.form hpos
  rw [hv'] at hv
  simp only [Value.slice.injEq] at hv
  obtain ⟨rfl, _, rfl⟩ := hv
  refine ⟨g, rfl, (World.ownsRow.lt h g (by rw [hv']; rfl)).1, fun j x hx => ?_⟩
  have := World.ownsRow.cells h (g := g) (by rw [hv']; rfl) j x hx
  have hadd : (⟨g, 0, none⟩ : Addr).add j = ⟨g, j, none⟩ := by unfold Addr.add; split <;> simp_all
  rwa [hadd] at this

set_option maxRecDepth 100000 in
set_option maxHeartbeats 8000000 in
theorem rcosts_any (w : World) (vi vg vo vl : Value) (t : Tsk) (L : List Nat) (h : TaskAt w vi vg vo t) (ok : t.Ok) (hl : Lists w vl (L.map facts)) (hg : ∀ x ∈ L, Good t.n x) (hfew : L.length ≤ 2000) (hpos : 0 < L.length) :
    Calls Try.prog 48 #[.agg #[.int .i64 t.n, vi, vg, vo], vl] w (RCostPost w (arcs (wordsOf t.ops) L) (L.map (goalW t))) := by
  obtain ⟨i0, hi0, hz0, hz1, hz2⟩ := info_parts Try.info3
  obtain ⟨ai, ci, h1, _⟩ := h.init.form
  obtain ⟨ag, cg, h2, _⟩ := h.goal.form
  obtain ⟨ao, co, h3, hmo⟩ := h.ops.form
  obtain ⟨al, cl, h4, _⟩ := hl.form
  have hcl := hl.cell h4
  rw [List.length_map] at h4 hcl
  subst h1 h2 h3 h4
  have hn32 : t.n ≤ 32 := by have := ok.n1; omega
  have hoc := h.ops.cell rfl
  have HB := Lib.hid (Four.new w (.int .i64 t.n) (.slice ai t.init.length ci) (.slice ag t.goal.length cg) (.slice ao t.ops.length co) 25)
  have K1 := (Keeps.refl (fun _ => False) w).alloc (.cells #[.int .i64 t.n, .slice ai t.init.length ci, .slice ag t.goal.length cg, .slice ao t.ops.length co] 25)
  have HT := Lib.hid (h.keeps0 K1); have HCL := Lib.hid hcl; have HOC := Lib.hid hoc
  have HK := Lib.hid K1; have OK := Lib.hid ok; have HG := Lib.hid hg
  have hops : (wordsOf t.ops).length = t.ops.length := by unfold wordsOf; rw [List.length_map]
  have HOPS := Lib.hid hops
  have hfo := ok.few
  have HLE := Lib.hid (show ∀ i j k : Nat, i ≤ L.length → j ≤ t.ops.length → k ≤ L.length → ∀ (x : Nat) (c : Int) (y : Nat), (part2 (wordsOf t.ops) L i x j c y k).length ≤ 200000000 from fun i j k hi hj hk x c y => part2_le (wordsOf t.ops) L hfew (by rw [hops]; exact hfo) hi (by rw [hops]; exact hj) hk x c y)
  clear h hl hcl hoc K1 ok hg hops
  go_enter Try.func48, Try.ntmps48
  go_upto_region 1 with fail
  generalize (w.alloc (.cells #[.int .i64 t.n, .slice ai t.init.length ci, .slice ag t.goal.length cg, .slice ao t.ops.length co] 25)) = w1 at HB HT HK ⊢
  have hbx := HB.out.lt
  go_wp2_with fail
  go_loopw [5, 6, 7] (fun v5 v6 i7 wr => ∃ i : Nat, i ≤ L.length ∧ i7 = .int .i64 (i : Int) ∧ Rws w1.heap.size wr [(v5, outL t L i), (v6, wordL L i)] ∧ Keeps (fun _ => False) w1 wr) (fun _ _ i7 _ => L.length - (intOf i7).toNat)
  case atStart => exact ⟨0, Nat.zero_le _, rfl, ⟨fun r hr => by
    simp only [List.mem_cons, List.not_mem_nil, or_false] at hr
    rcases hr with rfl | rfl
    · exact World.ownsRow_nil _ _ _ _
    · exact World.ownsRow_nil _ _ _ _, by simp [Value.ownBlock]⟩, Keeps.refl _ _⟩
  case round =>
    obtain ⟨i, hi, rfl, hrw, hkw⟩ := hrel
    have hO5 : wr.ownsRow w1.heap.size 3 1 u5 i (outL t L i) := by have h := hrw.own _ (List.mem_cons_self); rw [len_outL t hi] at h; exact h
    have hO6 : wr.ownsRow w1.heap.size 3 1 u6 i (wordL L i) := by have h := hrw.own (u6, wordL L i) (by simp); rw [len_wordL hi] at h; exact h
    obtain ⟨a5, c5, h5⟩ := ownsRow_form1 hO5
    obtain ⟨a6, c6, h6⟩ := ownsRow_form1 hO6
    subst h5 h6
    have HR := Lib.hid hrw; have HO5 := Lib.hid hO5; have HO6 := Lib.hid hO6; have KW := Lib.hid hkw
    have hsw := hkw.size
    have hsz := HK.out.size
    clear hrw hO5 hO6 hkw
    by_cases hlt : i < L.length
    · obtain ⟨bl, ol, rfl, hx'⟩ := HCL.out (by omega)
      obtain ⟨x, hx⟩ : ∃ x, L[i]? = some x := ⟨_, List.getElem?_eq_getElem hlt⟩
      obtain ⟨u, hu, hiu⟩ := hx' i (facts x) (by rw [List.getElem?_map, hx]; rfl)
      have hu2 := (HK.out.trans KW.out).cell hu (fun h => h)
      have HU := Lib.hid hu
      have HIW := Lib.hid hiu
      have HIU := Lib.hid (hiu.keeps0 (HK.out.trans KW.out))
      have HGX := Lib.hid (HG.out x (List.mem_of_getElem? hx))
      have HTO := Lib.hid (outL_succ t hx); have HTW := Lib.hid (wordL_succ hx)
      obtain ⟨au, cu, hfu, _⟩ := hiu.form
      subst hfu
      clear hx' hx hu hiu
      go_wp2_with fail
      refine (rword_any _ _ _ HIU.out (isSet_mono HGX.out.1 (by omega))).mono ?_; rintro e w3 ⟨rfl, rfl⟩
      rw [HGX.out.2]
      go_wp2_with (at_builtin; refine wpList_append_d rfl _ _ _ rfl w1.heap.size 3 i0 _ 1 8 Try.underlying22 hi0 hz0 hz1 hz2 rfl (by omega) _ i (wordL L i) (by rfl) (World.ownsRow.alloc HO6.out (.cells #[.int .i64 (x : Int)] 3)) ⟨wr.heap.size, 0, none⟩ 1 1 [.int .i64 (x : Int)] (by rfl) (by rfl) (World.news_of_block (cs := #[.int .i64 (x : Int)]) (t := 3) (fr := (0, 0)) (heap_alloc_new _ _)) (by simp [Value.oneCell']) (by omega) (by unfold maxLen; omega) (by omega) (by simp; omega) (wr.heap.size + 1) (by simp) ?_)
      intro gg cap2 w4 hown hgrow hat hlt4 hd4
      have HR4 := Lib.hid (HR.out.push (i := 1) (v' := .slice (some ⟨gg, 0, none⟩) (i + 1) cap2) (xs' := wordL L (i + 1)) rfl ((Keeps.refl _ wr).alloc (.cells #[.int .i64 (x : Int)] 3)) hgrow (by rw [len_wordL (by omega), HTW.out]; exact hown) (at_new hat))
      have K4 := Lib.hid (own_grown HO6.out KW.out ((Keeps.refl _ wr).alloc (.cells #[.int .i64 (x : Int)] 3)) hgrow)
      clear hown hgrow hat hd4 hu2
      have KT := Lib.hid (HK.out.trans K4.out)
      have hu4 := KT.out.cell HU.out (fun h => h)
      have hbx4 := (HB.out.keeps0 K4.out).lt
      obtain ⟨d0, d1, d2, d3⟩ := HB.out.keeps0 K4.out
      go_upto_region 7 with fail
      go_still_tail 6, (by kernel_rfl)
      change wpList _ _ _ _ _ w4.drew
      have KD := (Keeps.refl (fun _ => False) w4).drew
      have HRD := Lib.hid (HR4.out.keeps0 KD); have K5 := Lib.hid (K4.out.trans KD)
      have HID := Lib.hid (HIW.out.keeps0 (KT.out.trans KD)); have HGD := Lib.hid (HT.out.goal.keeps0 (K4.out.trans KD))
      clear KD hu4 d0 d1 d2 d3 hbx4
      generalize w4.drew = w5 at HRD K5 HID HGD ⊢
      go_wp2_with fail
      refine (subset_goal _ _ _ t x HGD.out HID.out).mono ?_; rintro e w6 ⟨rfl, rfl⟩
      have hO5 : w5.ownsRow w1.heap.size 3 1 (.slice a5 i c5) i (outL t L i) := by have h := HRD.out.own (.slice a5 i c5, outL t L i) (by simp); rw [len_outL t hi] at h; exact h
      have HO5D := Lib.hid hO5
      have hs5 := K5.out.size
      clear hO5
      cases hgw : goalW t x with
      | true =>
        have HTG := Lib.hid (show outL t L (i + 1) = outL t L i ++ [.int .i64 0] by rw [HTO.out, hgw]; rfl)
        clear hgw
        go_wp2_with (at_builtin; refine wpList_append_d rfl _ _ _ rfl w1.heap.size 3 i0 _ 1 8 Try.underlying22 hi0 hz0 hz1 hz2 rfl (by omega) _ i (outL t L i) (by rfl) (World.ownsRow.alloc HO5D.out (.cells #[.int .i64 0] 3)) ⟨w5.heap.size, 0, none⟩ 1 1 [.int .i64 0] (by rfl) (by rfl) (World.news_of_block (cs := #[.int .i64 0]) (t := 3) (fr := (0, 0)) (heap_alloc_new _ _)) (by simp [Value.oneCell']) (by omega) (by unfold maxLen; omega) (by omega) (by simp; omega) (w5.heap.size + 1) (by simp) ?_)
        intro gh cap3 w7 hown hgrow hat hlt7 hd7
        have HR7 := Lib.hid (HRD.out.push (i := 0) (v' := .slice (some ⟨gh, 0, none⟩) (i + 1) cap3) (xs' := outL t L (i + 1)) rfl ((Keeps.refl _ w5).alloc (.cells #[.int .i64 0] 3)) hgrow (by rw [len_outL t (by omega), HTG.out]; exact hown) (at_new hat))
        have K7 := Lib.hid (own_grown HO5D.out K5.out ((Keeps.refl _ w5).alloc (.cells #[.int .i64 0] 3)) hgrow)
        clear hown hgrow hat hd7
        go_wp2_with fail
        go_roundw
        case rel => exact ⟨i + 1, by omega, by go_num, HR7.out, K7.out⟩
        case measure => simp [intOf]; omega
      | false =>
        have HTG := Lib.hid (show outL t L (i + 1) = outL t L i ++ [.int .i64 1000000000] by rw [HTO.out, hgw]; rfl)
        clear hgw
        go_wp2_with (at_builtin; refine wpList_append_d rfl _ _ _ rfl w1.heap.size 3 i0 _ 1 8 Try.underlying22 hi0 hz0 hz1 hz2 rfl (by omega) _ i (outL t L i) (by rfl) (World.ownsRow.alloc HO5D.out (.cells #[.int .i64 1000000000] 3)) ⟨w5.heap.size, 0, none⟩ 1 1 [.int .i64 1000000000] (by rfl) (by rfl) (World.news_of_block (cs := #[.int .i64 1000000000]) (t := 3) (fr := (0, 0)) (heap_alloc_new _ _)) (by simp [Value.oneCell']) (by omega) (by unfold maxLen; omega) (by omega) (by simp; omega) (w5.heap.size + 1) (by simp) ?_)
        intro gh cap3 w7 hown hgrow hat hlt7 hd7
        have HR7 := Lib.hid (HRD.out.push (i := 0) (v' := .slice (some ⟨gh, 0, none⟩) (i + 1) cap3) (xs' := outL t L (i + 1)) rfl ((Keeps.refl _ w5).alloc (.cells #[.int .i64 1000000000] 3)) hgrow (by rw [len_outL t (by omega), HTG.out]; exact hown) (at_new hat))
        have K7 := Lib.hid (own_grown HO5D.out K5.out ((Keeps.refl _ w5).alloc (.cells #[.int .i64 1000000000] 3)) hgrow)
        clear hown hgrow hat hd7
        go_wp2_with fail
        go_roundw
        case rel => exact ⟨i + 1, by omega, by go_num, HR7.out, K7.out⟩
        case measure => simp [intOf]; omega
    · have hie : i = L.length := by omega
      obtain ⟨w2, rfl⟩ : ∃ w2, w2 = wr := ⟨_, rfl⟩
      subst hie
      have HWD := Lib.hid (show Ints w2 (.slice a6 L.length c6) (L.map fun x : Nat => (x : Int)) by
        have h := Sl.of_own HO6.out
        unfold wordL at h
        rw [List.take_of_length_le (Nat.le_refl _)] at h
        unfold Ints
        rw [List.length_map, List.map_map]
        exact h)
      have HCW := Lib.hid (HWD.out.cell rfl)
      have HD0 := Lib.hid (show w2.ownsRow w1.heap.size 3 1 (.slice a5 L.length c5) L.length ((costStart (L.map (goalW t))).map (Value.int .i64)) by
        have h := HO5.out
        unfold outL at h
        rwa [List.take_of_length_le (Nat.le_refl _)] at h)
      have HK2 := Lib.hid (HK.out.trans KW.out)
      have HT2 := Lib.hid (HT.out.keeps0 KW.out)
      have HB2 := Lib.hid (HB.out.keeps0 KW.out)
      clear hlt hbx HR HO5 HO6 HWD
      go_wp2_with fail
      go_loopw [8, 9, 10, 11] (fun v8 v9 v10 i11 wq => ∃ p : Nat, p ≤ L.length ∧ i11 = .int .i64 (p : Int) ∧ ARows w2 (arcsTo (wordsOf t.ops) L p) v8 v9 v10 wq) (fun _ _ _ i11 _ => L.length - (intOf i11).toNat)
      case atStart => exact ⟨0, Nat.zero_le _, rfl, ⟨⟨fun r hr => by
        simp only [List.mem_cons, List.not_mem_nil, or_false] at hr
        rcases hr with rfl | rfl | rfl
        · exact World.ownsRow_nil _ _ _ _
        · exact World.ownsRow_nil _ _ _ _
        · exact World.ownsRow_nil _ _ _ _, by simp [Value.ownBlock]⟩, Keeps.refl _ _⟩⟩
      case round =>
        obtain ⟨p, hp, rfl, har⟩ := hrel
        obtain ⟨e8, e9, e10⟩ := har.own
        obtain ⟨a8, c8, h8⟩ := ownsRow_form1 e8
        obtain ⟨a9, c9, h9⟩ := ownsRow_form1 e9
        obtain ⟨a10, c10, h10⟩ := ownsRow_form1 e10
        subst h8 h9 h10
        have HA2 := Lib.hid har
        clear har e8 e9 e10
        by_cases hlt : p < L.length
        · obtain ⟨bl, ol, rfl, hx'⟩ := HCL.out (by omega)
          obtain ⟨x, hx⟩ : ∃ x, L[p]? = some x := ⟨_, List.getElem?_eq_getElem hlt⟩
          obtain ⟨u, hu, hiu⟩ := hx' p (facts x) (by rw [List.getElem?_map, hx]; rfl)
          have HU := Lib.hid (HK2.out.cell hu (fun h => h))
          have HIU := Lib.hid (hiu.keeps0 HK2.out)
          have HGX := Lib.hid (HG.out x (List.mem_of_getElem? hx))
          have HTO := Lib.hid (part_all (x := x) hx HOPS.out)
          obtain ⟨au, cu, hfu, _⟩ := hiu.form
          subst hfu
          clear hx' hx hu hiu
          have hbr := (HB2.out.keeps0 HA2.out.keeps).lt
          obtain ⟨d0, d1, d2, d3⟩ := HB2.out.keeps0 HA2.out.keeps
          go_upto_region 15 with fail
          clear d0 d1 d2 d3 hbr
          go_loopw [8, 9, 10, 12] (fun v8 v9 v10 i12 wq => ∃ j : Nat, j ≤ t.ops.length ∧ i12 = .int .i64 (j : Int) ∧ ARows w2 (part (wordsOf t.ops) L p x j) v8 v9 v10 wq) (fun _ _ _ i12 _ => t.ops.length - (intOf i12).toNat)
          case atStart => exact ⟨0, Nat.zero_le _, rfl, by rw [part_zero]; exact HA2.out⟩
          case round =>
            obtain ⟨j, hj, rfl, har⟩ := hrel
            obtain ⟨e8, e9, e10⟩ := har.own
            obtain ⟨a8, c8, h8⟩ := ownsRow_form1 e8
            obtain ⟨a9, c9, h9⟩ := ownsRow_form1 e9
            obtain ⟨a10, c10, h10⟩ := ownsRow_form1 e10
            subst h8 h9 h10
            have hkq := har.keeps
            have HA3 := Lib.hid har
            have hbq := (HB2.out.keeps0 hkq).lt
            obtain ⟨q0, q1, q2, q3⟩ := HB2.out.keeps0 hkq
            have hcu := hkq.cell HU.out (fun h => h)
            clear har e8 e9 e10 HA2
            by_cases hjl : j < t.ops.length
            · obtain ⟨o, ho⟩ : ∃ o, t.ops[j]? = some o := ⟨_, List.getElem?_eq_getElem hjl⟩
              have HOO := Lib.hid ho
              have hok := OK.out.ops o (List.mem_of_getElem? ho)
              obtain ⟨hap, haf, hgn⟩ := good_next (by omega : t.n ≤ 32) hok HGX.out
              have HAP := Lib.hid hap; have HAF := Lib.hid haf; have HGN := Lib.hid hgn
              have hwo : (wordsOf t.ops)[j]? = some o.word := by unfold wordsOf; rw [List.getElem?_map, ho]; rfl
              have HNT := Lib.hid (show part (wordsOf t.ops) L p x (j + 1) = if o.word.can x = true then part2 (wordsOf t.ops) L p x j o.cost (o.word.next x) L.length else part (wordsOf t.ops) L p x j from part_step hwo)
              have HTQ := Lib.hid (HT2.out.keeps0 hkq)
              have HIQ := Lib.hid (show Ints wr (.slice au (facts x).length cu) (facts x) from HIU.out.keeps0 hkq)
              obtain ⟨bo, oo, rfl, hoc⟩ := HOC.out (by omega)
              obtain ⟨va, vb, vc, c0, c1, c2, c3, _⟩ := hoc j o ho
              have HC3 := Lib.hid (HK2.out.cell c3 (fun h => h))
              clear ho hok hap haf hgn hwo hoc c0 c1 c2 c3 hkq
              go_upto_region 17 with fail
              go_still_tail 6, (by kernel_rfl)
              change wpList _ _ _ _ _ wr.drew
              have KD := (Keeps.refl (fun _ => False) wr).drew
              have HTD := Lib.hid (HTQ.out.keeps0 KD); have HID := Lib.hid (show Ints wr.drew (.slice au (facts x).length cu) (facts x) from HIQ.out.keeps0 KD)
              have HRD := Lib.hid (HA3.out.keeps0 KD)
              clear KD hcu q0 q1 q2 q3 HTQ HIQ HA3 hbq
              generalize wr.drew = w4 at HTD HID HRD ⊢
              go_wp2_with fail
              refine (applies_any _ _ _ _ _ t (facts x) j o HTD.out HID.out HOO.out).mono ?_; rintro e w5 ⟨rfl, hk5⟩
              rw [HAP.out]
              have HR5 := Lib.hid (HRD.out.keeps0 hk5); have HT5 := Lib.hid (HTD.out.keeps0 hk5); have HI5 := Lib.hid (show Ints w5 (.slice au (facts x).length cu) (facts x) from HID.out.keeps0 hk5)
              clear hk5 HRD HTD HID
              cases hcan : o.word.can x with
              | false =>
                have HSQ := Lib.hid (show part (wordsOf t.ops) L p x (j + 1) = part (wordsOf t.ops) L p x j by rw [HNT.out, hcan]; simp)
                clear hcan
                go_wp2_with fail
                go_roundw
                case rel => exact ⟨j + 1, by omega, by go_num, by rw [HSQ.out]; exact HR5.out⟩
                case measure => simp [intOf]; omega
              | true =>
                have HSQ := Lib.hid (show part (wordsOf t.ops) L p x (j + 1) = part2 (wordsOf t.ops) L p x j o.cost (o.word.next x) L.length by rw [HNT.out, hcan]; simp)
                clear hcan
                have hb5 := (HB2.out.keeps0 HR5.out.keeps).lt
                obtain ⟨q0, q1, q2, q3⟩ := HB2.out.keeps0 HR5.out.keeps
                have hcu5 := HR5.out.keeps.cell HU.out (fun h => h)
                go_upto_region 18 with fail
                go_still_tail 6, (by kernel_rfl)
                change wpList _ _ _ _ _ w5.drew
                have KD := (Keeps.refl (fun _ => False) w5).drew
                have HTD := Lib.hid (HT5.out.keeps0 KD); have HID := Lib.hid (show Ints w5.drew (.slice au (facts x).length cu) (facts x) from HI5.out.keeps0 KD)
                have HRD := Lib.hid (HR5.out.keeps0 KD)
                clear KD hcu5 q0 q1 q2 q3 HT5 HI5 HR5 hb5
                generalize w5.drew = w6 at HTD HID HRD ⊢
                go_wp2_with fail
                refine (after_any _ _ _ _ _ t (facts x) j o HTD.out HID.out HOO.out OK.out.n0 (by have := OK.out.n1; omega)).mono ?_; rintro e w7 ⟨vn, rfl, hown7, hk7⟩
                rw [HAF.out] at hown7
                have HI7 := Lib.hid (show Ints w7 vn (facts (o.word.next x)) from Sl.of_own hown7 |> fun h => by simpa [Ints] using h)
                obtain ⟨an, cn, hvn⟩ := ownsRow_form1 hown7
                subst hvn
                have HR7 := Lib.hid (HRD.out.keeps0 hk7)
                clear hown7 hk7 HTD HID HRD
                go_wp2_with fail
                refine (rword_any _ _ _ HI7.out (isSet_mono HGN.out.1 (by have := OK.out.n1; omega))).mono ?_; rintro e w8 ⟨rfl, rfl⟩
                rw [HGN.out.2]
                go_upto_region 20 with fail
                go_loopw [8, 9, 10, 14] (fun v8 v9 v10 i14 wq => ∃ k : Nat, k ≤ L.length ∧ i14 = .int .i64 (k : Int) ∧ ARows w2 (part2 (wordsOf t.ops) L p x j o.cost (o.word.next x) k) v8 v9 v10 wq) (fun _ _ _ i14 _ => L.length - (intOf i14).toNat)
                case atStart => exact ⟨0, Nat.zero_le _, rfl, by rw [part2_zero]; exact HR7.out⟩
                case round =>
                  obtain ⟨k, hk, rfl, har⟩ := hrel
                  generalize hQ : part2 (wordsOf t.ops) L p x j o.cost (o.word.next x) k = Q at har
                  have HQ := Lib.hid hQ
                  obtain ⟨e8, e9, e10⟩ := har.own
                  obtain ⟨a8, c8, h8⟩ := ownsRow_form1 e8
                  obtain ⟨a9, c9, h9⟩ := ownsRow_form1 e9
                  obtain ⟨a10, c10, h10⟩ := ownsRow_form1 e10
                  subst h8 h9 h10
                  have HA4 := Lib.hid har; have HO8 := Lib.hid e8
                  have hsz := har.keeps.size
                  clear har e8 e9 e10 HR7 HI7 hQ
                  by_cases hkl : k < L.length
                  · obtain ⟨y, hy⟩ : ∃ y, L[k]? = some y := ⟨_, List.getElem?_eq_getElem hkl⟩
                    obtain ⟨bw, ow, rfl, hcw⟩ := HCW.out (by rw [List.length_map]; omega)
                    have hwc := HA4.out.keeps.cell (hcw k (y : Int) (by rw [List.getElem?_map, hy]; rfl)) (fun h => h)
                    have HH := Lib.hid (part2_step (ops := wordsOf t.ops) (L := L) (p := p) (x := x) (j := j) (c := o.cost) (y := o.word.next x) hy)
                    have hbd := HLE.out p j k (Nat.le_of_lt hlt) (Nat.le_of_lt hjl) (Nat.le_of_lt hkl) x o.cost (o.word.next x)
                    rw [HQ.out] at hbd
                    clear hcw hy
                    by_cases hyz : y = o.word.next x
                    · have hq : (((y : Nat) : Int) == ((o.word.next x : Nat) : Int)) = true := by rw [hyz]; simp
                      have HHT := Lib.hid (show part2 (wordsOf t.ops) L p x j o.cost (o.word.next x) (k + 1) = Q ++ [⟨p, k, j, o.cost⟩] by rw [HH.out, if_pos hyz, HQ.out])
                      clear hyz
                      go_wp2_with (at_builtin; refine wpList_append_d rfl _ _ _ rfl w2.heap.size 3 i0 _ 1 8 Try.underlying22 hi0 hz0 hz1 hz2 rfl (by omega) _ Q.length (frmL Q) (by rfl) (World.ownsRow.alloc HO8.out (.cells #[.int .i64 (p : Int)] 3)) ⟨wr.heap.size, 0, none⟩ 1 1 [.int .i64 (p : Int)] (by rfl) (by rfl) (World.news_of_block (cs := #[.int .i64 (p : Int)]) (t := 3) (fr := (0, 0)) (heap_alloc_new _ _)) (by simp [Value.oneCell']) (by omega) (by unfold maxLen; omega) (by omega) (by simp; omega) (wr.heap.size + 1) (by simp) ?_)
                      intro g8 cap8 w8 hown hgrow hat hlt8 hd8
                      have HP8 := Lib.hid (HA4.out.rows.push (i := 0) (v' := .slice (some ⟨g8, 0, none⟩) (Q.length + 1) cap8) (xs' := frmL Q ++ [.int .i64 (p : Int)]) rfl ((Keeps.refl _ wr).alloc (.cells #[.int .i64 (p : Int)] 3)) hgrow (by rw [List.length_append, len_frmL]; exact hown) (at_new hat))
                      have K8 := Lib.hid (own_grown HO8.out HA4.out.keeps ((Keeps.refl _ wr).alloc (.cells #[.int .i64 (p : Int)] 3)) hgrow)
                      have hO9 : w8.ownsRow w2.heap.size 3 1 (.slice a9 Q.length c9) Q.length (toL Q) := by have h := HP8.out.own (.slice a9 Q.length c9, toL Q) (by simp); rw [len_toL] at h; exact h
                      have HO9 := Lib.hid hO9
                      have hs8 := K8.out.size
                      clear hown hgrow hat hd8 hO9
                      go_wp2_with (at_builtin; refine wpList_append_d rfl _ _ _ rfl w2.heap.size 3 i0 _ 1 8 Try.underlying22 hi0 hz0 hz1 hz2 rfl (by omega) _ Q.length (toL Q) (by rfl) (World.ownsRow.alloc HO9.out (.cells #[.int .i64 (k : Int)] 3)) ⟨w8.heap.size, 0, none⟩ 1 1 [.int .i64 (k : Int)] (by rfl) (by rfl) (World.news_of_block (cs := #[.int .i64 (k : Int)]) (t := 3) (fr := (0, 0)) (heap_alloc_new _ _)) (by simp [Value.oneCell']) (by omega) (by unfold maxLen; omega) (by omega) (by simp; omega) (w8.heap.size + 1) (by simp) ?_)
                      intro g9 cap9 w9 hown hgrow hat hlt9 hd9
                      have HP9 := Lib.hid (HP8.out.push (i := 1) (v' := .slice (some ⟨g9, 0, none⟩) (Q.length + 1) cap9) (xs' := toL Q ++ [.int .i64 (k : Int)]) rfl ((Keeps.refl _ w8).alloc (.cells #[.int .i64 (k : Int)] 3)) hgrow (by rw [List.length_append, len_toL]; exact hown) (at_new hat))
                      have K9 := Lib.hid (own_grown HO9.out K8.out ((Keeps.refl _ w8).alloc (.cells #[.int .i64 (k : Int)] 3)) hgrow)
                      have hO10 : w9.ownsRow w2.heap.size 3 1 (.slice a10 Q.length c10) Q.length (costL Q) := by have h := HP9.out.own (.slice a10 Q.length c10, costL Q) (by simp); rw [len_costL] at h; exact h
                      have HO10 := Lib.hid hO10
                      have hs9 := K9.out.size
                      clear hown hgrow hat hd9 hO10
                      have hbq := (HB2.out.keeps0 K9.out).lt
                      obtain ⟨q0, q1, q2, q3⟩ := HB2.out.keeps0 K9.out
                      have hc3 := K9.out.cell HC3.out (fun h => h)
                      go_wp2_with (at_builtin; refine wpList_append_d rfl _ _ _ rfl w2.heap.size 3 i0 _ 1 8 Try.underlying22 hi0 hz0 hz1 hz2 rfl (by omega) _ Q.length (costL Q) (by rfl) (World.ownsRow.alloc HO10.out (.cells #[.int .i64 o.cost] 3)) ⟨w9.heap.size, 0, none⟩ 1 1 [.int .i64 o.cost] (by rfl) (by rfl) (World.news_of_block (cs := #[.int .i64 o.cost]) (t := 3) (fr := (0, 0)) (heap_alloc_new _ _)) (by simp [Value.oneCell']) (by omega) (by unfold maxLen; omega) (by omega) (by simp; omega) (w9.heap.size + 1) (by simp) ?_)
                      intro g10 cap10 w10 hown hgrow hat hlt10 hd10
                      have HP10 := Lib.hid (HP9.out.push (i := 2) (v' := .slice (some ⟨g10, 0, none⟩) (Q.length + 1) cap10) (xs' := costL Q ++ [.int .i64 o.cost]) rfl ((Keeps.refl _ w9).alloc (.cells #[.int .i64 o.cost] 3)) hgrow (by rw [List.length_append, len_costL]; exact hown) (at_new hat))
                      have K10 := Lib.hid (own_grown HO10.out K9.out ((Keeps.refl _ w9).alloc (.cells #[.int .i64 o.cost] 3)) hgrow)
                      have HN := Lib.hid (show ARows w2 (part2 (wordsOf t.ops) L p x j o.cost (o.word.next x) (k + 1)) (.slice (some ⟨g8, 0, none⟩) (Q.length + 1) cap8) (.slice (some ⟨g9, 0, none⟩) (Q.length + 1) cap9) (.slice (some ⟨g10, 0, none⟩) (Q.length + 1) cap10) w10 by
                        rw [HHT.out]
                        refine ⟨?_, K10.out⟩
                        have h := HP10.out
                        simpa [frmL, toL, costL] using h)
                      clear hown hgrow hat hd10 hbd q0 q1 q2 q3 hc3 hbq
                      go_wp2_with fail
                      go_roundw
                      case rel => exact ⟨k + 1, by omega, by go_num, HN.out⟩
                      case measure => simp [intOf]; omega
                    · have hq : (((y : Nat) : Int) == ((o.word.next x : Nat) : Int)) = false := by simp; omega
                      have HHT := Lib.hid (show part2 (wordsOf t.ops) L p x j o.cost (o.word.next x) (k + 1) = Q by rw [HH.out, if_neg hyz, List.append_nil, HQ.out])
                      clear hyz hbd
                      go_wp2_with fail
                      go_roundw
                      case rel => exact ⟨k + 1, by omega, by go_num, by rw [HHT.out]; exact HA4.out⟩
                      case measure => simp [intOf]; omega
                  · have hke : k = L.length := by omega
                    have HN := Lib.hid (show ARows w2 (part (wordsOf t.ops) L p x (j + 1)) (.slice a8 Q.length c8) (.slice a9 Q.length c9) (.slice a10 Q.length c10) wr by
                      have h := HQ.out
                      rw [hke, ← HSQ.out] at h
                      rw [h]; exact HA4.out)
                    clear hke
                    go_wp2_with fail
                    go_roundw
                    case rel => exact ⟨j + 1, by omega, by go_num, HN.out⟩
                    case measure => simp [intOf]; omega
            · have hje : j = t.ops.length := by omega
              have HN := Lib.hid (show ARows w2 (arcsTo (wordsOf t.ops) L (p + 1)) (.slice a8 (part (wordsOf t.ops) L p x j).length c8) (.slice a9 (part (wordsOf t.ops) L p x j).length c9) (.slice a10 (part (wordsOf t.ops) L p x j).length c10) wr by rw [← HTO.out, ← hje]; exact HA3.out)
              clear hje
              go_wp2_with fail
              go_roundw
              case rel => exact ⟨p + 1, by omega, by go_num, HN.out⟩
              case measure => simp [intOf]; omega
        · obtain ⟨w3, rfl⟩ : ∃ w3, w3 = wr := ⟨_, rfl⟩
          have hpe : p = L.length := by omega
          subst hpe
          have hAA : arcsTo (wordsOf t.ops) L L.length = arcs (wordsOf t.ops) L := rfl
          rw [hAA] at HA2 ⊢
          have HLT := Lib.hid (show ∀ a ∈ arcs (wordsOf t.ops) L, a.frm < L.length ∧ a.to < L.length ∧ 0 ≤ a.cost ∧ a.cost ≤ 100 from fun a ha => by
            obtain ⟨h1, h2, _⟩ := arcs_lt ha
            obtain ⟨x, o, _, ho, _, hc, _⟩ := mem_arcs.1 ha
            unfold wordsOf at ho
            rw [List.getElem?_map] at ho
            cases hp : t.ops[a.op]? with
            | none => rw [hp] at ho; cases ho
            | some op =>
              rw [hp] at ho; cases ho
              have hok := OK.out.ops op (List.mem_of_getElem? hp)
              rw [hc]
              exact ⟨h1, h2, hok.cost0, hok.cost1⟩)
          have hAl : (arcs (wordsOf t.ops) L).length ≤ 160000000 := arcs_len hfew (by rw [HOPS.out]; exact hfo)
          generalize hAE : arcs (wordsOf t.ops) L = A at HA2 HLT hAl ⊢
          have HAE := Lib.hid hAE
          clear hAE
          obtain ⟨gd, capd, hvd, hg1, hg2⟩ := HD0.out.form hpos
          simp only [Value.slice.injEq] at hvd
          obtain ⟨rfl, _, rfl⟩ := hvd
          have hgd2 := (World.ownsRow.lt HD0.out gd rfl)
          have hgdlt : gd < w2.heap.size := hgd2.2
          have hgdge : w1.heap.size ≤ gd := hgd2.1
          have hnl : (L.map (goalW t)).length = L.length := List.length_map _
          have HD3 := Lib.hid (show ORow w1 w3 gd (L.map (goalW t)).length c5 (costStart (L.map (goalW t))) w3 from ⟨by rw [hnl]; exact HA2.out.keeps.ownsRow HD0.out (fun _ _ h => h), Keeps.refl _ _⟩)
          have HCI := Lib.hid (CostInv.start A (L.map (goalW t)))
          obtain ⟨e8, e9, e10⟩ := HA2.out.own
          have H8 := Lib.hid (acells e8 rfl); have H9 := Lib.hid (acells e9 rfl); have H10 := Lib.hid (acells e10 rfl)
          have KW3 := Lib.hid (HK2.out.trans HA2.out.keeps)
          have hs3 := HA2.out.keeps.size
          have hmaxn : L.length ≤ 2000 := hfew
          rw [← hnl] at hmaxn
          have HNL := Lib.hid hnl
          clear e8 e9 e10 hgd2 hg1 hg2 hlt HLE hAA hnl
          have hslot : (Value.slice (some ⟨gd, 0, none⟩) L.length c5) = .slice (some ⟨gd, 0, none⟩) (L.map (goalW t)).length c5 := by rw [HNL.out]
          rw [hslot]
          clear hslot
          generalize hacc : L.map (goalW t) = acc at HD3 HCI hmaxn HNL ⊢
          have HACC := Lib.hid hacc
          clear hacc
          go_wp2_with fail
          go_loopg [15] (2 * weightC (costStart acc) + 1) (fun k v15 wq => CHead w1 w3 gd c5 A acc k v15 wq)
          case atStart => exact ⟨costStart acc, true, rfl, HCI.out, HD3.out, (fun h => by cases h), by rw [if_pos rfl]⟩
          case round =>
            obtain ⟨d, again, rfl, hinv, hdr, hst, hgk⟩ := hrel
            have INV := Lib.hid hinv; have DR := Lib.hid hdr; have ST := Lib.hid hst; have HGK := Lib.hid hgk
            clear hinv hdr hst hgk
            cases again with
            | false =>
              have hsw1 := HK.out.size
              go_wp2_with fail
              go_ret
              exact ⟨_, d, rfl, by rw [HAE.out, HACC.out]; exact ⟨INV.out, ST.out (by first | rfl | trivial)⟩, by rw [HACC.out]; exact ownsRow_mono DR.out.own hsw1, KW3.out.trans' DR.out.keeps (fun b hb => .inr (by omega))⟩
            | true =>
              go_wp2_with fail
              go_loopw [15, 16] (fun v15 v16 wq => ∃ j : Nat, j ≤ A.length ∧ v16 = .int .i64 (j : Int) ∧ CMid w1 w3 gd c5 A acc (weightC d) j v15 wq) (fun _ v16 _ => A.length - (intOf v16).toNat)
              case atStart => exact ⟨0, Nat.zero_le _, rfl, d, false, rfl, INV.out, DR.out, (fun _ a ha => by simp at ha), Nat.le_refl _, (fun h => by cases h)⟩
              case round =>
                obtain ⟨j, hj, rfl, d2, ag2, rfl, hinv2, hdr2, hst2, hle2, hlt2⟩ := hrel
                have INV2 := Lib.hid hinv2; have DR2 := Lib.hid hdr2; have ST2 := Lib.hid hst2; have LE2 := Lib.hid hle2; have LT2 := Lib.hid hlt2
                have hl2 := hdr2.lt
                clear hinv2 hdr2 hst2 hle2 hlt2
                by_cases hjl : j < A.length
                · obtain ⟨b8, rfl, hb8, hc8⟩ := H8.out (by omega)
                  obtain ⟨b9, rfl, hb9, hc9⟩ := H9.out (by omega)
                  obtain ⟨b10, rfl, hb10, hc10⟩ := H10.out (by omega)
                  obtain ⟨a, ha⟩ : ∃ a, A[j]? = some a := ⟨_, List.getElem?_eq_getElem hjl⟩
                  have HA := Lib.hid ha
                  have G8 := Lib.hid (hc8 j (.int .i64 (a.frm : Int)) (by unfold frmL; rw [List.getElem?_map, ha]; rfl))
                  have G9 := Lib.hid (hc9 j (.int .i64 (a.to : Int)) (by unfold toL; rw [List.getElem?_map, ha]; rfl))
                  have G10 := Lib.hid (hc10 j (.int .i64 a.cost) (by unfold costL; rw [List.getElem?_map, ha]; rfl))
                  have r8 := DR2.out.keeps.cell G8.out (by show ¬ b8 = gd; omega)
                  have r9 := DR2.out.keeps.cell G9.out (by show ¬ b9 = gd; omega)
                  have r10 := DR2.out.keeps.cell G10.out (by show ¬ b10 = gd; omega)
                  obtain ⟨hf, ht, hc0, hc1⟩ := HLT.out a (List.mem_of_getElem? ha)
                  rw [← HNL.out] at hf ht
                  have hdl := DR2.out.len
                  obtain ⟨x, hx⟩ : ∃ x, d2[a.frm]? = some x := ⟨_, List.getElem?_eq_getElem (by omega)⟩
                  obtain ⟨y, hy⟩ : ∃ y, d2[a.to]? = some y := ⟨_, List.getElem?_eq_getElem (by omega)⟩
                  have hyl := INV2.out.lo y (List.mem_of_getElem? hy)
                  unfold bigC at hyl
                  obtain ⟨hyl0, hyl1⟩ := hyl
                  have HX := Lib.hid hx; have HY := Lib.hid hy
                  have cx := DR2.out.cell hx
                  have cy := DR2.out.cell hy
                  have f0 : (0 : Int) ≤ (a.frm : Int) := by omega
                  have f1 : (a.frm : Int) < (acc.length : Int) := by omega
                  have t0 : (0 : Int) ≤ (a.to : Int) := by omega
                  have t1 : (a.to : Int) < (acc.length : Int) := by omega
                  have j0 : (0 : Int) ≤ (j : Int) := by omega
                  have j1 : (j : Int) < (A.length : Int) := by omega
                  clear hc8 hc9 hc10 ha hdl hx hy
                  by_cases hyb : y < 1000000000
                  · have ey0 : decide (y < 1000000000) = true := by simpa using hyb
                    have hs : IntKind.i64.wrap (y + a.cost) = y + a.cost := IntWalk.i64_in _ (by omega)
                    by_cases hup : y + a.cost < x
                    · have ex1 : decide (y + a.cost < x) = true := by simpa using hup
                      have HN := Lib.hid (INV2.out.step (List.mem_of_getElem? HA.out) hc0 HX.out HY.out (by unfold bigC; exact hyb) hup)
                      have FIN := Lib.hid (show ∀ w6, Keeps (fun _ => False) wr w6 → CMid w1 w3 gd c5 A acc (weightC d) (j + 1) (.bool true) (w6.setCell ⟨gd, a.frm, none⟩ (.int .i64 (y + a.cost))) from fun w6 hk6 => by
                        obtain ⟨n1, n2⟩ := HN.out
                        have h1 := LE2.out
                        exact ⟨d2.set a.frm (y + a.cost), true, rfl, n1, (DR2.out.keeps0 hk6).set a.frm (y + a.cost), (fun h => by cases h), by omega, (fun _ => by omega)⟩)
                      clear hup
                      go_wp2_with fail
                      go_quiet (fail)
                      have kx := (Keeps.refl (fun _ => False) wr).drewN nq
                      have KX := Lib.hid kx
                      have r8' := kx.cell r8 (fun h => h)
                      have r9' := kx.cell r9 (fun h => h)
                      have r10' := kx.cell r10 (fun h => h)
                      have cy' := kx.cell cy (fun h => h)
                      have hlx := Nat.lt_of_lt_of_le hl2 kx.size
                      clear r8 r9 r10 cx cy kx
                      generalize wr.drewN nq = wx at KX r8' r9' r10' cy' hlx ⊢
                      go_step
                      go_upto_region 33 with fail
                      go_still_tail 18, (by kernel_rfl)
                      change wpList _ _ _ _ _ wx.drew
                      have KD := Lib.hid (KX.out.drew)
                      clear r8' r9' r10' cy' hlx
                      generalize wx.drew = w6 at KD ⊢
                      have cx := KD.out.cell (DR2.out.cell HX.out) (fun h => h)
                      have ff := (DR2.out.keeps0 KD.out).frozen a.frm
                      have hl6 := (DR2.out.keeps0 KD.out).lt
                      have FW := Lib.hid (FIN.out w6 KD.out)
                      clear ey0 ex1 hs
                      go_wp2_with fail
                      go_roundw
                      case rel => exact ⟨j + 1, by omega, by go_num, FW.out⟩
                      case measure => simp [intOf]; omega
                    · have ex1 : decide (y + a.cost < x) = false := by simpa using hup
                      have HST := Lib.hid (show stableC d2 a from stableC_of HX.out HY.out (.inr (by omega)))
                      clear hup
                      go_wp2_with fail
                      go_quiet (fail)
                      have KD := Lib.hid ((Keeps.refl (fun _ => False) wr).drewN nq)
                      clear r8 r9 r10 cx cy
                      generalize wr.drewN nq = w6 at KD ⊢
                      go_step
                      go_wp2_with fail
                      go_roundw
                      case rel => exact ⟨j + 1, by omega, by go_num, d2, ag2, rfl, INV2.out, DR2.out.keeps0 KD.out, (fun h => stableC_take HA.out HST.out (ST2.out h)), LE2.out, LT2.out⟩
                      case measure => simp [intOf]; omega
                  · have ey0 : decide (y < 1000000000) = false := by simpa using hyb
                    have HST := Lib.hid (show stableC d2 a from stableC_of HX.out HY.out (.inl (by unfold bigC; exact hyb)))
                    go_wp2_with fail
                    go_quiet (fail)
                    have KD := Lib.hid ((Keeps.refl (fun _ => False) wr).drewN nq)
                    clear r8 r9 r10 cx cy
                    generalize wr.drewN nq = w6 at KD ⊢
                    go_step
                    go_wp2_with fail
                    go_roundw
                    case rel => exact ⟨j + 1, by omega, by go_num, d2, ag2, rfl, INV2.out, DR2.out.keeps0 KD.out, (fun h => stableC_take HA.out HST.out (ST2.out h)), LE2.out, LT2.out⟩
                    case measure => simp [intOf]; omega
                · have HTK : Hid (A.take j = A) := by unfold Hid; exact List.take_of_length_le (by omega)
                  have HGD := Lib.hid (show CHead w1 w3 gd c5 A acc (2 * weightC d2 + (if ag2 = true then 1 else 0)) (.bool ag2) wr from ⟨d2, ag2, rfl, INV2.out, DR2.out, (fun h => by have := ST2.out h; rwa [HTK.out] at this), rfl⟩)
                  go_wp2_with fail
                  go_roundg (2 * weightC d2 + (if ag2 = true then 1 else 0))
                  case rel => exact HGD.out
                  case measure =>
                    have h1 := HGK.out
                    have h2 := LE2.out
                    have h3 := LT2.out
                    cases ag2
                    · rw [if_neg (by simp)]; simp at h1; omega
                    · rw [if_pos rfl]; have := h3 rfl; simp at h1; omega

end Go.Proofs.Ytcfcmmajlkkabaa
