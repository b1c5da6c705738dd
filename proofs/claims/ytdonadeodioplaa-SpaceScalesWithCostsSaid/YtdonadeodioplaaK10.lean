/- The reference's Costs, walked. space.Distances, space.Optimal. space: the distances are consistent, in plain words. strips: sets, states and plans in plain words. Plans and the table of costs, in plain words. No condition beyond what each theorem says. -/
import Derived.Test.YtdonadeodioplaaK5
import Derived.Test.YtdonadeodioplaaK8
import Derived.Test.YtdonadeodioplaaK9
import Derived.Lib.SlicesCompact

namespace Go.Proofs.Ytdonadeodioplaa
open Go.RowKit

theorem at_new {W : World} {v : Value} {gg n c : Nat} (hat : v.ownBlock = some gg ∨ gg = W.heap.size + 1) : ∀ k, (Value.slice (some ⟨gg, 0, none⟩) n c).ownBlock = some k → v.ownBlock = some k ∨ W.heap.size ≤ k := by
  intro k hk
  simp [Value.ownBlock] at hk
  subst hk
  rcases hat with h | h
  · exact .inl h
  · exact .inr (by omega)

def outL (t : Tsk) (L : List Nat) (i : Nat) : List Value := (costStart ((L.take i).map (goalW t))).map (Value.int .i64)
def wordL (L : List Nat) (i : Nat) : List Value := (L.take i).map fun x : Nat => Value.int .i64 (x : Int)
theorem len_outL (t : Tsk) {L : List Nat} {i : Nat} (h : i ≤ L.length) : (outL t L i).length = i := by unfold outL costStart; simp; omega
theorem len_wordL {L : List Nat} {i : Nat} (h : i ≤ L.length) : (wordL L i).length = i := by unfold wordL; simp; omega
theorem outL_succ (t : Tsk) {L : List Nat} {i x : Nat} (h : L[i]? = some x) : outL t L (i + 1) = outL t L i ++ [.int .i64 (if goalW t x = true then 0 else bigC)] := by
  unfold outL costStart; rw [take_getS h]; simp
theorem wordL_succ {L : List Nat} {i x : Nat} (h : L[i]? = some x) : wordL L (i + 1) = wordL L i ++ [.int .i64 (x : Int)] := by
  unfold wordL; rw [take_getS h]; simp
def frmL (A : List Arc) : List Value := A.map fun a => Value.int .i64 (a.frm : Int)
def toL (A : List Arc) : List Value := A.map fun a => Value.int .i64 (a.to : Int)
def costsA (A : List Arc) : List Value := A.map fun a => Value.int .i64 a.cost
theorem len_frmL (A : List Arc) : (frmL A).length = A.length := by unfold frmL; simp
theorem len_toL (A : List Arc) : (toL A).length = A.length := by unfold toL; simp
theorem len_costsA (A : List Arc) : (costsA A).length = A.length := by unfold costsA; simp

/-- The three rows of the arcs. -/
structure ARows (w2 : World) (A : List Arc) (v8 v9 v10 : Value) (wr : World) : Prop where
  rows : Rws w2.heap.size wr [(v8, frmL A), (v9, toL A), (v10, costsA A)]
  keeps : Keeps (fun _ => False) w2 wr
theorem ARows.own {w2 : World} {A : List Arc} {v8 v9 v10 : Value} {wr : World} (h : ARows w2 A v8 v9 v10 wr) :
    wr.ownsRow w2.heap.size 3 1 v8 A.length (frmL A) ∧ wr.ownsRow w2.heap.size 3 1 v9 A.length (toL A) ∧ wr.ownsRow w2.heap.size 3 1 v10 A.length (costsA A) := by
  have h1 := h.rows.own (v8, frmL A) (by simp)
  have h2 := h.rows.own (v9, toL A) (by simp)
  have h3 := h.rows.own (v10, costsA A) (by simp)
  simp only [len_frmL, len_toL, len_costsA] at h1 h2 h3
  exact ⟨h1, h2, h3⟩
theorem ARows.keeps0 {w2 : World} {A : List Arc} {v8 v9 v10 : Value} {wr wq : World} (h : ARows w2 A v8 v9 v10 wr) (hk : Keeps (fun _ => False) wr wq) : ARows w2 A v8 v9 v10 wq := ⟨h.rows.keeps0 hk, h.keeps.trans hk⟩

/-- A row of ints that is stored into. -/
structure ORow (w1 w3 : World) (g n cap : Nat) (d : List Int) (wq : World) : Prop where
  own : wq.ownsRow w1.heap.size 3 1 (.slice (some ⟨g, 0, none⟩) n cap) n (d.map (Value.int .i64))
  keeps : Keeps (fun b => b = g) w3 wq
theorem ORow.len {w1 w3 : World} {g n cap : Nat} {d : List Int} {wq : World} (h : ORow w1 w3 g n cap d wq) : d.length = n := by simpa using h.own.1
theorem ORow.set {w1 w3 : World} {g n cap : Nat} {d : List Int} {wq : World} (h : ORow w1 w3 g n cap d wq) (i : Nat) (z : Int) : ORow w1 w3 g n cap (d.set i z) (wq.setCell ⟨g, i, none⟩ (.int .i64 z)) := by
  refine ⟨?_, h.keeps.setCell (p := ⟨g, i, none⟩) (.inl rfl) _⟩
  have := (h.own.stored i (.int .i64 z)).1
  rw [List.map_set]
  exact this
theorem ORow.cell {w1 w3 : World} {g n cap : Nat} {d : List Int} {wq : World} (h : ORow w1 w3 g n cap d wq) {i : Nat} {x : Int} (hx : d[i]? = some x) : wq.cell? ⟨g, i, none⟩ = some (.int .i64 x) := by
  have hl := (List.getElem?_eq_some_iff.1 hx).1
  rw [h.own.cellAt i (by rw [← h.len]; omega), List.getElem?_map, hx]; rfl
theorem ORow.frozen {w1 w3 : World} {g n cap : Nat} {d : List Int} {wq : World} (h : ORow w1 w3 g n cap d wq) (i : Nat) : wq.frozen? ⟨g, i, none⟩ = false := h.own.frozenAt i
theorem ORow.lt {w1 w3 : World} {g n cap : Nat} {d : List Int} {wq : World} (h : ORow w1 w3 g n cap d wq) : g < wq.heap.size := (World.ownsRow.lt h.own g rfl).2
theorem ORow.keeps0 {w1 w3 : World} {g n cap : Nat} {d : List Int} {wq wp : World} (h : ORow w1 w3 g n cap d wq) (hk : Keeps (fun _ => False) wq wp) : ORow w1 w3 g n cap d wp := ⟨hk.ownsRow h.own (fun _ _ h => h), h.keeps.trans (hk.mono (fun _ _ h => h.elim))⟩

def CHead (w1 w3 : World) (g cap : Nat) (A : List Arc) (acc : List Bool) (k : Nat) (v : Value) (wr : World) : Prop :=
  ∃ (d : List Int) (again : Bool), v = .bool again ∧ CostInv A acc d ∧ ORow w1 w3 g acc.length cap d wr ∧ (again = false → ∀ a ∈ A, stableC d a) ∧ k = 2 * weightC d + (if again = true then 1 else 0)
def CMid (w1 w3 : World) (g cap : Nat) (A : List Arc) (acc : List Bool) (m : Nat) (i : Nat) (v : Value) (wr : World) : Prop :=
  ∃ (d : List Int) (again : Bool), v = .bool again ∧ CostInv A acc d ∧ ORow w1 w3 g acc.length cap d wr ∧ (again = false → ∀ a ∈ A.take i, stableC d a) ∧ weightC d ≤ m ∧ (again = true → weightC d < m)
def RCostPost (w : World) (A : List Arc) (acc : List Bool) (e : Ending) (w' : World) : Prop :=
  ∃ v d, e = .returned v ∧ CostOk A acc d ∧ w'.ownsRow w.heap.size 3 1 v acc.length (d.map (Value.int .i64)) ∧ Keeps (fun _ => False) w w'
theorem stableC_of {d : List Int} {a : Arc} {x y : Int} (hx : d[a.frm]? = some x) (hy : d[a.to]? = some y) (h : ¬ y < bigC ∨ x ≤ y + a.cost) : stableC d a := by
  intro z hz h0
  rw [hy] at hz; cases hz
  rcases h with h | h
  · exact absurd h0 h
  · exact ⟨x, hx, h⟩
theorem stableC_take {d : List Int} {A : List Arc} {i : Nat} {a : Arc} (ha : A[i]? = some a) (hs : stableC d a) (h : ∀ b ∈ A.take i, stableC d b) : ∀ b ∈ A.take (i + 1), stableC d b := by
  intro b hb
  rw [take_getS ha] at hb
  rcases List.mem_append.1 hb with hb | hb
  · exact h b hb
  · simp at hb; subst hb; exact hs
theorem acells {w2 w3 : World} {A : List Arc} {v : Value} {xs : List Value} (h : w3.ownsRow w2.heap.size 3 1 v A.length xs) : ∀ {ao cap}, v = .slice ao A.length cap → 0 < A.length → ∃ b, ao = some ⟨b, 0, none⟩ ∧ w2.heap.size ≤ b ∧ ∀ j x, xs[j]? = some x → w3.cell? ⟨b, j, none⟩ = some x := by
  intro ao cap hv hpos
  obtain ⟨g, cap', hv', h1, h2⟩ := h.form hpos
  rw [hv'] at hv
  simp only [Value.slice.injEq] at hv
  obtain ⟨rfl, _, rfl⟩ := hv
  refine ⟨g, rfl, (World.ownsRow.lt h g (by rw [hv']; rfl)).1, fun j x hx => ?_⟩
  have := World.ownsRow.cells h (g := g) (by rw [hv']; rfl) j x hx
  have hadd : (⟨g, 0, none⟩ : Addr).add j = ⟨g, j, none⟩ := by unfold Addr.add; split <;> simp_all
  rwa [hadd] at this

set_option maxRecDepth 100000 in
set_option maxHeartbeats 8000000 in
theorem rcosts_any (w : World) (vi vg vo vl : Value) (t : Tsk) (L : List Nat) (h : TaskAt w vi vg vo t) (ok : t.Ok) (hl : Lists w vl (L.map facts)) (hg : ∀ x ∈ L, Good t.n x) (hfew : L.length ≤ 2000) (hpos : 0 < L.length) :
    Calls Try.prog 31 #[.agg #[.int .i64 t.n, vi, vg, vo], vl] w (RCostPost w (arcs (wordsOf t.ops) L) (L.map (goalW t))) := by
  obtain ⟨i0, hi0, hz0, hz1, hz2⟩ := info_parts Try.info3
  obtain ⟨ai, ci, h1, _⟩ := h.init.form
  obtain ⟨ag, cg, h2, _⟩ := h.goal.form
  obtain ⟨ao, co, h3, hmo⟩ := h.ops.form
  obtain ⟨al, cl, h4, _⟩ := hl.form
  have hcl := hl.cell h4
  rw [List.length_map] at h4 hcl
  subst h1 h2 h3 h4
  have hn32 : t.n ≤ 32 := by have := ok.n1; omega
  have hoc := h.ops.cell rfl
  have HB := Lib.hid (Four.new w (.int .i64 t.n) (.slice ai t.init.length ci) (.slice ag t.goal.length cg) (.slice ao t.ops.length co) 25)
  have K1 := (Keeps.refl (fun _ => False) w).alloc (.cells #[.int .i64 t.n, .slice ai t.init.length ci, .slice ag t.goal.length cg, .slice ao t.ops.length co] 25)
  have HT := Lib.hid (h.keeps0 K1); have HCL := Lib.hid hcl; have HOC := Lib.hid hoc
  have HK := Lib.hid K1; have OK := Lib.hid ok; have HG := Lib.hid hg
  have hops : (wordsOf t.ops).length = t.ops.length := by unfold wordsOf; rw [List.length_map]
  have HOPS := Lib.hid hops
  have hfo := ok.few
  have HLE := Lib.hid (show ∀ i j k : Nat, i ≤ L.length → j ≤ t.ops.length → k ≤ L.length → ∀ (x : Nat) (c : Int) (y : Nat), (part2 (wordsOf t.ops) L i x j c y k).length ≤ 200000000 from fun i j k hi hj hk x c y => part2_le (wordsOf t.ops) L hfew (by rw [hops]; exact hfo) hi (by rw [hops]; exact hj) hk x c y)
  clear h hl hcl hoc K1 ok hg hops
  go_enter Try.func31, Try.ntmps31
  go_upto_region 1 with fail
  generalize (w.alloc (.cells #[.int .i64 t.n, .slice ai t.init.length ci, .slice ag t.goal.length cg, .slice ao t.ops.length co] 25)) = w1 at HB HT HK ⊢
  have hbx := HB.out.lt
  go_wp2_with fail
  go_loopw [5, 6, 7] (fun v5 v6 i7 wr => ∃ i : Nat, i ≤ L.length ∧ i7 = .int .i64 (i : Int) ∧ Rws w1.heap.size wr [(v5, outL t L i), (v6, wordL L i)] ∧ Keeps (fun _ => False) w1 wr) (fun _ _ i7 _ => L.length - (intOf i7).toNat)
  case atStart => exact ⟨0, Nat.zero_le _, rfl, ⟨fun r hr => by
    simp only [List.mem_cons, List.not_mem_nil, or_false] at hr
    rcases hr with rfl | rfl
    · exact World.ownsRow_nil _ _ _ _
    · exact World.ownsRow_nil _ _ _ _, by simp [Value.ownBlock]⟩, Keeps.refl _ _⟩
  case round =>
    obtain ⟨i, hi, rfl, hrw, hkw⟩ := hrel
    have hO5 : wr.ownsRow w1.heap.size 3 1 u5 i (outL t L i) := by have h := hrw.own _ (List.mem_cons_self); rw [len_outL t hi] at h; exact h
    have hO6 : wr.ownsRow w1.heap.size 3 1 u6 i (wordL L i) := by have h := hrw.own (u6, wordL L i) (by simp); rw [len_wordL hi] at h; exact h
    obtain ⟨a5, c5, h5⟩ := ownsRow_form1 hO5
    obtain ⟨a6, c6, h6⟩ := ownsRow_form1 hO6
    subst h5 h6
    have HR := Lib.hid hrw; have HO5 := Lib.hid hO5; have HO6 := Lib.hid hO6; have KW := Lib.hid hkw
    have hsw := hkw.size
    have hsz := HK.out.size
    clear hrw hO5 hO6 hkw
    by_cases hlt : i < L.length
    · obtain ⟨bl, ol, rfl, hx'⟩ := HCL.out (by omega)
      obtain ⟨x, hx⟩ : ∃ x, L[i]? = some x := ⟨_, List.getElem?_eq_getElem hlt⟩
      obtain ⟨u, hu, hiu⟩ := hx' i (facts x) (by rw [List.getElem?_map, hx]; rfl)
      have hu2 := (HK.out.trans KW.out).cell hu (fun h => h)
      have HU := Lib.hid hu
      have HIW := Lib.hid hiu
      have HIU := Lib.hid (hiu.keeps0 (HK.out.trans KW.out))
      have HGX := Lib.hid (HG.out x (List.mem_of_getElem? hx))
      have HTO := Lib.hid (outL_succ t hx); have HTW := Lib.hid (wordL_succ hx)
      obtain ⟨au, cu, hfu, _⟩ := hiu.form
      subst hfu
      clear hx' hx hu hiu
      go_wp2_with fail
      refine (rword_any _ _ _ HIU.out (isSet_mono HGX.out.1 (by omega))).mono ?_; rintro e w3 ⟨rfl, rfl⟩
      rw [HGX.out.2]
      go_wp2_with (at_builtin; refine wpList_append_d rfl _ _ _ rfl w1.heap.size 3 i0 _ 1 8 Try.underlying22 hi0 hz0 hz1 hz2 rfl (by omega) _ i (wordL L i) (by rfl) (World.ownsRow.alloc HO6.out (.cells #[.int .i64 (x : Int)] 3)) ⟨wr.heap.size, 0, none⟩ 1 1 [.int .i64 (x : Int)] (by rfl) (by rfl) (World.news_of_block (cs := #[.int .i64 (x : Int)]) (t := 3) (fr := (0, 0)) (heap_alloc_new _ _)) (by simp [Value.oneCell']) (by omega) (by unfold maxLen; omega) (by omega) (by simp; omega) (wr.heap.size + 1) (by simp) ?_)
      intro gg cap2 w4 hown hgrow hat hlt4 hd4
      have HR4 := Lib.hid (HR.out.push (i := 1) (v' := .slice (some ⟨gg, 0, none⟩) (i + 1) cap2) (xs' := wordL L (i + 1)) rfl ((Keeps.refl _ wr).alloc (.cells #[.int .i64 (x : Int)] 3)) hgrow (by rw [len_wordL (by omega), HTW.out]; exact hown) (at_new hat))
      have K4 := Lib.hid (own_grown HO6.out KW.out ((Keeps.refl _ wr).alloc (.cells #[.int .i64 (x : Int)] 3)) hgrow)
      clear hown hgrow hat hd4 hu2
      have KT := Lib.hid (HK.out.trans K4.out)
      have hu4 := KT.out.cell HU.out (fun h => h)
      have hbx4 := (HB.out.keeps0 K4.out).lt
      obtain ⟨d0, d1, d2, d3⟩ := HB.out.keeps0 K4.out
      go_upto_region 7 with fail
      go_still_tail 6, (by kernel_rfl)
      change wpList _ _ _ _ _ w4.drew
      have KD := (Keeps.refl (fun _ => False) w4).drew
      have HRD := Lib.hid (HR4.out.keeps0 KD); have K5 := Lib.hid (K4.out.trans KD)
      have HID := Lib.hid (HIW.out.keeps0 (KT.out.trans KD)); have HGD := Lib.hid (HT.out.goal.keeps0 (K4.out.trans KD))
      clear KD hu4 d0 d1 d2 d3 hbx4
      generalize w4.drew = w5 at HRD K5 HID HGD ⊢
      go_wp2_with fail
      refine (subset_goal _ _ _ t x HGD.out HID.out).mono ?_; rintro e w6 ⟨rfl, rfl⟩
      have hO5 : w5.ownsRow w1.heap.size 3 1 (.slice a5 i c5) i (outL t L i) := by have h := HRD.out.own (.slice a5 i c5, outL t L i) (by simp); rw [len_outL t hi] at h; exact h
      have HO5D := Lib.hid hO5
      have hs5 := K5.out.size
      clear hO5
      cases hgw : goalW t x with
      | true =>
        have HTG := Lib.hid (show outL t L (i + 1) = outL t L i ++ [.int .i64 0] by rw [HTO.out, hgw]; rfl)
        clear hgw
        go_wp2_with (at_builtin; refine wpList_append_d rfl _ _ _ rfl w1.heap.size 3 i0 _ 1 8 Try.underlying22 hi0 hz0 hz1 hz2 rfl (by omega) _ i (outL t L i) (by rfl) (World.ownsRow.alloc HO5D.out (.cells #[.int .i64 0] 3)) ⟨w5.heap.size, 0, none⟩ 1 1 [.int .i64 0] (by rfl) (by rfl) (World.news_of_block (cs := #[.int .i64 0]) (t := 3) (fr := (0, 0)) (heap_alloc_new _ _)) (by simp [Value.oneCell']) (by omega) (by unfold maxLen; omega) (by omega) (by simp; omega) (w5.heap.size + 1) (by simp) ?_)
        intro gh cap3 w7 hown hgrow hat hlt7 hd7
        have HR7 := Lib.hid (HRD.out.push (i := 0) (v' := .slice (some ⟨gh, 0, none⟩) (i + 1) cap3) (xs' := outL t L (i + 1)) rfl ((Keeps.refl _ w5).alloc (.cells #[.int .i64 0] 3)) hgrow (by rw [len_outL t (by omega), HTG.out]; exact hown) (at_new hat))
        have K7 := Lib.hid (own_grown HO5D.out K5.out ((Keeps.refl _ w5).alloc (.cells #[.int .i64 0] 3)) hgrow)
        clear hown hgrow hat hd7
        go_wp2_with fail
        go_roundw
        case rel => exact ⟨i + 1, by omega, by go_num, HR7.out, K7.out⟩
        case measure => simp [intOf]; omega
      | false =>
        have HTG := Lib.hid (show outL t L (i + 1) = outL t L i ++ [.int .i64 1000000000] by rw [HTO.out, hgw]; rfl)
        clear hgw
        go_wp2_with (at_builtin; refine wpList_append_d rfl _ _ _ rfl w1.heap.size 3 i0 _ 1 8 Try.underlying22 hi0 hz0 hz1 hz2 rfl (by omega) _ i (outL t L i) (by rfl) (World.ownsRow.alloc HO5D.out (.cells #[.int .i64 1000000000] 3)) ⟨w5.heap.size, 0, none⟩ 1 1 [.int .i64 1000000000] (by rfl) (by rfl) (World.news_of_block (cs := #[.int .i64 1000000000]) (t := 3) (fr := (0, 0)) (heap_alloc_new _ _)) (by simp [Value.oneCell']) (by omega) (by unfold maxLen; omega) (by omega) (by simp; omega) (w5.heap.size + 1) (by simp) ?_)
        intro gh cap3 w7 hown hgrow hat hlt7 hd7
        have HR7 := Lib.hid (HRD.out.push (i := 0) (v' := .slice (some ⟨gh, 0, none⟩) (i + 1) cap3) (xs' := outL t L (i + 1)) rfl ((Keeps.refl _ w5).alloc (.cells #[.int .i64 1000000000] 3)) hgrow (by rw [len_outL t (by omega), HTG.out]; exact hown) (at_new hat))
        have K7 := Lib.hid (own_grown HO5D.out K5.out ((Keeps.refl _ w5).alloc (.cells #[.int .i64 1000000000] 3)) hgrow)
        clear hown hgrow hat hd7
        go_wp2_with fail
        go_roundw
        case rel => exact ⟨i + 1, by omega, by go_num, HR7.out, K7.out⟩
        case measure => simp [intOf]; omega
    · have hie : i = L.length := by omega
      obtain ⟨w2, rfl⟩ : ∃ w2, w2 = wr := ⟨_, rfl⟩
      subst hie
      have HWD := Lib.hid (show Ints w2 (.slice a6 L.length c6) (L.map fun x : Nat => (x : Int)) by
        have h := Sl.of_own HO6.out
        unfold wordL at h
        rw [List.take_of_length_le (Nat.le_refl _)] at h
        unfold Ints
        rw [List.length_map, List.map_map]
        exact h)
      have HCW := Lib.hid (HWD.out.cell rfl)
      have HD0 := Lib.hid (show w2.ownsRow w1.heap.size 3 1 (.slice a5 L.length c5) L.length ((costStart (L.map (goalW t))).map (Value.int .i64)) by
        have h := HO5.out
        unfold outL at h
        rwa [List.take_of_length_le (Nat.le_refl _)] at h)
      have HK2 := Lib.hid (HK.out.trans KW.out)
      have HT2 := Lib.hid (HT.out.keeps0 KW.out)
      have HB2 := Lib.hid (HB.out.keeps0 KW.out)
      clear hlt hbx HR HO5 HO6 HWD
      go_wp2_with fail
      go_loopw [8, 9, 10, 11] (fun v8 v9 v10 i11 wq => ∃ p : Nat, p ≤ L.length ∧ i11 = .int .i64 (p : Int) ∧ ARows w2 (arcsTo (wordsOf t.ops) L p) v8 v9 v10 wq) (fun _ _ _ i11 _ => L.length - (intOf i11).toNat)
      case atStart => exact ⟨0, Nat.zero_le _, rfl, ⟨⟨fun r hr => by
        simp only [List.mem_cons, List.not_mem_nil, or_false] at hr
        rcases hr with rfl | rfl | rfl
        · exact World.ownsRow_nil _ _ _ _
        · exact World.ownsRow_nil _ _ _ _
        · exact World.ownsRow_nil _ _ _ _, by simp [Value.ownBlock]⟩, Keeps.refl _ _⟩⟩
      case round =>
        obtain ⟨p, hp, rfl, har⟩ := hrel
        obtain ⟨e8, e9, e10⟩ := har.own
        obtain ⟨a8, c8, h8⟩ := ownsRow_form1 e8
        obtain ⟨a9, c9, h9⟩ := ownsRow_form1 e9
        obtain ⟨a10, c10, h10⟩ := ownsRow_form1 e10
        subst h8 h9 h10
        have HA2 := Lib.hid har
        clear har e8 e9 e10
        by_cases hlt : p < L.length
        · obtain ⟨bl, ol, rfl, hx'⟩ := HCL.out (by omega)
          obtain ⟨x, hx⟩ : ∃ x, L[p]? = some x := ⟨_, List.getElem?_eq_getElem hlt⟩
          obtain ⟨u, hu, hiu⟩ := hx' p (facts x) (by rw [List.getElem?_map, hx]; rfl)
          have HU := Lib.hid (HK2.out.cell hu (fun h => h))
          have HIU := Lib.hid (hiu.keeps0 HK2.out)
          have HGX := Lib.hid (HG.out x (List.mem_of_getElem? hx))
          have HTO := Lib.hid (part_all (x := x) hx HOPS.out)
          obtain ⟨au, cu, hfu, _⟩ := hiu.form
          subst hfu
          clear hx' hx hu hiu
          have hbr := (HB2.out.keeps0 HA2.out.keeps).lt
          obtain ⟨d0, d1, d2, d3⟩ := HB2.out.keeps0 HA2.out.keeps
          go_upto_region 15 with fail
          clear d0 d1 d2 d3 hbr
          go_loopw [8, 9, 10, 12] (fun v8 v9 v10 i12 wq => ∃ j : Nat, j ≤ t.ops.length ∧ i12 = .int .i64 (j : Int) ∧ ARows w2 (part (wordsOf t.ops) L p x j) v8 v9 v10 wq) (fun _ _ _ i12 _ => t.ops.length - (intOf i12).toNat)
          case atStart => exact ⟨0, Nat.zero_le _, rfl, by rw [part_zero]; exact HA2.out⟩
          case round =>
            obtain ⟨j, hj, rfl, har⟩ := hrel
            obtain ⟨e8, e9, e10⟩ := har.own
            obtain ⟨a8, c8, h8⟩ := ownsRow_form1 e8
            obtain ⟨a9, c9, h9⟩ := ownsRow_form1 e9
            obtain ⟨a10, c10, h10⟩ := ownsRow_form1 e10
            subst h8 h9 h10
            have hkq := har.keeps
            have HA3 := Lib.hid har
            have hbq := (HB2.out.keeps0 hkq).lt
            obtain ⟨q0, q1, q2, q3⟩ := HB2.out.keeps0 hkq
            have hcu := hkq.cell HU.out (fun h => h)
            clear har e8 e9 e10 HA2
            by_cases hjl : j < t.ops.length
            · obtain ⟨o, ho⟩ : ∃ o, t.ops[j]? = some o := ⟨_, List.getElem?_eq_getElem hjl⟩
              have HOO := Lib.hid ho
              have hok := OK.out.ops o (List.mem_of_getElem? ho)
              obtain ⟨hap, haf, hgn⟩ := good_next (by omega : t.n ≤ 32) hok HGX.out
              have HAP := Lib.hid hap; have HAF := Lib.hid haf; have HGN := Lib.hid hgn
              have hwo : (wordsOf t.ops)[j]? = some o.word := by unfold wordsOf; rw [List.getElem?_map, ho]; rfl
              have HNT := Lib.hid (show part (wordsOf t.ops) L p x (j + 1) = if o.word.can x = true then part2 (wordsOf t.ops) L p x j o.cost (o.word.next x) L.length else part (wordsOf t.ops) L p x j from part_step hwo)
              have HTQ := Lib.hid (HT2.out.keeps0 hkq)
              have HIQ := Lib.hid (show Ints wr (.slice au (facts x).length cu) (facts x) from HIU.out.keeps0 hkq)
              obtain ⟨bo, oo, rfl, hoc⟩ := HOC.out (by omega)
              obtain ⟨va, vb, vc, c0, c1, c2, c3, _⟩ := hoc j o ho
              have HC3 := Lib.hid (HK2.out.cell c3 (fun h => h))
              clear ho hok hap haf hgn hwo hoc c0 c1 c2 c3 hkq
              go_upto_region 17 with fail
              go_still_tail 6, (by kernel_rfl)
              change wpList _ _ _ _ _ wr.drew
              have KD := (Keeps.refl (fun _ => False) wr).drew
              have HTD := Lib.hid (HTQ.out.keeps0 KD); have HID := Lib.hid (show Ints wr.drew (.slice au (facts x).length cu) (facts x) from HIQ.out.keeps0 KD)
              have HRD := Lib.hid (HA3.out.keeps0 KD)
              clear KD hcu q0 q1 q2 q3 HTQ HIQ HA3 hbq
              generalize wr.drew = w4 at HTD HID HRD ⊢
              go_wp2_with fail
              refine (applies_any _ _ _ _ _ t (facts x) j o HTD.out HID.out HOO.out).mono ?_; rintro e w5 ⟨rfl, hk5⟩
              rw [HAP.out]
              have HR5 := Lib.hid (HRD.out.keeps0 hk5); have HT5 := Lib.hid (HTD.out.keeps0 hk5); have HI5 := Lib.hid (show Ints w5 (.slice au (facts x).length cu) (facts x) from HID.out.keeps0 hk5)
              clear hk5 HRD HTD HID
              cases hcan : o.word.can x with
              | false =>
                have HSQ := Lib.hid (show part (wordsOf t.ops) L p x (j + 1) = part (wordsOf t.ops) L p x j by rw [HNT.out, hcan]; simp)
                clear hcan
                go_wp2_with fail
                go_roundw
                case rel => exact ⟨j + 1, by omega, by go_num, by rw [HSQ.out]; exact HR5.out⟩
                case measure => simp [intOf]; omega
              | true =>
                have HSQ := Lib.hid (show part (wordsOf t.ops) L p x (j + 1) = part2 (wordsOf t.ops) L p x j o.cost (o.word.next x) L.length by rw [HNT.out, hcan]; simp)
                clear hcan
                have hb5 := (HB2.out.keeps0 HR5.out.keeps).lt
                obtain ⟨q0, q1, q2, q3⟩ := HB2.out.keeps0 HR5.out.keeps
                have hcu5 := HR5.out.keeps.cell HU.out (fun h => h)
                go_upto_region 18 with fail
                go_still_tail 6, (by kernel_rfl)
                change wpList _ _ _ _ _ w5.drew
                have KD := (Keeps.refl (fun _ => False) w5).drew
                have HTD := Lib.hid (HT5.out.keeps0 KD); have HID := Lib.hid (show Ints w5.drew (.slice au (facts x).length cu) (facts x) from HI5.out.keeps0 KD)
                have HRD := Lib.hid (HR5.out.keeps0 KD)
                clear KD hcu5 q0 q1 q2 q3 HT5 HI5 HR5 hb5
                generalize w5.drew = w6 at HTD HID HRD ⊢
                go_wp2_with fail
                refine (after_any _ _ _ _ _ t (facts x) j o HTD.out HID.out HOO.out OK.out.n0 (by have := OK.out.n1; omega)).mono ?_; rintro e w7 ⟨vn, rfl, hown7, hk7⟩
                rw [HAF.out] at hown7
                have HI7 := Lib.hid (show Ints w7 vn (facts (o.word.next x)) from Sl.of_own hown7 |> fun h => by simpa [Ints] using h)
                obtain ⟨an, cn, hvn⟩ := ownsRow_form1 hown7
                subst hvn
                have HR7 := Lib.hid (HRD.out.keeps0 hk7)
                clear hown7 hk7 HTD HID HRD
                go_wp2_with fail
                refine (rword_any _ _ _ HI7.out (isSet_mono HGN.out.1 (by have := OK.out.n1; omega))).mono ?_; rintro e w8 ⟨rfl, rfl⟩
                rw [HGN.out.2]
                go_upto_region 20 with fail
                go_loopw [8, 9, 10, 14] (fun v8 v9 v10 i14 wq => ∃ k : Nat, k ≤ L.length ∧ i14 = .int .i64 (k : Int) ∧ ARows w2 (part2 (wordsOf t.ops) L p x j o.cost (o.word.next x) k) v8 v9 v10 wq) (fun _ _ _ i14 _ => L.length - (intOf i14).toNat)
                case atStart => exact ⟨0, Nat.zero_le _, rfl, by rw [part2_zero]; exact HR7.out⟩
                case round =>
                  obtain ⟨k, hk, rfl, har⟩ := hrel
                  generalize hQ : part2 (wordsOf t.ops) L p x j o.cost (o.word.next x) k = Q at har
                  have HQ := Lib.hid hQ
                  obtain ⟨e8, e9, e10⟩ := har.own
                  obtain ⟨a8, c8, h8⟩ := ownsRow_form1 e8
                  obtain ⟨a9, c9, h9⟩ := ownsRow_form1 e9
                  obtain ⟨a10, c10, h10⟩ := ownsRow_form1 e10
                  subst h8 h9 h10
                  have HA4 := Lib.hid har; have HO8 := Lib.hid e8
                  have hsz := har.keeps.size
                  clear har e8 e9 e10 HR7 HI7 hQ
                  by_cases hkl : k < L.length
                  · obtain ⟨y, hy⟩ : ∃ y, L[k]? = some y := ⟨_, List.getElem?_eq_getElem hkl⟩
                    obtain ⟨bw, ow, rfl, hcw⟩ := HCW.out (by rw [List.length_map]; omega)
                    have hwc := HA4.out.keeps.cell (hcw k (y : Int) (by rw [List.getElem?_map, hy]; rfl)) (fun h => h)
                    have HH := Lib.hid (part2_step (ops := wordsOf t.ops) (L := L) (p := p) (x := x) (j := j) (c := o.cost) (y := o.word.next x) hy)
                    have hbd := HLE.out p j k (Nat.le_of_lt hlt) (Nat.le_of_lt hjl) (Nat.le_of_lt hkl) x o.cost (o.word.next x)
                    rw [HQ.out] at hbd
                    clear hcw hy
                    by_cases hyz : y = o.word.next x
                    · have hq : (((y : Nat) : Int) == ((o.word.next x : Nat) : Int)) = true := by rw [hyz]; simp
                      have HHT := Lib.hid (show part2 (wordsOf t.ops) L p x j o.cost (o.word.next x) (k + 1) = Q ++ [⟨p, k, j, o.cost⟩] by rw [HH.out, if_pos hyz, HQ.out])
                      clear hyz
                      go_wp2_with (at_builtin; refine wpList_append_d rfl _ _ _ rfl w2.heap.size 3 i0 _ 1 8 Try.underlying22 hi0 hz0 hz1 hz2 rfl (by omega) _ Q.length (frmL Q) (by rfl) (World.ownsRow.alloc HO8.out (.cells #[.int .i64 (p : Int)] 3)) ⟨wr.heap.size, 0, none⟩ 1 1 [.int .i64 (p : Int)] (by rfl) (by rfl) (World.news_of_block (cs := #[.int .i64 (p : Int)]) (t := 3) (fr := (0, 0)) (heap_alloc_new _ _)) (by simp [Value.oneCell']) (by omega) (by unfold maxLen; omega) (by omega) (by simp; omega) (wr.heap.size + 1) (by simp) ?_)
                      intro g8 cap8 w8 hown hgrow hat hlt8 hd8
                      have HP8 := Lib.hid (HA4.out.rows.push (i := 0) (v' := .slice (some ⟨g8, 0, none⟩) (Q.length + 1) cap8) (xs' := frmL Q ++ [.int .i64 (p : Int)]) rfl ((Keeps.refl _ wr).alloc (.cells #[.int .i64 (p : Int)] 3)) hgrow (by rw [List.length_append, len_frmL]; exact hown) (at_new hat))
                      have K8 := Lib.hid (own_grown HO8.out HA4.out.keeps ((Keeps.refl _ wr).alloc (.cells #[.int .i64 (p : Int)] 3)) hgrow)
                      have hO9 : w8.ownsRow w2.heap.size 3 1 (.slice a9 Q.length c9) Q.length (toL Q) := by have h := HP8.out.own (.slice a9 Q.length c9, toL Q) (by simp); rw [len_toL] at h; exact h
                      have HO9 := Lib.hid hO9
                      have hs8 := K8.out.size
                      clear hown hgrow hat hd8 hO9
                      go_wp2_with (at_builtin; refine wpList_append_d rfl _ _ _ rfl w2.heap.size 3 i0 _ 1 8 Try.underlying22 hi0 hz0 hz1 hz2 rfl (by omega) _ Q.length (toL Q) (by rfl) (World.ownsRow.alloc HO9.out (.cells #[.int .i64 (k : Int)] 3)) ⟨w8.heap.size, 0, none⟩ 1 1 [.int .i64 (k : Int)] (by rfl) (by rfl) (World.news_of_block (cs := #[.int .i64 (k : Int)]) (t := 3) (fr := (0, 0)) (heap_alloc_new _ _)) (by simp [Value.oneCell']) (by omega) (by unfold maxLen; omega) (by omega) (by simp; omega) (w8.heap.size + 1) (by simp) ?_)
                      intro g9 cap9 w9 hown hgrow hat hlt9 hd9
                      have HP9 := Lib.hid (HP8.out.push (i := 1) (v' := .slice (some ⟨g9, 0, none⟩) (Q.length + 1) cap9) (xs' := toL Q ++ [.int .i64 (k : Int)]) rfl ((Keeps.refl _ w8).alloc (.cells #[.int .i64 (k : Int)] 3)) hgrow (by rw [List.length_append, len_toL]; exact hown) (at_new hat))
                      have K9 := Lib.hid (own_grown HO9.out K8.out ((Keeps.refl _ w8).alloc (.cells #[.int .i64 (k : Int)] 3)) hgrow)
                      have hO10 : w9.ownsRow w2.heap.size 3 1 (.slice a10 Q.length c10) Q.length (costsA Q) := by have h := HP9.out.own (.slice a10 Q.length c10, costsA Q) (by simp); rw [len_costsA] at h; exact h
                      have HO10 := Lib.hid hO10
                      have hs9 := K9.out.size
                      clear hown hgrow hat hd9 hO10
                      have hbq := (HB2.out.keeps0 K9.out).lt
                      obtain ⟨q0, q1, q2, q3⟩ := HB2.out.keeps0 K9.out
                      have hc3 := K9.out.cell HC3.out (fun h => h)
                      go_wp2_with (at_builtin; refine wpList_append_d rfl _ _ _ rfl w2.heap.size 3 i0 _ 1 8 Try.underlying22 hi0 hz0 hz1 hz2 rfl (by omega) _ Q.length (costsA Q) (by rfl) (World.ownsRow.alloc HO10.out (.cells #[.int .i64 o.cost] 3)) ⟨w9.heap.size, 0, none⟩ 1 1 [.int .i64 o.cost] (by rfl) (by rfl) (World.news_of_block (cs := #[.int .i64 o.cost]) (t := 3) (fr := (0, 0)) (heap_alloc_new _ _)) (by simp [Value.oneCell']) (by omega) (by unfold maxLen; omega) (by omega) (by simp; omega) (w9.heap.size + 1) (by simp) ?_)
                      intro g10 cap10 w10 hown hgrow hat hlt10 hd10
                      have HP10 := Lib.hid (HP9.out.push (i := 2) (v' := .slice (some ⟨g10, 0, none⟩) (Q.length + 1) cap10) (xs' := costsA Q ++ [.int .i64 o.cost]) rfl ((Keeps.refl _ w9).alloc (.cells #[.int .i64 o.cost] 3)) hgrow (by rw [List.length_append, len_costsA]; exact hown) (at_new hat))
                      have K10 := Lib.hid (own_grown HO10.out K9.out ((Keeps.refl _ w9).alloc (.cells #[.int .i64 o.cost] 3)) hgrow)
                      have HN := Lib.hid (show ARows w2 (part2 (wordsOf t.ops) L p x j o.cost (o.word.next x) (k + 1)) (.slice (some ⟨g8, 0, none⟩) (Q.length + 1) cap8) (.slice (some ⟨g9, 0, none⟩) (Q.length + 1) cap9) (.slice (some ⟨g10, 0, none⟩) (Q.length + 1) cap10) w10 by
                        rw [HHT.out]
                        refine ⟨?_, K10.out⟩
                        have h := HP10.out
                        simpa [frmL, toL, costsA] using h)
                      clear hown hgrow hat hd10 hbd q0 q1 q2 q3 hc3 hbq
                      go_wp2_with fail
                      go_roundw
                      case rel => exact ⟨k + 1, by omega, by go_num, HN.out⟩
                      case measure => simp [intOf]; omega
                    · have hq : (((y : Nat) : Int) == ((o.word.next x : Nat) : Int)) = false := by simp; omega
                      have HHT := Lib.hid (show part2 (wordsOf t.ops) L p x j o.cost (o.word.next x) (k + 1) = Q by rw [HH.out, if_neg hyz, List.append_nil, HQ.out])
                      clear hyz hbd
                      go_wp2_with fail
                      go_roundw
                      case rel => exact ⟨k + 1, by omega, by go_num, by rw [HHT.out]; exact HA4.out⟩
                      case measure => simp [intOf]; omega
                  · have hke : k = L.length := by omega
                    have HN := Lib.hid (show ARows w2 (part (wordsOf t.ops) L p x (j + 1)) (.slice a8 Q.length c8) (.slice a9 Q.length c9) (.slice a10 Q.length c10) wr by
                      have h := HQ.out
                      rw [hke, ← HSQ.out] at h
                      rw [h]; exact HA4.out)
                    clear hke
                    go_wp2_with fail
                    go_roundw
                    case rel => exact ⟨j + 1, by omega, by go_num, HN.out⟩
                    case measure => simp [intOf]; omega
            · have hje : j = t.ops.length := by omega
              have HN := Lib.hid (show ARows w2 (arcsTo (wordsOf t.ops) L (p + 1)) (.slice a8 (part (wordsOf t.ops) L p x j).length c8) (.slice a9 (part (wordsOf t.ops) L p x j).length c9) (.slice a10 (part (wordsOf t.ops) L p x j).length c10) wr by rw [← HTO.out, ← hje]; exact HA3.out)
              clear hje
              go_wp2_with fail
              go_roundw
              case rel => exact ⟨p + 1, by omega, by go_num, HN.out⟩
              case measure => simp [intOf]; omega
        · obtain ⟨w3, rfl⟩ : ∃ w3, w3 = wr := ⟨_, rfl⟩
          have hpe : p = L.length := by omega
          subst hpe
          have hAA : arcsTo (wordsOf t.ops) L L.length = arcs (wordsOf t.ops) L := rfl
          rw [hAA] at HA2 ⊢
          have HLT := Lib.hid (show ∀ a ∈ arcs (wordsOf t.ops) L, a.frm < L.length ∧ a.to < L.length ∧ 0 ≤ a.cost ∧ a.cost ≤ 100 from fun a ha => by
            obtain ⟨h1, h2, _⟩ := arcs_lt ha
            obtain ⟨x, o, _, ho, _, hc, _⟩ := mem_arcs.1 ha
            unfold wordsOf at ho
            rw [List.getElem?_map] at ho
            cases hp : t.ops[a.op]? with
            | none => rw [hp] at ho; cases ho
            | some op =>
              rw [hp] at ho; cases ho
              have hok := OK.out.ops op (List.mem_of_getElem? hp)
              rw [hc]
              exact ⟨h1, h2, hok.cost0, hok.cost1⟩)
          have hAl : (arcs (wordsOf t.ops) L).length ≤ 160000000 := arcs_len hfew (by rw [HOPS.out]; exact hfo)
          generalize hAE : arcs (wordsOf t.ops) L = A at HA2 HLT hAl ⊢
          have HAE := Lib.hid hAE
          clear hAE
          obtain ⟨gd, capd, hvd, hg1, hg2⟩ := HD0.out.form hpos
          simp only [Value.slice.injEq] at hvd
          obtain ⟨rfl, _, rfl⟩ := hvd
          have hgd2 := (World.ownsRow.lt HD0.out gd rfl)
          have hgdlt : gd < w2.heap.size := hgd2.2
          have hgdge : w1.heap.size ≤ gd := hgd2.1
          have hnl : (L.map (goalW t)).length = L.length := List.length_map _
          have HD3 := Lib.hid (show ORow w1 w3 gd (L.map (goalW t)).length c5 (costStart (L.map (goalW t))) w3 from ⟨by rw [hnl]; exact HA2.out.keeps.ownsRow HD0.out (fun _ _ h => h), Keeps.refl _ _⟩)
          have HCI := Lib.hid (CostInv.start A (L.map (goalW t)))
          obtain ⟨e8, e9, e10⟩ := HA2.out.own
          have H8 := Lib.hid (acells e8 rfl); have H9 := Lib.hid (acells e9 rfl); have H10 := Lib.hid (acells e10 rfl)
          have KW3 := Lib.hid (HK2.out.trans HA2.out.keeps)
          have hs3 := HA2.out.keeps.size
          have hmaxn : L.length ≤ 2000 := hfew
          rw [← hnl] at hmaxn
          have HNL := Lib.hid hnl
          clear e8 e9 e10 hgd2 hg1 hg2 hlt HLE hAA hnl
          have hslot : (Value.slice (some ⟨gd, 0, none⟩) L.length c5) = .slice (some ⟨gd, 0, none⟩) (L.map (goalW t)).length c5 := by rw [HNL.out]
          rw [hslot]
          clear hslot
          generalize hacc : L.map (goalW t) = acc at HD3 HCI hmaxn HNL ⊢
          have HACC := Lib.hid hacc
          clear hacc
          go_wp2_with fail
          go_loopg [15] (2 * weightC (costStart acc) + 1) (fun k v15 wq => CHead w1 w3 gd c5 A acc k v15 wq)
          case atStart => exact ⟨costStart acc, true, rfl, HCI.out, HD3.out, (fun h => by cases h), by rw [if_pos rfl]⟩
          case round =>
            obtain ⟨d, again, rfl, hinv, hdr, hst, hgk⟩ := hrel
            have INV := Lib.hid hinv; have DR := Lib.hid hdr; have ST := Lib.hid hst; have HGK := Lib.hid hgk
            clear hinv hdr hst hgk
            cases again with
            | false =>
              have hsw1 := HK.out.size
              go_wp2_with fail
              go_ret
              exact ⟨_, d, rfl, by rw [HAE.out, HACC.out]; exact ⟨INV.out, ST.out (by first | rfl | trivial)⟩, by rw [HACC.out]; exact ownsRow_mono DR.out.own hsw1, KW3.out.trans' DR.out.keeps (fun b hb => .inr (by omega))⟩
            | true =>
              go_wp2_with fail
              go_loopw [15, 16] (fun v15 v16 wq => ∃ j : Nat, j ≤ A.length ∧ v16 = .int .i64 (j : Int) ∧ CMid w1 w3 gd c5 A acc (weightC d) j v15 wq) (fun _ v16 _ => A.length - (intOf v16).toNat)
              case atStart => exact ⟨0, Nat.zero_le _, rfl, d, false, rfl, INV.out, DR.out, (fun _ a ha => by simp at ha), Nat.le_refl _, (fun h => by cases h)⟩
              case round =>
                obtain ⟨j, hj, rfl, d2, ag2, rfl, hinv2, hdr2, hst2, hle2, hlt2⟩ := hrel
                have INV2 := Lib.hid hinv2; have DR2 := Lib.hid hdr2; have ST2 := Lib.hid hst2; have LE2 := Lib.hid hle2; have LT2 := Lib.hid hlt2
                have hl2 := hdr2.lt
                clear hinv2 hdr2 hst2 hle2 hlt2
                by_cases hjl : j < A.length
                · obtain ⟨b8, rfl, hb8, hc8⟩ := H8.out (by omega)
                  obtain ⟨b9, rfl, hb9, hc9⟩ := H9.out (by omega)
                  obtain ⟨b10, rfl, hb10, hc10⟩ := H10.out (by omega)
                  obtain ⟨a, ha⟩ : ∃ a, A[j]? = some a := ⟨_, List.getElem?_eq_getElem hjl⟩
                  have HA := Lib.hid ha
                  have G8 := Lib.hid (hc8 j (.int .i64 (a.frm : Int)) (by unfold frmL; rw [List.getElem?_map, ha]; rfl))
                  have G9 := Lib.hid (hc9 j (.int .i64 (a.to : Int)) (by unfold toL; rw [List.getElem?_map, ha]; rfl))
                  have G10 := Lib.hid (hc10 j (.int .i64 a.cost) (by unfold costsA; rw [List.getElem?_map, ha]; rfl))
                  have r8 := DR2.out.keeps.cell G8.out (by show ¬ b8 = gd; omega)
                  have r9 := DR2.out.keeps.cell G9.out (by show ¬ b9 = gd; omega)
                  have r10 := DR2.out.keeps.cell G10.out (by show ¬ b10 = gd; omega)
                  obtain ⟨hf, ht, hc0, hc1⟩ := HLT.out a (List.mem_of_getElem? ha)
                  rw [← HNL.out] at hf ht
                  have hdl := DR2.out.len
                  obtain ⟨x, hx⟩ : ∃ x, d2[a.frm]? = some x := ⟨_, List.getElem?_eq_getElem (by omega)⟩
                  obtain ⟨y, hy⟩ : ∃ y, d2[a.to]? = some y := ⟨_, List.getElem?_eq_getElem (by omega)⟩
                  have hyl := INV2.out.lo y (List.mem_of_getElem? hy)
                  unfold bigC at hyl
                  obtain ⟨hyl0, hyl1⟩ := hyl
                  have HX := Lib.hid hx; have HY := Lib.hid hy
                  have cx := DR2.out.cell hx
                  have cy := DR2.out.cell hy
                  have f0 : (0 : Int) ≤ (a.frm : Int) := by omega
                  have f1 : (a.frm : Int) < (acc.length : Int) := by omega
                  have t0 : (0 : Int) ≤ (a.to : Int) := by omega
                  have t1 : (a.to : Int) < (acc.length : Int) := by omega
                  have j0 : (0 : Int) ≤ (j : Int) := by omega
                  have j1 : (j : Int) < (A.length : Int) := by omega
                  clear hc8 hc9 hc10 ha hdl hx hy
                  by_cases hyb : y < 1000000000
                  · have ey0 : decide (y < 1000000000) = true := by simpa using hyb
                    have hs : IntKind.i64.wrap (y + a.cost) = y + a.cost := IntWalk.i64_in _ (by omega)
                    by_cases hup : y + a.cost < x
                    · have ex1 : decide (y + a.cost < x) = true := by simpa using hup
                      have HN := Lib.hid (INV2.out.step (List.mem_of_getElem? HA.out) hc0 HX.out HY.out (by unfold bigC; exact hyb) hup)
                      have FIN := Lib.hid (show ∀ w6, Keeps (fun _ => False) wr w6 → CMid w1 w3 gd c5 A acc (weightC d) (j + 1) (.bool true) (w6.setCell ⟨gd, a.frm, none⟩ (.int .i64 (y + a.cost))) from fun w6 hk6 => by
                        obtain ⟨n1, n2⟩ := HN.out
                        have h1 := LE2.out
                        exact ⟨d2.set a.frm (y + a.cost), true, rfl, n1, (DR2.out.keeps0 hk6).set a.frm (y + a.cost), (fun h => by cases h), by omega, (fun _ => by omega)⟩)
                      clear hup
                      go_wp2_with fail
                      go_quiet (fail)
                      have kx := (Keeps.refl (fun _ => False) wr).drewN nq
                      have KX := Lib.hid kx
                      have r8' := kx.cell r8 (fun h => h)
                      have r9' := kx.cell r9 (fun h => h)
                      have r10' := kx.cell r10 (fun h => h)
                      have cy' := kx.cell cy (fun h => h)
                      have hlx := Nat.lt_of_lt_of_le hl2 kx.size
                      clear r8 r9 r10 cx cy kx
                      generalize wr.drewN nq = wx at KX r8' r9' r10' cy' hlx ⊢
                      go_step
                      go_upto_region 33 with fail
                      go_still_tail 18, (by kernel_rfl)
                      change wpList _ _ _ _ _ wx.drew
                      have KD := Lib.hid (KX.out.drew)
                      clear r8' r9' r10' cy' hlx
                      generalize wx.drew = w6 at KD ⊢
                      have cx := KD.out.cell (DR2.out.cell HX.out) (fun h => h)
                      have ff := (DR2.out.keeps0 KD.out).frozen a.frm
                      have hl6 := (DR2.out.keeps0 KD.out).lt
                      have FW := Lib.hid (FIN.out w6 KD.out)
                      clear ey0 ex1 hs
                      go_wp2_with fail
                      go_roundw
                      case rel => exact ⟨j + 1, by omega, by go_num, FW.out⟩
                      case measure => simp [intOf]; omega
                    · have ex1 : decide (y + a.cost < x) = false := by simpa using hup
                      have HST := Lib.hid (show stableC d2 a from stableC_of HX.out HY.out (.inr (by omega)))
                      clear hup
                      go_wp2_with fail
                      go_quiet (fail)
                      have KD := Lib.hid ((Keeps.refl (fun _ => False) wr).drewN nq)
                      clear r8 r9 r10 cx cy
                      generalize wr.drewN nq = w6 at KD ⊢
                      go_step
                      go_wp2_with fail
                      go_roundw
                      case rel => exact ⟨j + 1, by omega, by go_num, d2, ag2, rfl, INV2.out, DR2.out.keeps0 KD.out, (fun h => stableC_take HA.out HST.out (ST2.out h)), LE2.out, LT2.out⟩
                      case measure => simp [intOf]; omega
                  · have ey0 : decide (y < 1000000000) = false := by simpa using hyb
                    have HST := Lib.hid (show stableC d2 a from stableC_of HX.out HY.out (.inl (by unfold bigC; exact hyb)))
                    go_wp2_with fail
                    go_quiet (fail)
                    have KD := Lib.hid ((Keeps.refl (fun _ => False) wr).drewN nq)
                    clear r8 r9 r10 cx cy
                    generalize wr.drewN nq = w6 at KD ⊢
                    go_step
                    go_wp2_with fail
                    go_roundw
                    case rel => exact ⟨j + 1, by omega, by go_num, d2, ag2, rfl, INV2.out, DR2.out.keeps0 KD.out, (fun h => stableC_take HA.out HST.out (ST2.out h)), LE2.out, LT2.out⟩
                    case measure => simp [intOf]; omega
                · have HTK : Hid (A.take j = A) := by unfold Hid; exact List.take_of_length_le (by omega)
                  have HGD := Lib.hid (show CHead w1 w3 gd c5 A acc (2 * weightC d2 + (if ag2 = true then 1 else 0)) (.bool ag2) wr from ⟨d2, ag2, rfl, INV2.out, DR2.out, (fun h => by have := ST2.out h; rwa [HTK.out] at this), rfl⟩)
                  go_wp2_with fail
                  go_roundg (2 * weightC d2 + (if ag2 = true then 1 else 0))
                  case rel => exact HGD.out
                  case measure =>
                    have h1 := HGK.out
                    have h2 := LE2.out
                    have h3 := LT2.out
                    cases ag2
                    · rw [if_neg (by simp)]; simp at h1; omega
                    · rw [if_pos rfl]; have := h3 rfl; simp at h1; omega

end Go.Proofs.Ytdonadeodioplaa

namespace Go.Proofs.Ytdonadeodioplaa
open Go.RowKit

def DistPost (t : Tsk) (w : World) (e : Ending) (w' : World) : Prop := Keeps (fun _ => False) w w' ∧
  ((∃ c i, c ≠ 0 ∧ expF t = (c, i) ∧ e = .returned (.tuple #[.slice none 0 0, fltV c i])) ∨
   (t.Ok ∧ ∃ (l ws : List Nat) (v : Value) (D : Nat → Int), explored t = some l ∧ ws.Perm l ∧ ws.Pairwise ordW ∧ CostOk (arcs (wordsOf t.ops) ws) (ws.map (goalB (wd t.goal))) (ws.map D) ∧ e = .returned (.tuple #[v, fltV 0 0]) ∧ Ints w' v (ws.map D)))
def OptPost (t : Tsk) (w : World) (e : Ending) (w' : World) : Prop := Keeps (fun _ => False) w w' ∧
  ((∃ c i, c ≠ 0 ∧ expF t = (c, i) ∧ e = .returned (.tuple #[.int .i64 0, fltV c i])) ∨
   (t.Ok ∧ ∃ (l ws : List Nat) (D : Nat → Int), explored t = some l ∧ ws.Perm l ∧ ws.Pairwise ordW ∧ CostOk (arcs (wordsOf t.ops) ws) (ws.map (goalB (wd t.goal))) (ws.map D) ∧ e = .returned (.tuple #[.int .i64 (D (wd t.init)), fltV 0 0])))

/-- What Costs asks for. -/
theorem costs_need {t : Tsk} (ok : t.Ok) {l ws : List Nat} (hx : explored t = some l) (hp : ws.Perm l) :
    wd t.init < 4294967296 ∧ wd t.goal < 4294967296 ∧ (wordsOf t.ops).length ≤ 40 ∧ Shut (wordsOf t.ops) ws ∧ ws.length ≤ 2000 ∧ (∀ x ∈ ws, x < 4294967296) ∧ (∀ o ∈ wordsOf t.ops, 0 ≤ o.cost ∧ o.cost ≤ 1000000) ∧ wd t.init ∈ ws := by
  have hs32 : wd t.init < 4294967296 := wd_lt32 (by have := ok.n1; omega : t.n ≤ 32) ok.init
  have hg32 : wd t.goal < 4294967296 := wd_lt32 (by have := ok.n1; omega : t.n ≤ 32) ok.goal
  have hsh := shut_reached (ops := wordsOf t.ops) (s := wd t.init) (L := l) hx
  have hr := reached_some (ops := wordsOf t.ops) (s := wd t.init) (l := l) hx
  refine ⟨hs32, hg32, by unfold wordsOf; rw [List.length_map]; exact ok.few, ⟨hp.nodup_iff.2 hsh.1, fun x h o ho hc => hp.mem_iff.2 (hsh.2 x (hp.mem_iff.1 h) o ho hc)⟩, by rw [hp.length_eq]; exact hr.2.1, fun x h => reach_small (wops_ok ok) hs32 ((hr.2.2.2 x).1 (hp.mem_iff.1 h)), fun o ho => ?_, hp.mem_iff.2 (List.mem_of_getElem? hr.2.2.1)⟩
  unfold wordsOf at ho
  obtain ⟨o', ho', rfl⟩ := List.mem_map.1 ho
  have h := ok.ops o' ho'
  have hc : o'.word.cost = o'.cost := rfl
  rw [hc]
  exact ⟨h.cost0, by have := h.cost1; omega⟩

set_option maxRecDepth 100000 in
set_option maxHeartbeats 2000000 in
theorem distances_any (w : World) (vi vg vo : Value) (t : Tsk) (h : TaskAt w vi vg vo t) :
    Calls Try.prog 15 #[.agg #[.int .i64 t.n, vi, vg, vo]] w (DistPost t w) := by
  obtain ⟨j0, hj0, jz0, jz1, jz2⟩ := info_parts Try.info3
  obtain ⟨ai, ci, h1, _⟩ := h.init.form
  obtain ⟨ag, cg, h2, _⟩ := h.goal.form
  obtain ⟨ao, co, h3, hmo⟩ := h.ops.form
  subst h1 h2 h3
  have K1 := (Keeps.refl (fun _ => False) w).alloc (.cells #[.int .i64 t.n, .slice ai t.init.length ci, .slice ag t.goal.length cg, .slice ao t.ops.length co] 25)
  have HT := h.keeps0 (K1.alloc (.cells #[.int .i64 0, .int .i64 0] 30))
  have HB := (Four.new w (.int .i64 t.n) (.slice ai t.init.length ci) (.slice ag t.goal.length cg) (.slice ao t.ops.length co) 25).keeps0 ((Keeps.refl _ _).alloc (.cells #[.int .i64 0, .int .i64 0] 30))
  have HF : Flt w ((w.alloc (.cells #[.int .i64 t.n, .slice ai t.init.length ci, .slice ag t.goal.length cg, .slice ao t.ops.length co] 25)).alloc (.cells #[.int .i64 0, .int .i64 0] 30)) (w.heap.size + 1) 30 :=
    ⟨by have := heap_alloc_new (w.alloc (.cells #[.int .i64 t.n, .slice ai t.init.length ci, .slice ag t.goal.length cg, .slice ao t.ops.length co] 25)) (.cells #[.int .i64 0, .int .i64 0] 30); rwa [World.size_alloc] at this, by omega, K1.alloc _⟩
  replace HT := Lib.hid HT; replace HB := Lib.hid HB; replace HF := Lib.hid HF
  clear h K1
  go_enter Try.func15, Try.ntmps15
  go_upto_region 1 with fail
  generalize ((w.alloc (.cells #[.int .i64 t.n, .slice ai t.init.length ci, .slice ag t.goal.length cg, .slice ao t.ops.length co] 25)).alloc (.cells #[.int .i64 0, .int .i64 0] 30)) = w1 at HT HB HF ⊢
  have hbx := HB.out.lt
  obtain ⟨d0, d1, d2, d3⟩ := HB.out
  go_wp2_with fail
  refine (checked_any _ _ _ _ t HT.out).mono ?_; rintro e w2 ⟨hk, hr⟩
  have HF2 := Lib.hid (HF.out.keeps0 hk)
  clear d0 d1 d2 d3 hk
  have hb0 := HF2.out.keep.size
  rcases hr with ⟨hc, rfl⟩ | ⟨hok, hx, rfl⟩ | ⟨hok, l, hx, b, v, vl, ws, rfl, hw, hperm, hord, hown⟩
  · have hc2 : ((taskFault t).1 == 0) = false := by simpa using hc
    have HE := Lib.hid (show expF t = taskFault t by unfold expF; rw [if_neg hc])
    have HC := Lib.hid hc
    clear hc
    generalize hfe : taskFault t = f at hc2 HC HE ⊢
    clear hfe
    have HF3 := Lib.hid (HF2.out.keeps0 ((Keeps.refl _ _).alloc (.cells #[.int .i64 f.1, .int .i64 f.2] 30)))
    obtain ⟨e0, e1, z0, z1, hF⟩ := HF3.out.cells
    go_wp2_with fail
    go_region
    all_goals
      go_wp2
      refine bodyPost_ret (results_tmp_cell _ _ (w.heap.size + 1) 30 #[.int .i64 f.1, .int .i64 f.2] (0, 0) _ rfl rfl (((Keeps.refl (fun _ => False) _).drew).heap (HF3.out.set (.int .i64 f.1) (.int .i64 f.2)).1 (fun h => h)) Try.underlying30 rfl (by kernel_rfl)) rfl ?_
      exact ⟨((HF3.out.set (.int .i64 f.1) (.int .i64 f.2)).2).drew, .inl ⟨f.1, f.2, HC.out, HE.out, rfl⟩⟩
  · have HE := Lib.hid (show expF t = (10, -7) by unfold expF; rw [if_pos (taskFault_zero.2 hok), hx])
    clear hx hok
    have HF3 := Lib.hid (HF2.out.keeps0 ((Keeps.refl _ _).alloc (.cells #[.int .i64 10, .int .i64 (-7)] 30)))
    obtain ⟨e0, e1, z0, z1, hF⟩ := HF3.out.cells
    go_wp2_with fail
    go_region
    all_goals
      go_wp2
      refine bodyPost_ret (results_tmp_cell _ _ (w.heap.size + 1) 30 #[.int .i64 10, .int .i64 (-7)] (0, 0) _ rfl rfl (((Keeps.refl (fun _ => False) _).drew).heap (HF3.out.set (.int .i64 10) (.int .i64 (-7))).1 (fun h => h)) Try.underlying30 rfl (by kernel_rfl)) rfl ?_
      exact ⟨((HF3.out.set (.int .i64 10) (.int .i64 (-7))).2).drew, .inl ⟨10, -7, by decide, HE.out, rfl⟩⟩
  · have HX := Lib.hid hx; have OK := Lib.hid hok; have PERM := Lib.hid hperm; have ORD := Lib.hid (show ws.Pairwise ordW from hord)
    obtain ⟨n1, n2, n3, n4, hfew, n6, n7, n8⟩ := costs_need hok hx hperm
    have KA := (Keeps.refl (fun _ => False) w2).alloc (.cells #[.int .i64 0, .int .i64 0] 30)
    have HV := Lib.hid (show Sl _ vl ws.length (ws.map encW) from (Sl.of_own hown).keeps0 KA)
    have HWA := Lib.hid (hw.keeps0 KA)
    have HF3 := Lib.hid (HF2.out.keeps0 KA)
    obtain ⟨av, cv, hav⟩ := ownsRow_form1 hown
    subst hav
    have HN := Lib.hid (And.intro n2 (And.intro n3 (And.intro n4 (And.intro n6 n7))))
    clear hx hok hw KA hperm hord hown n1 n2 n3 n4 n6 n7 n8
    have F0 := heap_alloc_new w2 (.cells #[.int .i64 0, .int .i64 0] 30)
    go_upto_region 2 with fail
    generalize w2.alloc (.cells #[.int .i64 0, .int .i64 0] 30) = w3 at HV HF3 HWA F0 ⊢
    have f0 : w3.cell? ⟨w2.heap.size, 0, none⟩ = some (.int .i64 0) := by rw [cell_of_blk F0]; rfl
    have f1 : w3.cell? ⟨w2.heap.size, 1, none⟩ = some (.int .i64 0) := by rw [cell_of_blk F0]; rfl
    clear F0
    have hb2 := HF3.out.keep.size
    have hbF := HF3.out.blk
    go_wp2_with fail
    refine (costs_any w3 b (wd t.init) (wd t.goal) _ v (.slice av ws.length cv) (wordsOf t.ops) ws HWA.out (wops_ok OK.out) HN.out.2.1 HN.out.1 HN.out.2.2.1 hfew HN.out.2.2.2.1 HN.out.2.2.2.2 HV.out).mono ?_
    rintro e w4 ⟨hk4, bo, D, rfl, hbo, hI, hco⟩
    have HI := Lib.hid hI; have HCO := Lib.hid hco; have HV4 := Lib.hid (HV.out.keeps0 hk4); have HF4 := Lib.hid (HF3.out.keeps0 hk4)
    have HCV := Lib.hid (Sl.cellN HV4.out rfl)
    have hb4 := hk4.size
    clear hI hco hk4 f0 f1 hbF HF3 HV HWA
    go_wp2_with fail
    go_loopw [8, 26] (fun v8 v26 wr => ∃ k : Nat, k ≤ ws.length ∧ v26 = .int .i64 (k : Int) ∧ wr.ownsRow w4.heap.size 3 1 v8 k ((ws.take k).map fun x : Nat => Value.int .i64 (D x)) ∧ Keeps (fun _ => False) w4 wr) (fun _ v26 _ => ws.length - (intOf v26).toNat)
    case atStart => exact ⟨0, Nat.zero_le _, rfl, World.ownsRow_nil _ _ _ _, Keeps.refl _ _⟩
    case round =>
      obtain ⟨k, hk, rfl, hrow, hkr⟩ := hrel
      have HR := Lib.hid hrow; have HKR := Lib.hid hkr
      have hsz := hkr.size
      obtain ⟨ar, cr, har⟩ := ownsRow_form1 hrow
      subst har
      clear hrow hkr
      by_cases hlt : k < ws.length
      · obtain ⟨bl, ol, rfl, hx'⟩ := HCV.out (by omega)
        obtain ⟨x, hx⟩ : ∃ x, ws[k]? = some x := ⟨_, List.getElem?_eq_getElem hlt⟩
        have hu := HKR.out.cell (hx' k (.int .u32 (x : Int)) (by rw [List.getElem?_map, hx]; rfl)) (fun h => h)
        have hlk := ((HI.out.keeps HKR.out (fun h => h)).run_lookup_hit (P := Try.prog) Try.underlying77 Try.underlying75 (outV_nodup HN.out.2.2.1.1 D) (outV_mem D (List.mem_of_getElem? hx))).2
        have HTK := Lib.hid (show (ws.take (k + 1)).map (fun x : Nat => Value.int .i64 (D x)) = (ws.take k).map (fun x : Nat => Value.int .i64 (D x)) ++ [.int .i64 (D x)] by
          rw [take_getS hx, List.map_append]; rfl)
        clear hx' hx
        go_wp2_with (at_builtin; refine wpList_append_d rfl _ _ _ rfl w4.heap.size 3 j0 _ 1 8 Try.underlying22 hj0 jz0 jz1 jz2 rfl (by omega) _ k ((ws.take k).map fun x : Nat => Value.int .i64 (D x)) (by rfl) (World.ownsRow.alloc HR.out (.cells #[.int .i64 (D x)] 3)) ⟨wr.heap.size, 0, none⟩ 1 1 [.int .i64 (D x)] (by rfl) (by rfl) (World.news_of_block (cs := #[.int .i64 (D x)]) (t := 3) (fr := (0, 0)) (heap_alloc_new _ _)) (by simp [Value.oneCell']) (by omega) (by unfold maxLen; omega) (by omega) (by simp; omega) (wr.heap.size + 1) (by simp) ?_)
        intro gg cap2 w5 hown hgrow hat hlt5 hd5
        have HO := Lib.hid hown
        have HK5 := Lib.hid (own_grown HR.out HKR.out ((Keeps.refl _ wr).alloc (.cells #[.int .i64 (D x)] 3)) hgrow)
        clear hown hgrow hat hd5 hu hlk
        go_wp2_with fail
        go_roundw
        case rel => exact ⟨k + 1, by omega, by go_num, by rw [HTK.out, List.map_take]; exact HO.out, HK5.out⟩
        case measure => simp only [intOf]; omega
      · have hie : k = ws.length := by omega
        subst hie
        have HFr := Lib.hid (HF4.out.keeps0 HKR.out)
        obtain ⟨e0, e1, z0, z1, hF⟩ := HFr.out.cells
        have s0 := setCell_id e0
        have s1 := setCell_id e1
        have HR2 := Lib.hid (show Ints wr (.slice ar ws.length cr) (ws.map D) by
          have h := HR.out
          rw [List.take_length] at h
          refine Ints.of_own (base := w4.heap.size) (e := 3) ?_
          rw [List.length_map, List.map_map]
          exact h)
        go_wp2_with fail
        refine bodyPost_ret (results_tmp_cell _ _ (w.heap.size + 1) 30 #[.int .i64 0, .int .i64 0] (0, 0) _ rfl rfl HFr.out.blk Try.underlying30 rfl (by kernel_rfl)) rfl ?_
        exact ⟨HFr.out.keep, .inr ⟨OK.out, l, ws, _, D, HX.out, PERM.out, ORD.out, HCO.out, rfl, HR2.out⟩⟩

set_option maxRecDepth 100000 in
set_option maxHeartbeats 2000000 in
theorem optimal_any (w : World) (vi vg vo : Value) (t : Tsk) (h : TaskAt w vi vg vo t) :
    Calls Try.prog 21 #[.agg #[.int .i64 t.n, vi, vg, vo]] w (OptPost t w) := by
  obtain ⟨j0, hj0, jz0, jz1, jz2⟩ := info_parts Try.info3
  obtain ⟨ai, ci, h1, _⟩ := h.init.form
  obtain ⟨ag, cg, h2, _⟩ := h.goal.form
  obtain ⟨ao, co, h3, hmo⟩ := h.ops.form
  subst h1 h2 h3
  have K1 := (Keeps.refl (fun _ => False) w).alloc (.cells #[.int .i64 t.n, .slice ai t.init.length ci, .slice ag t.goal.length cg, .slice ao t.ops.length co] 25)
  have HT := h.keeps0 (K1.alloc (.cells #[.int .i64 0, .int .i64 0] 30))
  have HB := (Four.new w (.int .i64 t.n) (.slice ai t.init.length ci) (.slice ag t.goal.length cg) (.slice ao t.ops.length co) 25).keeps0 ((Keeps.refl _ _).alloc (.cells #[.int .i64 0, .int .i64 0] 30))
  have HF : Flt w ((w.alloc (.cells #[.int .i64 t.n, .slice ai t.init.length ci, .slice ag t.goal.length cg, .slice ao t.ops.length co] 25)).alloc (.cells #[.int .i64 0, .int .i64 0] 30)) (w.heap.size + 1) 30 :=
    ⟨by have := heap_alloc_new (w.alloc (.cells #[.int .i64 t.n, .slice ai t.init.length ci, .slice ag t.goal.length cg, .slice ao t.ops.length co] 25)) (.cells #[.int .i64 0, .int .i64 0] 30); rwa [World.size_alloc] at this, by omega, K1.alloc _⟩
  replace HT := Lib.hid HT; replace HB := Lib.hid HB; replace HF := Lib.hid HF
  clear h K1
  go_enter Try.func21, Try.ntmps21
  go_upto_region 1 with fail
  generalize ((w.alloc (.cells #[.int .i64 t.n, .slice ai t.init.length ci, .slice ag t.goal.length cg, .slice ao t.ops.length co] 25)).alloc (.cells #[.int .i64 0, .int .i64 0] 30)) = w1 at HT HB HF ⊢
  have hbx := HB.out.lt
  obtain ⟨d0, d1, d2, d3⟩ := HB.out
  go_wp2_with fail
  refine (checked_any _ _ _ _ t HT.out).mono ?_; rintro e w2 ⟨hk, hr⟩
  have HF2 := Lib.hid (HF.out.keeps0 hk)
  clear d0 d1 d2 d3 hk
  have hb0 := HF2.out.keep.size
  rcases hr with ⟨hc, rfl⟩ | ⟨hok, hx, rfl⟩ | ⟨hok, l, hx, b, v, vl, ws, rfl, hw, hperm, hord, hown⟩
  · have hc2 : ((taskFault t).1 == 0) = false := by simpa using hc
    have HE := Lib.hid (show expF t = taskFault t by unfold expF; rw [if_neg hc])
    have HC := Lib.hid hc
    clear hc
    generalize hfe : taskFault t = f at hc2 HC HE ⊢
    clear hfe
    have HF3 := Lib.hid (HF2.out.keeps0 ((Keeps.refl _ _).alloc (.cells #[.int .i64 f.1, .int .i64 f.2] 30)))
    obtain ⟨e0, e1, z0, z1, hF⟩ := HF3.out.cells
    go_wp2_with fail
    go_region
    all_goals
      go_wp2
      refine bodyPost_ret (results_tmp_cell _ _ (w.heap.size + 1) 30 #[.int .i64 f.1, .int .i64 f.2] (0, 0) _ rfl rfl (((Keeps.refl (fun _ => False) _).drew).heap (HF3.out.set (.int .i64 f.1) (.int .i64 f.2)).1 (fun h => h)) Try.underlying30 rfl (by kernel_rfl)) rfl ?_
      exact ⟨((HF3.out.set (.int .i64 f.1) (.int .i64 f.2)).2).drew, .inl ⟨f.1, f.2, HC.out, HE.out, rfl⟩⟩
  · have HE := Lib.hid (show expF t = (10, -7) by unfold expF; rw [if_pos (taskFault_zero.2 hok), hx])
    clear hx hok
    have HF3 := Lib.hid (HF2.out.keeps0 ((Keeps.refl _ _).alloc (.cells #[.int .i64 10, .int .i64 (-7)] 30)))
    obtain ⟨e0, e1, z0, z1, hF⟩ := HF3.out.cells
    go_wp2_with fail
    go_region
    all_goals
      go_wp2
      refine bodyPost_ret (results_tmp_cell _ _ (w.heap.size + 1) 30 #[.int .i64 10, .int .i64 (-7)] (0, 0) _ rfl rfl (((Keeps.refl (fun _ => False) _).drew).heap (HF3.out.set (.int .i64 10) (.int .i64 (-7))).1 (fun h => h)) Try.underlying30 rfl (by kernel_rfl)) rfl ?_
      exact ⟨((HF3.out.set (.int .i64 10) (.int .i64 (-7))).2).drew, .inl ⟨10, -7, by decide, HE.out, rfl⟩⟩
  · have HX := Lib.hid hx; have OK := Lib.hid hok; have PERM := Lib.hid hperm; have ORD := Lib.hid (show ws.Pairwise ordW from hord)
    obtain ⟨n1, n2, n3, n4, hfew, n6, n7, n8⟩ := costs_need hok hx hperm
    have KA := (Keeps.refl (fun _ => False) w2).alloc (.cells #[.int .i64 0, .int .i64 0] 30)
    have HV := Lib.hid (show Sl _ vl ws.length (ws.map encW) from (Sl.of_own hown).keeps0 KA)
    have HWA := Lib.hid (hw.keeps0 KA)
    have HF3 := Lib.hid (HF2.out.keeps0 KA)
    obtain ⟨av, cv, hav⟩ := ownsRow_form1 hown
    subst hav
    have HN := Lib.hid (And.intro n2 (And.intro n3 (And.intro n4 (And.intro n6 (And.intro n7 n8)))))
    clear hx hok hw KA hperm hord hown n1 n2 n3 n4 n6 n7 n8
    have F0 := heap_alloc_new w2 (.cells #[.int .i64 0, .int .i64 0] 30)
    go_upto_region 2 with fail
    generalize w2.alloc (.cells #[.int .i64 0, .int .i64 0] 30) = w3 at HV HF3 HWA F0 ⊢
    have f0 : w3.cell? ⟨w2.heap.size, 0, none⟩ = some (.int .i64 0) := by rw [cell_of_blk F0]; rfl
    have f1 : w3.cell? ⟨w2.heap.size, 1, none⟩ = some (.int .i64 0) := by rw [cell_of_blk F0]; rfl
    clear F0
    have hb2 := HF3.out.keep.size
    have hbF := HF3.out.blk
    go_wp2_with fail
    refine (costs_any w3 b (wd t.init) (wd t.goal) _ v (.slice av ws.length cv) (wordsOf t.ops) ws HWA.out (wops_ok OK.out) HN.out.2.1 HN.out.1 HN.out.2.2.1 hfew HN.out.2.2.2.1 HN.out.2.2.2.2.1 HV.out).mono ?_
    rintro e w4 ⟨hk4, bo, D, rfl, hbo, hI, hco⟩
    have HI := Lib.hid hI; have HCO := Lib.hid hco; have HF4 := Lib.hid (HF3.out.keeps0 hk4); have HW4 := Lib.hid (HWA.out.keeps0 hk4)
    clear hI hco hk4 f0 f1 hbF HF3 HV HWA
    go_wp2_with fail
    refine (start_any _ _ _ _ _ _ _ HW4.out).mono ?_; rintro e w5 ⟨rfl, rfl⟩
    have hlk := (HI.out.run_lookup_hit (P := Try.prog) Try.underlying77 Try.underlying75 (outV_nodup HN.out.2.2.1.1 D) (outV_mem D HN.out.2.2.2.2.2)).2
    obtain ⟨e0, e1, z0, z1, hF⟩ := HF4.out.cells
    have s0 := setCell_id e0
    have s1 := setCell_id e1
    go_wp2_with fail
    refine bodyPost_ret (results_tmp_cell _ _ (w.heap.size + 1) 30 #[.int .i64 0, .int .i64 0] (0, 0) _ rfl rfl HF4.out.blk Try.underlying30 rfl (by kernel_rfl)) rfl ?_
    exact ⟨HF4.out.keep, .inr ⟨OK.out, l, ws, D, HX.out, PERM.out, ORD.out, HCO.out, rfl⟩⟩

end Go.Proofs.Ytdonadeodioplaa

/- space's example. -/
namespace Go.Proofs.Ytdonadeodioplaa
open Go.RowKit

theorem ordW_antisymm {x y : Nat} (hx : x < 4294967296) (hy : y < 4294967296) (h1 : ordW x y) (h2 : ordW y x) : x = y := by
  unfold ordW cmpW at h1 h2
  have h3 := cmpL_neg (facts x) (facts y)
  have h4 : cmpL (facts x) (facts y) = 0 := by omega
  exact facts_inj (by simpa using hx) (by simpa using hy) (cmpL_eq h4)
theorem sorted_same {a b : List Nat} (hp : a.Perm b) (ha : a.Pairwise ordW) (hb : b.Pairwise ordW) (h32 : ∀ x ∈ a, x < 4294967296) : a = b :=
  hp.eq_of_pairwise (le := ordW) (fun x y hx hy h1 h2 => ordW_antisymm (h32 x hx) (h32 y (hp.mem_iff.2 hy)) h1 h2) ha hb

theorem CostInv.down_inv {A : List Arc} {acc : List Bool} {i : Nat} {x : Int} (h : Down A acc i x) : (acc[i]? = some true ∧ x = 0) ∨ ∃ a ∈ A, a.frm = i ∧ ∃ c, Down A acc a.to c ∧ x = a.cost + c := by
  cases h with
  | nil h => exact .inl ⟨h, rfl⟩
  | cons ha h => exact .inr ⟨_, ha, rfl, _, h, rfl⟩

theorem stepT_ws {ws l : List Nat} (hx : explored stepT = some l) (hp : ws.Perm l) (ho : ws.Pairwise ordW) : ws = [0, 1] := by
  rw [stepT_reached] at hx; cases hx
  exact sorted_same hp ho (by unfold ordW; decide) (fun x hx => by have := hp.mem_iff.1 hx; simp at this; omega)

theorem stepT_arcs : arcs (wordsOf stepT.ops) [0, 1] = [⟨0, 1, 0, 3⟩, ⟨1, 1, 0, 3⟩] := by rfl
theorem stepT_costs {D : Nat → Int} (h : CostOk (arcs (wordsOf stepT.ops) [0, 1]) ([0, 1].map (goalB (wd stepT.goal))) ([0, 1].map D)) : D 0 = 3 ∧ D 1 = 0 := by
  rw [stepT_arcs, show [0, 1].map (goalB (wd stepT.goal)) = [false, true] by decide] at h
  have h1 := h.zero 1 rfl
  have hd1 : D 1 = 0 := by simpa using h1
  obtain ⟨x, hx, hle⟩ := h.relax ⟨0, 1, 0, 3⟩ (by simp) (D 1) rfl (by rw [hd1]; decide)
  have hd0 : D 0 ≤ 3 := by
    have e : D 0 = x := by simpa using hx
    rw [e]; simp only at hle; omega
  have hr := h.real 0 (D 0) rfl (by have : bigC = 1000000000 := rfl; omega)
  refine ⟨?_, hd1⟩
  rcases CostInv.down_inv hr with ⟨h2, _⟩ | ⟨a, ha, hf, c, hc, he⟩
  · simp at h2
  · have h3 := (h.down (fun a ha => by simp at ha; rcases ha with rfl | rfl <;> decide) hc).1
    simp at ha
    rcases ha with rfl | rfl
    · simp only at he; omega
    · simp at hf

theorem stepT_deps {i : Nat} (hi : (tree (wordsOf stepT.ops) (wd stepT.init) i).length ≤ i) : [0, 1].map (depT (tree (wordsOf stepT.ops) (wd stepT.init) i)) = [0, 1] := by
  have hx : reached (wordsOf stepT.ops) (wd stepT.init) = some [0, 1] := stepT_reached
  have hsh := shut_reached hx
  have hr := (reached_some hx).2.2.2
  have h1 := dep_ok hsh hr (k := 0) rfl hi (wt := fun _ => 1) (fun _ => rfl)
  have h2 := dep_ok hsh hr (k := 0) rfl (i := 2) (by decide) (wt := fun _ => 1) (fun _ => rfl)
  rw [h1.unique h2 (fun _ _ => by decide)]
  decide

theorem stepT_exp : expF stepT = (0, 0) := by unfold expF; rw [stepT_ok, stepT_reached]; decide

theorem explStep_any (w : World) (vi vg vo : Value) (h : TaskAt w vi vg vo stepT) :
    Calls Try.prog 14 #[.agg #[.int .i64 1, vi, vg, vo]] w fun e w' => ∃ v, e = .returned (.tuple #[v, fltV 0 0]) ∧ Lists w' v [[], [0]] ∧ Keeps (fun _ => False) w w' := by
  refine (explore_any w vi vg vo stepT h).mono ?_
  rintro e w' ⟨hk, ⟨c, i, hc, he, _⟩ | ⟨_, l, ws, v, h1, h2, h3, rfl, h4⟩⟩
  · rw [stepT_exp] at he; cases he; exact absurd rfl hc
  · have := stepT_ws h1 h2 h3; subst this
    exact ⟨v, rfl, h4, hk⟩
theorem distStep_any (w : World) (vi vg vo : Value) (h : TaskAt w vi vg vo stepT) :
    Calls Try.prog 15 #[.agg #[.int .i64 1, vi, vg, vo]] w fun e w' => ∃ v, e = .returned (.tuple #[v, fltV 0 0]) ∧ Ints w' v [3, 0] ∧ Keeps (fun _ => False) w w' := by
  refine (distances_any w vi vg vo stepT h).mono ?_
  rintro e w' ⟨hk, ⟨c, i, hc, he, _⟩ | ⟨_, l, ws, v, D, h1, h2, h3, h4, rfl, h5⟩⟩
  · rw [stepT_exp] at he; cases he; exact absurd rfl hc
  · have := stepT_ws h1 h2 h3; subst this
    obtain ⟨e0, e1⟩ := stepT_costs h4
    simp only [List.map_cons, List.map_nil, e0, e1] at h5
    exact ⟨v, rfl, h5, hk⟩
theorem optStep_any (w : World) (vi vg vo : Value) (h : TaskAt w vi vg vo stepT) :
    Calls Try.prog 21 #[.agg #[.int .i64 1, vi, vg, vo]] w fun e w' => e = .returned (.tuple #[.int .i64 3, fltV 0 0]) ∧ Keeps (fun _ => False) w w' := by
  refine (optimal_any w vi vg vo stepT h).mono ?_
  rintro e w' ⟨hk, ⟨c, i, hc, he, _⟩ | ⟨_, l, ws, D, h1, h2, h3, h4, rfl⟩⟩
  · rw [stepT_exp] at he; cases he; exact absurd rfl hc
  · have := stepT_ws h1 h2 h3; subst this
    obtain ⟨e0, e1⟩ := stepT_costs h4
    have hi : wd stepT.init = 0 := rfl
    rw [hi, e0]
    exact ⟨rfl, hk⟩
theorem stepsStep_any (w : World) (vi vg vo : Value) (h : TaskAt w vi vg vo stepT) :
    Calls Try.prog 22 #[.agg #[.int .i64 1, vi, vg, vo]] w fun e w' => ∃ v, e = .returned (.tuple #[v, fltV 0 0]) ∧ Ints w' v [0, 1] ∧ Keeps (fun _ => False) w w' := by
  refine (spsteps_any w vi vg vo stepT h).mono ?_
  rintro e w' ⟨hk, ⟨c, i, hc, he, _⟩ | ⟨_, l, ws, v, i, h1, h2, h3, h4, rfl, h5⟩⟩
  · rw [stepT_exp] at he; cases he; exact absurd rfl hc
  · have := stepT_ws h1 h2 h3; subst this
    rw [stepT_deps h4] at h5
    exact ⟨v, rfl, h5, hk⟩

theorem Ints.two {w : World} {b : Nat} {x y : Int} {T : TypeId} (h : w.heap[b]? = some (.cells #[.int .i64 x, .int .i64 y] T (0, 0))) : Ints w (.slice (some ⟨b, 0, none⟩) 2 2) [x, y] := by
  refine ⟨_, 2, rfl, by unfold maxLen; simp, fun _ => ⟨b, 0, rfl, fun i z hz => ?_⟩⟩
  match i, hz with
  | 0, hz => simp at hz; subst hz; rw [cell_of_blk h]; rfl
  | 1, hz => simp at hz; subst hz; rw [cell_of_blk h]; rfl
theorem Lists.two {w : World} {b c : Nat} {x : Int} {T T' : TypeId} (h : w.heap[b]? = some (.cells #[.slice none 0 0, .slice (some ⟨c, 0, none⟩) 1 1] T (0, 0))) (hc : w.heap[c]? = some (.cells #[.int .i64 x] T' (0, 0))) : Lists w (.slice (some ⟨b, 0, none⟩) 2 2) [[], [x]] := by
  refine ⟨_, 2, rfl, by unfold maxLen; simp, fun _ => ⟨b, 0, rfl, fun i l hl => ?_⟩⟩
  match i, hl with
  | 0, hl => simp at hl; subst hl; exact ⟨.slice none 0 0, by rw [cell_of_blk h]; rfl, Ints.nil _⟩
  | 1, hl => simp at hl; subst hl; exact ⟨.slice (some ⟨c, 0, none⟩) 1 1, by rw [cell_of_blk h]; rfl, Ints.one hc⟩

set_option maxRecDepth 100000 in
set_option maxHeartbeats 2000000 in
theorem spaceExample_any (w : World) : Calls Try.prog 12 #[] w fun e w' => e = .returned (.bool true) ∧ Keeps (fun _ => False) w w' := by
  have KK0 := Lib.hid (Keeps.refl (fun _ => False) w)
  go_enter Try.func12, Try.ntmps12
  go_wp2_with fail
  refine (step_any _).mono ?_; rintro e x1 ⟨vi1, vg1, vo1, rfl, ht, hk⟩
  have HT := Lib.hid ht; have KX1 := Lib.hid (KK0.out.trans hk)
  clear ht hk KK0 
  go_wp2_with fail
  refine (explStep_any _ _ _ _ HT.out).mono ?_; rintro e y1 ⟨v1, rfl, hr, hk⟩
  obtain ⟨a1, c1, hv, _⟩ := hr.form
  subst hv
  have KA := (Keeps.refl (fun _ => False) y1).alloc (.cells #[.int .i64 0, .int .i64 0] 30)
  have KK1 := Lib.hid (KX1.out.trans (hk.trans KA)); have HF1 := Lib.hid (heap_alloc_new y1 (.cells #[.int .i64 0, .int .i64 0] 30)); have HV1 := Lib.hid (hr.keeps0 KA)
  clear hk KA HT KX1  hr
  simp only [fltV]
  go_upto_region 2 with fail
  generalize y1.alloc (.cells #[.int .i64 0, .int .i64 0] 30) = z1 at KK1 HF1 HV1 ⊢
  generalize y1.heap.size = b1 at HF1 ⊢
  go_wp2_with fail
  refine (step_any _).mono ?_; rintro e x2 ⟨vi2, vg2, vo2, rfl, ht, hk⟩
  have HT := Lib.hid ht; have KX2 := Lib.hid (KK1.out.trans hk); have HF1x := Lib.hid ((HF1.out |> fun h => (hk).heap h (fun h => h))); have HV1x := Lib.hid (HV1.out.keeps0 hk)
  clear ht hk KK1 HF1 HV1
  go_wp2_with fail
  refine (distStep_any _ _ _ _ HT.out).mono ?_; rintro e y2 ⟨v2, rfl, hr, hk⟩
  obtain ⟨a2, c2, hv, _⟩ := hr.form
  subst hv
  have KA := (Keeps.refl (fun _ => False) y2).alloc (.cells #[.int .i64 0, .int .i64 0] 30)
  have KK2 := Lib.hid (KX2.out.trans (hk.trans KA)); have HF2 := Lib.hid (heap_alloc_new y2 (.cells #[.int .i64 0, .int .i64 0] 30)); have HV2 := Lib.hid (hr.keeps0 KA); have HF1 := Lib.hid ((HF1x.out |> fun h => ((hk.trans KA)).heap h (fun h => h))); have HV1 := Lib.hid (HV1x.out.keeps0 (hk.trans KA))
  clear hk KA HT KX2 HF1x HV1x hr
  simp only [fltV]
  go_upto_region 3 with fail
  generalize y2.alloc (.cells #[.int .i64 0, .int .i64 0] 30) = z2 at KK2 HF1 HV1 HF2 HV2 ⊢
  generalize y2.heap.size = b2 at HF2 ⊢
  go_wp2_with fail
  refine (step_any _).mono ?_; rintro e x3 ⟨vi3, vg3, vo3, rfl, ht, hk⟩
  have HT := Lib.hid ht; have KX3 := Lib.hid (KK2.out.trans hk); have HF1x := Lib.hid ((HF1.out |> fun h => (hk).heap h (fun h => h))); have HV1x := Lib.hid (HV1.out.keeps0 hk); have HF2x := Lib.hid ((HF2.out |> fun h => (hk).heap h (fun h => h))); have HV2x := Lib.hid (HV2.out.keeps0 hk)
  clear ht hk KK2 HF1 HV1 HF2 HV2
  go_wp2_with fail
  refine (optStep_any _ _ _ _ HT.out).mono ?_; rintro e y3 ⟨rfl, hk⟩
  have KA := (Keeps.refl (fun _ => False) y3).alloc (.cells #[.int .i64 0, .int .i64 0] 30)
  have KK3 := Lib.hid (KX3.out.trans (hk.trans KA)); have HF3 := Lib.hid (heap_alloc_new y3 (.cells #[.int .i64 0, .int .i64 0] 30)); have HF1 := Lib.hid ((HF1x.out |> fun h => ((hk.trans KA)).heap h (fun h => h))); have HV1 := Lib.hid (HV1x.out.keeps0 (hk.trans KA)); have HF2 := Lib.hid ((HF2x.out |> fun h => ((hk.trans KA)).heap h (fun h => h))); have HV2 := Lib.hid (HV2x.out.keeps0 (hk.trans KA))
  clear hk KA HT KX3 HF1x HV1x HF2x HV2x 
  simp only [fltV]
  go_upto_region 4 with fail
  generalize y3.alloc (.cells #[.int .i64 0, .int .i64 0] 30) = z3 at KK3 HF1 HV1 HF2 HV2 HF3 ⊢
  generalize y3.heap.size = b3 at HF3 ⊢
  go_wp2_with fail
  refine (step_any _).mono ?_; rintro e x4 ⟨vi4, vg4, vo4, rfl, ht, hk⟩
  have HT := Lib.hid ht; have KX4 := Lib.hid (KK3.out.trans hk); have HF1x := Lib.hid ((HF1.out |> fun h => (hk).heap h (fun h => h))); have HV1x := Lib.hid (HV1.out.keeps0 hk); have HF2x := Lib.hid ((HF2.out |> fun h => (hk).heap h (fun h => h))); have HV2x := Lib.hid (HV2.out.keeps0 hk); have HF3x := Lib.hid ((HF3.out |> fun h => (hk).heap h (fun h => h)))
  clear ht hk KK3 HF1 HV1 HF2 HV2 HF3
  go_wp2_with fail
  refine (stepsStep_any _ _ _ _ HT.out).mono ?_; rintro e y4 ⟨v4, rfl, hr, hk⟩
  obtain ⟨a4, c4, hv, _⟩ := hr.form
  subst hv
  have KA := (Keeps.refl (fun _ => False) y4).alloc (.cells #[.int .i64 0, .int .i64 0] 30)
  have KK4 := Lib.hid (KX4.out.trans (hk.trans KA)); have HF4 := Lib.hid (heap_alloc_new y4 (.cells #[.int .i64 0, .int .i64 0] 30)); have HV4 := Lib.hid (hr.keeps0 KA); have HF1 := Lib.hid ((HF1x.out |> fun h => ((hk.trans KA)).heap h (fun h => h))); have HV1 := Lib.hid (HV1x.out.keeps0 (hk.trans KA)); have HF2 := Lib.hid ((HF2x.out |> fun h => ((hk.trans KA)).heap h (fun h => h))); have HV2 := Lib.hid (HV2x.out.keeps0 (hk.trans KA)); have HF3 := Lib.hid ((HF3x.out |> fun h => ((hk.trans KA)).heap h (fun h => h)))
  clear hk KA HT KX4 HF1x HV1x HF2x HV2x HF3x hr
  simp only [fltV]
  go_upto_region 5 with fail
  generalize y4.alloc (.cells #[.int .i64 0, .int .i64 0] 30) = z4 at KK4 HF1 HV1 HF2 HV2 HF3 HF4 HV4 ⊢
  generalize y4.heap.size = b4 at HF4 ⊢
  obtain ⟨p1, q1, r1, s1, l1⟩ := pair_cells HF1.out
  clear r1 s1
  obtain ⟨p2, q2, r2, s2, l2⟩ := pair_cells HF2.out
  clear r2 s2
  obtain ⟨p3, q3, r3, s3, l3⟩ := pair_cells HF3.out
  clear r3 s3
  obtain ⟨p4, q4, r4, s4, l4⟩ := pair_cells HF4.out
  clear r4 s4
  have KB := ((Keeps.refl (fun _ => False) z4).alloc (.cells #[.int .i64 0] 3)).alloc (.cells #[.slice none 0 0, .slice (some ⟨z4.heap.size, 0, none⟩) 1 1] 22)
  have HL := Lib.hid (show Lists _ (.slice (some ⟨z4.heap.size + 1, 0, none⟩) 2 2) [[], [0]] from Lists.two (x := 0) (by
    have h := heap_alloc_new (z4.alloc (.cells #[.int .i64 0] 3)) (.cells #[.slice none 0 0, .slice (some ⟨z4.heap.size, 0, none⟩) 1 1] 22)
    rw [World.size_alloc] at h; exact h)
    (((Keeps.refl (fun _ => False) (z4.alloc (.cells #[.int .i64 0] 3))).alloc (.cells #[.slice none 0 0, .slice (some ⟨z4.heap.size, 0, none⟩) 1 1] 22)).heap (heap_alloc_new z4 (.cells #[.int .i64 0] 3)) (fun h => h)))
  go_wp2_with fail
  refine (lists_any _ _ _ [[], [0]] [[], [0]] (HV1.out.keeps0 KB) HL.out).mono ?_; rintro e u1 ⟨rfl, hk⟩
  have K1 := Lib.hid (KK4.out.trans (KB.trans hk)); have G2 := Lib.hid (HV2.out.keeps0 (KB.trans hk)); have G4 := Lib.hid (HV4.out.keeps0 (KB.trans hk))
  clear KB HL hk
  have KC := (Keeps.refl (fun _ => False) u1).alloc (.cells #[.int .i64 3, .int .i64 0] 3)
  have HC := Lib.hid (Ints.two (heap_alloc_new u1 (.cells #[.int .i64 3, .int .i64 0] 3)))
  have e1 : (([[], [0]] : List (List Int)) == [[], [0]]) = true := by decide
  rw [e1]
  go_wp2_with fail
  refine (ints_any _ _ _ [3, 0] [3, 0] (G2.out.keeps0 KC) HC.out).mono ?_; rintro e u2 ⟨rfl, hk⟩
  have K2 := Lib.hid (K1.out.trans (KC.trans hk)); have G5 := Lib.hid (G4.out.keeps0 (KC.trans hk))
  clear KC HC hk
  have KC := (Keeps.refl (fun _ => False) u2).alloc (.cells #[.int .i64 0, .int .i64 1] 3)
  have HC := Lib.hid (Ints.two (heap_alloc_new u2 (.cells #[.int .i64 0, .int .i64 1] 3)))
  have e2 : (([3, 0] : List Int) == [3, 0]) = true := by decide
  rw [e2]
  go_wp2_with fail
  refine (ints_any _ _ _ [0, 1] [0, 1] (G5.out.keeps0 KC) HC.out).mono ?_; rintro e u3 ⟨rfl, hk⟩
  have K3 := Lib.hid (K2.out.trans (KC.trans hk))
  clear KC HC hk
  have e3 : (([0, 1] : List Int) == [0, 1]) = true := by decide
  rw [e3]
  go_wp2_with fail
  go_ret
  exact ⟨rfl, K3.out⟩

end Go.Proofs.Ytdonadeodioplaa

/- space: the law that the functions are the reference's. -/
namespace Go.Proofs.Ytdonadeodioplaa
open Go.RowKit

theorem exp_cases (t : Tsk) : (∃ c i, c ≠ 0 ∧ expF t = (c, i)) ∨ (t.Ok ∧ ∃ l, explored t = some l ∧ expF t = (0, 0)) := by
  unfold expF
  by_cases h : (taskFault t).1 = 0
  · rw [if_pos h]
    cases hx : explored t with
    | none => exact .inl ⟨10, -7, by decide, rfl⟩
    | some l => exact .inr ⟨taskFault_zero.1 h, l, rfl, rfl⟩
  · rw [if_neg h]
    exact .inl ⟨_, _, h, rfl⟩
theorem exp_none {t : Tsk} {c i : Int} (hc : c ≠ 0) (he : expF t = (c, i)) {l : List Nat} (ok : t.Ok) (hx : explored t = some l) : False := by
  unfold expF at he
  rw [if_pos (taskFault_zero.2 ok), hx] at he
  cases he; exact hc rfl

section
variable {w : World} {vi vg vo : Value} {t : Tsk}
theorem explore_bad (h : TaskAt w vi vg vo t) {c i : Int} (hc : c ≠ 0) (he : expF t = (c, i)) :
    Calls Try.prog 14 #[.agg #[.int .i64 t.n, vi, vg, vo]] w fun e w' => e = .returned (.tuple #[.slice none 0 0, fltV c i]) ∧ Keeps (fun _ => False) w w' := by
  refine (explore_any w vi vg vo t h).mono ?_
  rintro e w' ⟨hk, ⟨c', i', _, he', rfl⟩ | ⟨ok, l, ws, v, h1, _⟩⟩
  · rw [he] at he'; cases he'; exact ⟨rfl, hk⟩
  · exact (exp_none hc he ok h1).elim
theorem distances_bad (h : TaskAt w vi vg vo t) {c i : Int} (hc : c ≠ 0) (he : expF t = (c, i)) :
    Calls Try.prog 15 #[.agg #[.int .i64 t.n, vi, vg, vo]] w fun e w' => e = .returned (.tuple #[.slice none 0 0, fltV c i]) ∧ Keeps (fun _ => False) w w' := by
  refine (distances_any w vi vg vo t h).mono ?_
  rintro e w' ⟨hk, ⟨c', i', _, he', rfl⟩ | ⟨ok, l, ws, v, D, h1, _⟩⟩
  · rw [he] at he'; cases he'; exact ⟨rfl, hk⟩
  · exact (exp_none hc he ok h1).elim
theorem optimal_bad (h : TaskAt w vi vg vo t) {c i : Int} (hc : c ≠ 0) (he : expF t = (c, i)) :
    Calls Try.prog 21 #[.agg #[.int .i64 t.n, vi, vg, vo]] w fun e w' => e = .returned (.tuple #[.int .i64 0, fltV c i]) ∧ Keeps (fun _ => False) w w' := by
  refine (optimal_any w vi vg vo t h).mono ?_
  rintro e w' ⟨hk, ⟨c', i', _, he', rfl⟩ | ⟨ok, l, ws, D, h1, _⟩⟩
  · rw [he] at he'; cases he'; exact ⟨rfl, hk⟩
  · exact (exp_none hc he ok h1).elim
theorem spsteps_bad (h : TaskAt w vi vg vo t) {c i : Int} (hc : c ≠ 0) (he : expF t = (c, i)) :
    Calls Try.prog 22 #[.agg #[.int .i64 t.n, vi, vg, vo]] w fun e w' => e = .returned (.tuple #[.slice none 0 0, fltV c i]) ∧ Keeps (fun _ => False) w w' := by
  refine (spsteps_any w vi vg vo t h).mono ?_
  rintro e w' ⟨hk, ⟨c', i', _, he', rfl⟩ | ⟨ok, l, ws, v, j, h1, _⟩⟩
  · rw [he] at he'; cases he'; exact ⟨rfl, hk⟩
  · exact (exp_none hc he ok h1).elim

/-- The sorted states of a task. -/
def WsOf (_t : Tsk) (l ws : List Nat) : Prop := ws.Perm l ∧ ws.Pairwise ordW
theorem WsOf.same {l a b : List Nat} (ok : t.Ok) (hx : explored t = some l) (ha : WsOf t l a) (hb : WsOf t l b) : a = b :=
  sorted_same (ha.1.trans hb.1.symm) ha.2 hb.2 (costs_need ok hx ha.1).2.2.2.2.2.1

theorem explore_good (h : TaskAt w vi vg vo t) (ok : t.Ok) {l : List Nat} (hx : explored t = some l) :
    Calls Try.prog 14 #[.agg #[.int .i64 t.n, vi, vg, vo]] w fun e w' => ∃ ws v, WsOf t l ws ∧ e = .returned (.tuple #[v, fltV 0 0]) ∧ Lists w' v (ws.map facts) ∧ Keeps (fun _ => False) w w' := by
  refine (explore_any w vi vg vo t h).mono ?_
  rintro e w' ⟨hk, ⟨c', i', hc, he', rfl⟩ | ⟨_, l', ws, v, h1, h2, h3, rfl, h4⟩⟩
  · exact (exp_none hc he' ok hx).elim
  · rw [hx] at h1; cases h1
    exact ⟨ws, v, ⟨h2, h3⟩, rfl, h4, hk⟩
theorem distances_good (h : TaskAt w vi vg vo t) (ok : t.Ok) {l ws : List Nat} (hx : explored t = some l) (hw : WsOf t l ws) :
    Calls Try.prog 15 #[.agg #[.int .i64 t.n, vi, vg, vo]] w fun e w' => ∃ v D, e = .returned (.tuple #[v, fltV 0 0]) ∧ CostOk (arcs (wordsOf t.ops) ws) (ws.map (goalB (wd t.goal))) (ws.map D) ∧ Ints w' v (ws.map D) ∧ Keeps (fun _ => False) w w' := by
  refine (distances_any w vi vg vo t h).mono ?_
  rintro e w' ⟨hk, ⟨c', i', hc, he', rfl⟩ | ⟨_, l', ws', v, D, h1, h2, h3, h4, rfl, h5⟩⟩
  · exact (exp_none hc he' ok hx).elim
  · rw [hx] at h1; cases h1
    have := WsOf.same ok hx ⟨h2, h3⟩ hw; subst this
    exact ⟨v, D, rfl, h4, h5, hk⟩
theorem optimal_good (h : TaskAt w vi vg vo t) (ok : t.Ok) {l ws : List Nat} (hx : explored t = some l) (hw : WsOf t l ws) :
    Calls Try.prog 21 #[.agg #[.int .i64 t.n, vi, vg, vo]] w fun e w' => ∃ D : Nat → Int, e = .returned (.tuple #[.int .i64 (D (wd t.init)), fltV 0 0]) ∧ CostOk (arcs (wordsOf t.ops) ws) (ws.map (goalB (wd t.goal))) (ws.map D) ∧ Keeps (fun _ => False) w w' := by
  refine (optimal_any w vi vg vo t h).mono ?_
  rintro e w' ⟨hk, ⟨c', i', hc, he', rfl⟩ | ⟨_, l', ws', D, h1, h2, h3, h4, rfl⟩⟩
  · exact (exp_none hc he' ok hx).elim
  · rw [hx] at h1; cases h1
    have := WsOf.same ok hx ⟨h2, h3⟩ hw; subst this
    exact ⟨D, rfl, h4, hk⟩
theorem spsteps_good (h : TaskAt w vi vg vo t) (ok : t.Ok) {l ws : List Nat} (hx : explored t = some l) (hw : WsOf t l ws) :
    Calls Try.prog 22 #[.agg #[.int .i64 t.n, vi, vg, vo]] w fun e w' => ∃ v i, e = .returned (.tuple #[v, fltV 0 0]) ∧ (tree (wordsOf t.ops) (wd t.init) i).length ≤ i ∧ Ints w' v (ws.map (depT (tree (wordsOf t.ops) (wd t.init) i))) ∧ Keeps (fun _ => False) w w' := by
  refine (spsteps_any w vi vg vo t h).mono ?_
  rintro e w' ⟨hk, ⟨c', i', hc, he', rfl⟩ | ⟨_, l', ws', v, i, h1, h2, h3, h4, rfl, h5⟩⟩
  · exact (exp_none hc he' ok hx).elim
  · rw [hx] at h1; cases h1
    have := WsOf.same ok hx ⟨h2, h3⟩ hw; subst this
    exact ⟨v, i, rfl, h4, h5, hk⟩
end

theorem WsOf.good {t : Tsk} (ok : t.Ok) {l ws : List Nat} (hx : explored t = some l) (hw : WsOf t l ws) : (∀ x ∈ ws, Good t.n x) ∧ (∃ k : Nat, ws[k]? = some (wd t.init) ∧ placeL (ws.map facts) t.init = k) ∧ (∀ x, x ∈ ws ↔ Reach (wordsOf t.ops) (wd t.init) x) ∧ ∀ a ∈ arcs (wordsOf t.ops) ws, a.frm < ws.length ∧ a.to < ws.length ∧ 0 ≤ a.cost ∧ a.cost ≤ 100 := by
  have hn32 : t.n ≤ 32 := by have := ok.n1; omega
  have hr := (reached_some (ops := wordsOf t.ops) (s := wd t.init) (l := l) hx).2.2.2
  have hr2 : ∀ x, x ∈ ws ↔ Reach (wordsOf t.ops) (wd t.init) x := fun x => hw.1.mem_iff.trans (hr x)
  have hg : ∀ x ∈ ws, Good t.n x := fun x h => good_reach ok (good_wd hn32 ok.init) ((hr2 x).1 h)
  refine ⟨hg, ?_, hr2, fun a ha => ?_⟩
  · rcases place_mem hn32 hg ok.init with h | ⟨h, _⟩
    · exact h
    · exact absurd ((hr2 _).2 .refl) h
  · obtain ⟨x, o, h1, h2, h3, h4, h5⟩ := mem_arcs.1 ha
    refine ⟨(List.getElem?_eq_some_iff.1 h1).1, (List.getElem?_eq_some_iff.1 h5).1, ?_⟩
    rw [h4]
    have ho := List.mem_of_getElem? h2
    unfold wordsOf at ho
    obtain ⟨o', ho', rfl⟩ := List.mem_map.1 ho
    exact ⟨(ok.ops o' ho').cost0, (ok.ops o' ho').cost1⟩

end Go.Proofs.Ytdonadeodioplaa

/- space: SpaceFunctionsMatchSpec walked. -/
namespace Go.Proofs.Ytdonadeodioplaa
open Go.RowKit

end Go.Proofs.Ytdonadeodioplaa

namespace Go.Proofs.Ytdonadeodioplaa

def bestC (D : Nat → Int) (x : Nat) (l : List Wop) : Int := l.foldl (fun b o => if o.can x = true then min b (o.cost + D (o.next x)) else b) bigC
theorem bestC_nil (D : Nat → Int) (x : Nat) : bestC D x [] = bigC := rfl
theorem bestC_snoc (D : Nat → Int) (x : Nat) (l : List Wop) (o : Wop) : bestC D x (l ++ [o]) = if o.can x = true then min (bestC D x l) (o.cost + D (o.next x)) else bestC D x l := by
  unfold bestC; rw [List.foldl_append]; rfl
theorem bestC_spec (D : Nat → Int) (x : Nat) : ∀ (n : Nat) (l : List Wop), l.length = n → bestC D x l ≤ bigC ∧ (∀ o ∈ l, o.can x = true → bestC D x l ≤ o.cost + D (o.next x)) ∧ ∀ z, z ≤ bigC → (∀ o ∈ l, o.can x = true → z ≤ o.cost + D (o.next x)) → z ≤ bestC D x l
  | 0, l, h => by
    have : l = [] := List.length_eq_zero_iff.1 h
    subst this
    exact ⟨Int.le_refl _, fun o ho => (by cases ho), fun z hz _ => hz⟩
  | n + 1, l, h => by
    have hne : l ≠ [] := by intro e; subst e; cases h
    obtain ⟨q, o, rfl⟩ : ∃ q o, l = q ++ [o] := ⟨l.dropLast, l.getLast hne, (List.dropLast_concat_getLast hne).symm⟩
    obtain ⟨h1, h2, h3⟩ := bestC_spec D x n q (by simpa using h)
    rw [bestC_snoc]
    by_cases hc : o.can x = true
    · rw [if_pos hc]
      refine ⟨by omega, fun o' ho' hc' => ?_, fun z hz hall => ?_⟩
      · rcases List.mem_append.1 ho' with ho' | ho'
        · have := h2 o' ho' hc'; omega
        · simp at ho'; subst ho'; omega
      · have e1 := h3 z hz (fun o' ho' hc' => hall o' (List.mem_append_left _ ho') hc')
        have e2 := hall o (by simp) hc
        omega
    · rw [if_neg hc]
      refine ⟨h1, fun o' ho' hc' => ?_, fun z hz hall => h3 z hz (fun o' ho' hc' => hall o' (List.mem_append_left _ ho') hc')⟩
      rcases List.mem_append.1 ho' with ho' | ho'
      · exact h2 o' ho' hc'
      · simp at ho'; subst ho'; exact absurd hc' hc

theorem dist_best {ops : List Wop} {L : List Nat} (hsh : Shut ops L) {acc : Nat → Bool} {D : Nat → Int} (h : CostOk (arcs ops L) (L.map acc) (L.map D)) (h0 : ∀ o ∈ ops, 0 ≤ o.cost) {x : Nat} (hx : x ∈ L) :
    D x = if acc x = true then 0 else bestC D x ops := by
  have hA : ∀ a ∈ arcs ops L, 0 ≤ a.cost := fun a ha => by
    obtain ⟨y, o, _, h2, _, h4, _⟩ := mem_arcs.1 ha
    rw [h4]; exact h0 o (List.mem_of_getElem? h2)
  obtain ⟨i, hi⟩ := List.mem_iff_getElem?.1 hx
  by_cases ha : acc x = true
  · rw [if_pos ha]
    have h1 := h.zero i (by rw [List.getElem?_map, hi]; simp [ha])
    rw [List.getElem?_map, hi] at h1
    simpa using h1
  · rw [if_neg ha]
    have hlo := h.lo (D x) (List.mem_map.2 ⟨x, hx, rfl⟩)
    obtain ⟨b1, b2, b3⟩ := bestC_spec D x _ ops rfl
    refine Int.le_antisymm (b3 _ hlo.2 (fun o ho hc => ?_)) ?_
    · have hy := hsh.2 x hx o ho hc
      by_cases hb : D (o.next x) < bigC
      · obtain ⟨j, hj⟩ := List.mem_iff_getElem?.1 hy
        obtain ⟨k, hk⟩ := List.mem_iff_getElem?.1 ho
        obtain ⟨z, hz, hle⟩ := h.relax ⟨i, j, k, o.cost⟩ (mem_arcs.2 ⟨x, o, hi, hk, hc, rfl, hj⟩) (D (o.next x)) (by rw [List.getElem?_map, hj]; rfl) hb
        rw [List.getElem?_map, hi] at hz
        simp only [Option.map_some, Option.some.injEq] at hz
        simp only at hle
        omega
      · have := h0 o ho; omega
    · by_cases hb : D x < bigC
      · rcases CostInv.down_inv (h.real i (D x) (by rw [List.getElem?_map, hi]; rfl) hb) with ⟨h1, _⟩ | ⟨a, ha', hf, c, hc, he⟩
        · rw [List.getElem?_map, hi] at h1
          simp at h1
          exact absurd h1 ha
        · obtain ⟨y, o, h1, h2, h3, h4, h5⟩ := mem_arcs.1 ha'
          rw [hf, hi] at h1
          cases h1
          have hac := hA a ha'
          obtain ⟨_, hd⟩ := h.down hA hc
          obtain ⟨z, hz, hzc⟩ := hd (by omega)
          rw [List.getElem?_map, h5] at hz
          simp only [Option.map_some, Option.some.injEq] at hz
          have := b2 o (List.mem_of_getElem? h2) h3
          omega
      · omega

end Go.Proofs.Ytdonadeodioplaa

namespace Go.Proofs.Ytdonadeodioplaa

/-! ### sets -/
theorem compact_sorted (d : Array Int) (hs : ∀ i j, i ≤ j → j < d.size → d[i]! ≤ d[j]!) : ∀ m, m ≤ d.size →
    (Lib.compactUpTo d m).Pairwise (· < ·) ∧ (∀ x, x ∈ Lib.compactUpTo d m ↔ ∃ j, j < m ∧ d[j]! = x)
  | 0, _ => ⟨by simp [Lib.compactUpTo], fun x => by simp [Lib.compactUpTo]⟩
  | m + 1, hm => by
    obtain ⟨h1, h2⟩ := compact_sorted d hs m (by omega)
    rw [Lib.compactUpTo_succ]
    by_cases hk : Lib.keeps d m = true
    · rw [if_pos hk]
      have hlt : ∀ x ∈ Lib.compactUpTo d m, x < d[m]! := fun x hx => by
        obtain ⟨j, hj, rfl⟩ := (h2 x).1 hx
        have e1 := hs j (m - 1) (by omega) (by omega)
        have e2 := hs (m - 1) m (by omega) (by omega)
        have e3 : d[m]! ≠ d[m - 1]! := by
          unfold Lib.keeps at hk
          rcases of_decide_eq_true hk with h | h
          · omega
          · exact h
        omega
      refine ⟨List.pairwise_append.2 ⟨h1, by simp, fun a ha b hb => by rw [List.mem_singleton] at hb; subst hb; exact hlt a ha⟩, fun x => ?_⟩
      rw [List.mem_append, h2, List.mem_singleton]
      constructor
      · rintro (⟨j, hj, e⟩ | h)
        · exact ⟨j, by omega, e⟩
        · exact ⟨m, by omega, h.symm⟩
      · rintro ⟨j, hj, e⟩
        by_cases hjm : j = m
        · subst hjm; exact .inr e.symm
        · exact .inl ⟨j, by omega, e⟩
    · have hk' : m ≠ 0 ∧ d[m]! = d[m - 1]! := by
        unfold Lib.keeps at hk
        rw [decide_eq_true_eq] at hk
        exact ⟨fun h => hk (.inl h), Decidable.byContradiction fun h => hk (.inr h)⟩
      rw [if_neg hk, List.append_nil]
      refine ⟨h1, fun x => ?_⟩
      rw [h2]
      constructor
      · rintro ⟨j, hj, e⟩; exact ⟨j, by omega, e⟩
      · rintro ⟨j, hj, e⟩
        by_cases hjm : j = m
        · subst hjm; exact ⟨j - 1, by omega, by rw [← hk'.2]; exact e⟩
        · exact ⟨j, by omega, e⟩

theorem compact_list {l : List Int} (hs : l.Pairwise (· ≤ ·)) : (Lib.compact l).Pairwise (· < ·) ∧ ∀ x, x ∈ Lib.compact l ↔ x ∈ l := by
  have hs' : ∀ i j, i ≤ j → j < l.toArray.size → l.toArray[i]! ≤ l.toArray[j]! := fun i j hij hj => by
    have hj' : j < l.length := by simpa using hj
    rw [getElem!_pos l.toArray i (by simp; omega), getElem!_pos l.toArray j hj]
    simp only [List.getElem_toArray]
    rcases Nat.lt_or_ge i j with h | h
    · exact List.pairwise_iff_getElem.1 hs i j (by omega) hj' h
    · have : i = j := by omega
      subst this; exact Int.le_refl _
  obtain ⟨h1, h2⟩ := compact_sorted l.toArray hs' l.length (by simp)
  have e : Lib.compact l = Lib.compactUpTo l.toArray l.length := by unfold Lib.compact; simp
  rw [e]
  refine ⟨h1, fun x => ?_⟩
  rw [h2]
  constructor
  · rintro ⟨j, hj, rfl⟩
    rw [getElem!_pos l.toArray j (by simpa using hj)]
    simp
  · intro h
    obtain ⟨j, hj, e⟩ := List.mem_iff_getElem.1 h
    exact ⟨j, hj, by rw [getElem!_pos l.toArray j (by simpa using hj)]; simpa using e⟩

def preL (s add del : List Int) : List Int := (s.filter fun x => !decide (x ∈ del)) ++ add
def updL (s add del : List Int) : List Int := Lib.compact ((preL s add del).mergeSort fun x y => decide (x ≤ y))
theorem sort_sorted (l : List Int) : (l.mergeSort fun x y => decide (x ≤ y)).Pairwise (· ≤ ·) := by
  have := List.pairwise_mergeSort (le := fun x y : Int => decide (x ≤ y)) (fun a b c h1 h2 => by simp at *; omega) (fun a b => by simp; omega) l
  exact this.imp (fun h => by simpa using h)
theorem updL_spec (s add del : List Int) : (updL s add del).Pairwise (· < ·) ∧ ∀ x, x ∈ updL s add del ↔ (x ∈ s ∧ x ∉ del) ∨ x ∈ add := by
  obtain ⟨h1, h2⟩ := compact_list (sort_sorted (preL s add del))
  refine ⟨h1, fun x => ?_⟩
  unfold updL
  rw [h2, List.mem_mergeSort, preL, List.mem_append, List.mem_filter]
  simp
theorem updL_aftL {n : Int} {o : Opr} {s : List Int} (hs : isSetB s n = true) (ha : isSetB o.add n = true) : updL s o.add o.del = aftL n o s := by
  obtain ⟨h1, h2⟩ := updL_spec s o.add o.del
  refine sorted_ext h1 (isSet_iff.1 (isSet_aftL n o s)).2 (fun x => ?_)
  rw [h2, mem_aftL]
  have a1 := (isSet_iff.1 hs).1
  have a2 := (isSet_iff.1 ha).1
  constructor
  · rintro (⟨h, hd⟩ | h)
    · exact ⟨a1 x h, .inr ⟨h, hd⟩⟩
    · exact ⟨a2 x h, .inl h⟩
  · rintro ⟨_, h | h⟩
    · exact .inr h
    · exact .inl h
theorem preL_len (s add del : List Int) : (preL s add del).length ≤ s.length + add.length := by
  unfold preL; rw [List.length_append]
  have := List.length_filter_le (fun x => !decide (x ∈ del)) s
  omega

/-! ### plans -/
/-- The states on the way of a plan, as far as it can be followed. -/
def playL (ops : List Wop) : Nat → List Nat → List Nat
  | x, [] => [x]
  | x, p :: r => match ops[p]? with
    | none => [x]
    | some o => if o.can x = true then x :: playL ops (o.next x) r else [x]
theorem playL_head (ops : List Wop) (x : Nat) (p : List Nat) : ∃ r, playL ops x p = x :: r := by
  cases p with
  | nil => exact ⟨[], rfl⟩
  | cons a r =>
    rw [playL]
    split
    · exact ⟨[], rfl⟩
    · split
      · exact ⟨_, rfl⟩
      · exact ⟨[], rfl⟩
theorem playL_app {ops : List Wop} : ∀ {q : List Nat} {x y : Nat} (r : List Nat), runOps ops x q = some y → playL ops x (q ++ r) = playL ops x q ++ (playL ops y r).tail
  | [], x, y, r, h => by
    cases h
    obtain ⟨l, hl⟩ := playL_head ops x r
    simp [playL, hl]
  | a :: q, x, y, r, h => by
    rw [runOps] at h
    cases ho : ops[a]? with
    | none => rw [ho] at h; cases h
    | some o =>
      rw [ho] at h
      simp only at h
      by_cases hc : o.can x = true
      · rw [if_pos hc] at h
        rw [List.cons_append, playL, playL, ho]
        simp only [hc, if_true]
        rw [playL_app r h, List.cons_append]
      · rw [if_neg hc] at h; cases h
theorem playL_go {ops : List Wop} {q : List Nat} {x y a : Nat} {o : Wop} (h : runOps ops x q = some y) (ho : ops[a]? = some o) (hc : o.can y = true) : playL ops x (q ++ [a]) = playL ops x q ++ [o.next y] := by
  rw [playL_app _ h]; simp [playL, ho, hc]
theorem playL_stuck {ops : List Wop} {q : List Nat} {x y a : Nat} {o : Wop} (r : List Nat) (h : runOps ops x q = some y) (ho : ops[a]? = some o) (hc : o.can y = false) : playL ops x (q ++ a :: r) = playL ops x q := by
  rw [playL_app _ h]; simp [playL, ho, hc]
theorem playL_run {ops : List Wop} : ∀ {p : List Nat} {x y : Nat}, runOps ops x p = some y → (playL ops x p).length = p.length + 1 ∧ (playL ops x p)[p.length]? = some y
  | [], x, y, h => by cases h; simp [playL]
  | a :: p, x, y, h => by
    rw [runOps] at h
    cases ho : ops[a]? with
    | none => rw [ho] at h; cases h
    | some o =>
      rw [ho] at h
      simp only at h
      by_cases hc : o.can x = true
      · rw [if_pos hc] at h
        obtain ⟨h1, h2⟩ := playL_run h
        rw [playL, ho]
        simp only [hc, if_true]
        exact ⟨by simp [h1], by simpa using h2⟩
      · rw [if_neg hc] at h; cases h
theorem playL_short {ops : List Wop} : ∀ {p : List Nat} {x : Nat}, runOps ops x p = none → (playL ops x p).length ≤ p.length
  | [], x, h => by cases h
  | a :: p, x, h => by
    rw [playL]
    cases ho : ops[a]? with
    | none => simp
    | some o =>
      simp only
      rw [runOps, ho] at h
      simp only at h
      by_cases hc : o.can x = true
      · rw [if_pos hc] at h ⊢
        have := playL_short h
        simp; omega
      · rw [if_neg hc]; simp

theorem playL_len (ops : List Wop) (x : Nat) (p : List Nat) : 1 ≤ (playL ops x p).length ∧ (playL ops x p).length ≤ p.length + 1 := by
  obtain ⟨r, hr⟩ := playL_head ops x p
  refine ⟨by rw [hr]; simp, ?_⟩
  cases h : runOps ops x p with
  | none => have := playL_short h; omega
  | some y => have := (playL_run h).1; omega

/-- A plan as natural numbers. -/
def natP (p : List Int) : List Nat := p.map Int.toNat
theorem natP_ints (p : List Nat) : natP (intsP p) = p := by
  unfold natP intsP
  rw [List.map_map]
  have : (Int.toNat ∘ fun n : Nat => (n : Int)) = id := by funext n; simp
  rw [this, List.map_id]

end Go.Proofs.Ytdonadeodioplaa

namespace Go.Proofs.Ytdonadeodioplaa

def costN (ops : List Wop) : List Nat → Int
  | [] => 0
  | a :: r => ((ops[a]?.map Wop.cost).getD 0) + costN ops r
theorem costN_bound {ops : List Wop} (h : ∀ o ∈ ops, 0 ≤ o.cost ∧ o.cost ≤ 100) : ∀ p : List Nat, 0 ≤ costN ops p ∧ costN ops p ≤ 100 * (p.length : Int)
  | [] => by simp [costN]
  | a :: r => by
    have h2 := costN_bound h r
    rw [costN]
    cases ho : ops[a]? with
    | none => simp; omega
    | some o =>
      have h1 := h o (List.mem_of_getElem? ho)
      simp; omega

theorem down_of_run {ops : List Wop} {L : List Nat} (hsh : Shut ops L) {acc : Nat → Bool} : ∀ {p : List Nat} {x y i : Nat}, L[i]? = some x → runOps ops x p = some y → acc y = true → Down (arcs ops L) (L.map acc) i (costN ops p)
  | [], x, y, i, hi, hr, ha => by cases hr; exact .nil (by rw [List.getElem?_map, hi]; simp [ha])
  | a :: p, x, y, i, hi, hr, ha => by
    rw [runOps] at hr
    cases ho : ops[a]? with
    | none => rw [ho] at hr; cases hr
    | some o =>
      rw [ho] at hr; simp only at hr
      by_cases hc : o.can x = true
      · rw [if_pos hc] at hr
        have hm := hsh.2 x (List.mem_of_getElem? hi) o (List.mem_of_getElem? ho) hc
        obtain ⟨j, hj⟩ := List.mem_iff_getElem?.1 hm
        have hd := down_of_run hsh hj hr ha
        have := Down.cons (a := ⟨i, j, a, o.cost⟩) (mem_arcs.2 ⟨x, o, hi, ho, hc, rfl, hj⟩) hd
        rw [costN, ho]; exact this
      · rw [if_neg hc] at hr; cases hr

theorem run_of_down {ops : List Wop} {L : List Nat} {acc : Nat → Bool} {i : Nat} {c : Int} (h : Down (arcs ops L) (L.map acc) i c) : ∀ x, L[i]? = some x → ∃ p y, runOps ops x p = some y ∧ acc y = true := by
  induction h with
  | nil h =>
    intro x hx
    rw [List.getElem?_map, hx] at h
    exact ⟨[], x, rfl, by simpa using h⟩
  | cons ha _ ih =>
    intro x hx
    obtain ⟨x', o, h1, h2, h3, h4, h5⟩ := mem_arcs.1 ha
    rw [h1] at hx; cases hx
    obtain ⟨p, y, hp, hy⟩ := ih _ h5
    exact ⟨_ :: p, y, by rw [runOps, h2]; simp only [h3, if_true]; exact hp, hy⟩

section
variable {ops : List Wop} {L : List Nat} {acc : Nat → Bool} {D : Nat → Int}
theorem arcs_cost0 (h0 : ∀ o ∈ ops, 0 ≤ o.cost ∧ o.cost ≤ 100) : ∀ a ∈ arcs ops L, 0 ≤ a.cost := fun a ha => by
  obtain ⟨y, o, _, h2, _, h4, _⟩ := mem_arcs.1 ha
  rw [h4]; exact (h0 o (List.mem_of_getElem? h2)).1
theorem opt_low (h : CostOk (arcs ops L) (L.map acc) (L.map D)) {x : Nat} (hx : x ∈ L) : 0 ≤ D x ∧ D x ≤ bigC := h.lo (D x) (List.mem_map.2 ⟨x, hx, rfl⟩)
theorem opt_le (hsh : Shut ops L) (h : CostOk (arcs ops L) (L.map acc) (L.map D)) (h0 : ∀ o ∈ ops, 0 ≤ o.cost ∧ o.cost ≤ 100) {x y : Nat} {p : List Nat} (hx : x ∈ L) (hr : runOps ops x p = some y) (ha : acc y = true) (hp : p.length ≤ 1000) : D x ≤ costN ops p ∧ D x < bigC := by
  obtain ⟨i, hi⟩ := List.mem_iff_getElem?.1 hx
  have hb := costN_bound h0 p
  have hbig : bigC = 1000000000 := rfl
  obtain ⟨z, hz, hle⟩ := (h.down (arcs_cost0 h0) (down_of_run hsh hi hr ha)).2 (by omega)
  rw [List.getElem?_map, hi] at hz
  simp only [Option.map_some, Option.some.injEq] at hz
  omega
theorem opt_some (h : CostOk (arcs ops L) (L.map acc) (L.map D)) {x : Nat} (hx : x ∈ L) (hd : D x < bigC) : ∃ p y, runOps ops x p = some y ∧ acc y = true := by
  obtain ⟨i, hi⟩ := List.mem_iff_getElem?.1 hx
  exact run_of_down (h.real i (D x) (by rw [List.getElem?_map, hi]; rfl) hd) x hi
theorem opt_none (h : CostOk (arcs ops L) (L.map acc) (L.map D)) {x : Nat} (hx : x ∈ L) (hb : Best ops x acc none) : D x = bigC := by
  have h1 := opt_low h hx
  by_cases hd : D x < bigC
  · obtain ⟨p, y, hp, hy⟩ := opt_some h hx hd
    rw [hb p y hp] at hy; cases hy
  · omega

/-! ### the finite costs are small -/
def below (L : List Nat) (D : Nat → Int) (z : Int) : Nat := (L.filter fun y => decide (D y < z)).length
theorem below_le (L : List Nat) (D : Nat → Int) (z : Int) : below L D z ≤ L.length := List.length_filter_le _ _
theorem below_lt {L : List Nat} {D : Nat → Int} {y : Nat} {z : Int} (hy : y ∈ L) (h : D y < z) : below L D (D y) < below L D z := by
  unfold below
  induction L with
  | nil => cases hy
  | cons a r ih =>
    have mono : (r.filter fun b => decide (D b < D y)).length ≤ (r.filter fun b => decide (D b < z)).length := by
      clear ih hy
      induction r with
      | nil => simp
      | cons b r ih =>
        simp only [List.filter_cons]
        by_cases h1 : D b < D y
        · have h2 : D b < z := by omega
          simp [h1, h2]; exact ih
        · by_cases h2 : D b < z
          · simp [h1, h2]; omega
          · simp [h1, h2]; exact ih
    simp only [List.filter_cons]
    rcases List.mem_cons.1 hy with rfl | hy
    · simp [h]; omega
    · have := ih hy
      by_cases h1 : D a < D y
      · have h2 : D a < z := by omega
        simp [h1, h2]; exact this
      · by_cases h2 : D a < z
        · simp [h1, h2]; omega
        · simp [h1, h2]; exact this
theorem cost_small (h : CostOk (arcs ops L) (L.map acc) (L.map D)) (h0 : ∀ o ∈ ops, 0 ≤ o.cost ∧ o.cost ≤ 100) {i : Nat} {c : Int} (hd : Down (arcs ops L) (L.map acc) i c) : ∀ x, L[i]? = some x → c = D x → c < bigC → c ≤ 100 * (below L D c : Int) := by
  induction hd with
  | nil _ => intro x _ _ _; omega
  | @cons a c ha hc ih =>
    intro x hx he hlt
    obtain ⟨x', o, h1, h2, h3, h4, h5⟩ := mem_arcs.1 ha
    rw [h1] at hx; cases hx
    have ho := h0 o (List.mem_of_getElem? h2)
    obtain ⟨hc0, hcd⟩ := h.down (arcs_cost0 h0) hc
    obtain ⟨z, hz, hzc⟩ := hcd (by omega)
    rw [List.getElem?_map, h5] at hz
    simp only [Option.map_some, Option.some.injEq] at hz
    obtain ⟨u, hu, hul⟩ := h.relax a ha z (by rw [List.getElem?_map, h5, ← hz]; rfl) (by omega)
    rw [List.getElem?_map, h1] at hu
    simp only [Option.map_some, Option.some.injEq] at hu
    have hcz : c = D (o.next x) := by omega
    have := ih _ h5 hcz (by omega)
    by_cases hz0 : a.cost = 0
    · rw [hz0]; simp only [Int.zero_add]; exact this
    · have hb := below_lt (L := L) (D := D) (z := a.cost + c) (List.mem_of_getElem? h5) (by omega)
      rw [← hcz] at hb
      omega
theorem opt_small (h : CostOk (arcs ops L) (L.map acc) (L.map D)) (h0 : ∀ o ∈ ops, 0 ≤ o.cost ∧ o.cost ≤ 100) {x : Nat} (hx : x ∈ L) (hd : D x < bigC) : D x ≤ 100 * (L.length : Int) := by
  obtain ⟨i, hi⟩ := List.mem_iff_getElem?.1 hx
  have h1 := cost_small h h0 (h.real i (D x) (by rw [List.getElem?_map, hi]; rfl) hd) x hi rfl hd
  have h2 := below_le L D (D x)
  omega
end

end Go.Proofs.Ytdonadeodioplaa
