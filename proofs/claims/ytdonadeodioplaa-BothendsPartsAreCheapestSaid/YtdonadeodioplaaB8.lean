/- The reference's Costs, walked. space.Distances, space.Optimal. Plans and the table of costs, in plain words. The least price of a plan, in plain Lean: what a search for best plans must find. A search from both ends, in plain Lean: what its two sides know, and that they have met on a best way when it ends. A search from both ends, in plain Lean: the way back from a state, the measure of the search, its start, and the best plan at its end. A search from both ends, in plain Lean: the state in the middle, and the costs of both parts. A search from both ends, in plain Lean: the arcs of both sides. strips.Contains, Update, Can, Next. strips.Solves, Cost, Play. breadth: BreadthAgreesWithSteps walked. novelty.search: what the round knows. No condition beyond what each theorem says. -/
import Derived.Test.YtdonadeodioplaaB5
import Derived.Test.YtdonadeodioplaaB7
import Derived.Lib.SlicesCompact
import Derived.Sort.OwnSortedInts
import Derived.Test.YtdonadeodioplaaB1
import Derived.Test.YtdonadeodioplaaB3
import Derived.Test.YtdonadeodioplaaB4

namespace Go.Proofs.Ytdonadeodioplaa
open Go.RowKit

theorem at_new {W : World} {v : Value} {gg n c : Nat} (hat : v.ownBlock = some gg ∨ gg = W.heap.size + 1) : ∀ k, (Value.slice (some ⟨gg, 0, none⟩) n c).ownBlock = some k → v.ownBlock = some k ∨ W.heap.size ≤ k := by
  intro k hk
  simp [Value.ownBlock] at hk
  subst hk
  rcases hat with h | h
  · exact .inl h
  · exact .inr (by omega)

def outL (t : Tsk) (L : List Nat) (i : Nat) : List Value := (costStart ((L.take i).map (goalW t))).map (Value.int .i64)
def wordL (L : List Nat) (i : Nat) : List Value := (L.take i).map fun x : Nat => Value.int .i64 (x : Int)
theorem len_outL (t : Tsk) {L : List Nat} {i : Nat} (h : i ≤ L.length) : (outL t L i).length = i := by unfold outL costStart; simp; omega
theorem len_wordL {L : List Nat} {i : Nat} (h : i ≤ L.length) : (wordL L i).length = i := by unfold wordL; simp; omega
theorem outL_succ (t : Tsk) {L : List Nat} {i x : Nat} (h : L[i]? = some x) : outL t L (i + 1) = outL t L i ++ [.int .i64 (if goalW t x = true then 0 else bigC)] := by
  unfold outL costStart; rw [take_getS h]; simp
theorem wordL_succ {L : List Nat} {i x : Nat} (h : L[i]? = some x) : wordL L (i + 1) = wordL L i ++ [.int .i64 (x : Int)] := by
  unfold wordL; rw [take_getS h]; simp
def frmL (A : List Arc) : List Value := A.map fun a => Value.int .i64 (a.frm : Int)
def toL (A : List Arc) : List Value := A.map fun a => Value.int .i64 (a.to : Int)
def costsA (A : List Arc) : List Value := A.map fun a => Value.int .i64 a.cost
theorem len_frmL (A : List Arc) : (frmL A).length = A.length := by unfold frmL; simp
theorem len_toL (A : List Arc) : (toL A).length = A.length := by unfold toL; simp
theorem len_costsA (A : List Arc) : (costsA A).length = A.length := by unfold costsA; simp

/-- The three rows of the arcs. -/
structure ARows (w2 : World) (A : List Arc) (v8 v9 v10 : Value) (wr : World) : Prop where
  rows : Rws w2.heap.size wr [(v8, frmL A), (v9, toL A), (v10, costsA A)]
  keeps : Keeps (fun _ => False) w2 wr
theorem ARows.own {w2 : World} {A : List Arc} {v8 v9 v10 : Value} {wr : World} (h : ARows w2 A v8 v9 v10 wr) :
    wr.ownsRow w2.heap.size 3 1 v8 A.length (frmL A) ∧ wr.ownsRow w2.heap.size 3 1 v9 A.length (toL A) ∧ wr.ownsRow w2.heap.size 3 1 v10 A.length (costsA A) := by
  have h1 := h.rows.own (v8, frmL A) (by simp)
  have h2 := h.rows.own (v9, toL A) (by simp)
  have h3 := h.rows.own (v10, costsA A) (by simp)
  simp only [len_frmL, len_toL, len_costsA] at h1 h2 h3
  exact ⟨h1, h2, h3⟩
theorem ARows.keeps0 {w2 : World} {A : List Arc} {v8 v9 v10 : Value} {wr wq : World} (h : ARows w2 A v8 v9 v10 wr) (hk : Keeps (fun _ => False) wr wq) : ARows w2 A v8 v9 v10 wq := ⟨h.rows.keeps0 hk, h.keeps.trans hk⟩

/-- A row of ints that is stored into. -/
structure ORow (w1 w3 : World) (g n cap : Nat) (d : List Int) (wq : World) : Prop where
  own : wq.ownsRow w1.heap.size 3 1 (.slice (some ⟨g, 0, none⟩) n cap) n (d.map (Value.int .i64))
  keeps : Keeps (fun b => b = g) w3 wq
theorem ORow.len {w1 w3 : World} {g n cap : Nat} {d : List Int} {wq : World} (h : ORow w1 w3 g n cap d wq) : d.length = n := by simpa using h.own.1
theorem ORow.set {w1 w3 : World} {g n cap : Nat} {d : List Int} {wq : World} (h : ORow w1 w3 g n cap d wq) (i : Nat) (z : Int) : ORow w1 w3 g n cap (d.set i z) (wq.setCell ⟨g, i, none⟩ (.int .i64 z)) := by
  refine ⟨?_, h.keeps.setCell (p := ⟨g, i, none⟩) (.inl rfl) _⟩
  have := (h.own.stored i (.int .i64 z)).1
  rw [List.map_set]
  exact this
theorem ORow.cell {w1 w3 : World} {g n cap : Nat} {d : List Int} {wq : World} (h : ORow w1 w3 g n cap d wq) {i : Nat} {x : Int} (hx : d[i]? = some x) : wq.cell? ⟨g, i, none⟩ = some (.int .i64 x) := by
  have hl := (List.getElem?_eq_some_iff.1 hx).1
  rw [h.own.cellAt i (by rw [← h.len]; omega), List.getElem?_map, hx]; rfl
theorem ORow.frozen {w1 w3 : World} {g n cap : Nat} {d : List Int} {wq : World} (h : ORow w1 w3 g n cap d wq) (i : Nat) : wq.frozen? ⟨g, i, none⟩ = false := h.own.frozenAt i
theorem ORow.lt {w1 w3 : World} {g n cap : Nat} {d : List Int} {wq : World} (h : ORow w1 w3 g n cap d wq) : g < wq.heap.size := (World.ownsRow.lt h.own g rfl).2
theorem ORow.keeps0 {w1 w3 : World} {g n cap : Nat} {d : List Int} {wq wp : World} (h : ORow w1 w3 g n cap d wq) (hk : Keeps (fun _ => False) wq wp) : ORow w1 w3 g n cap d wp := ⟨hk.ownsRow h.own (fun _ _ h => h), h.keeps.trans (hk.mono (fun _ _ h => h.elim))⟩

def CHead (w1 w3 : World) (g cap : Nat) (A : List Arc) (acc : List Bool) (k : Nat) (v : Value) (wr : World) : Prop :=
  ∃ (d : List Int) (again : Bool), v = .bool again ∧ CostInv A acc d ∧ ORow w1 w3 g acc.length cap d wr ∧ (again = false → ∀ a ∈ A, stableC d a) ∧ k = 2 * weightC d + (if again = true then 1 else 0)
def CMid (w1 w3 : World) (g cap : Nat) (A : List Arc) (acc : List Bool) (m : Nat) (i : Nat) (v : Value) (wr : World) : Prop :=
  ∃ (d : List Int) (again : Bool), v = .bool again ∧ CostInv A acc d ∧ ORow w1 w3 g acc.length cap d wr ∧ (again = false → ∀ a ∈ A.take i, stableC d a) ∧ weightC d ≤ m ∧ (again = true → weightC d < m)
def RCostPost (w : World) (A : List Arc) (acc : List Bool) (e : Ending) (w' : World) : Prop :=
  ∃ v d, e = .returned v ∧ CostOk A acc d ∧ w'.ownsRow w.heap.size 3 1 v acc.length (d.map (Value.int .i64)) ∧ Keeps (fun _ => False) w w'
theorem stableC_of {d : List Int} {a : Arc} {x y : Int} (hx : d[a.frm]? = some x) (hy : d[a.to]? = some y) (h : ¬ y < bigC ∨ x ≤ y + a.cost) : stableC d a := by
  intro z hz h0
  rw [hy] at hz; cases hz
  rcases h with h | h
  · exact absurd h0 h
  · exact ⟨x, hx, h⟩
theorem stableC_take {d : List Int} {A : List Arc} {i : Nat} {a : Arc} (ha : A[i]? = some a) (hs : stableC d a) (h : ∀ b ∈ A.take i, stableC d b) : ∀ b ∈ A.take (i + 1), stableC d b := by
  intro b hb
  rw [take_getS ha] at hb
  rcases List.mem_append.1 hb with hb | hb
  · exact h b hb
  · simp at hb; subst hb; exact hs
theorem acells {w2 w3 : World} {A : List Arc} {v : Value} {xs : List Value} (h : w3.ownsRow w2.heap.size 3 1 v A.length xs) : ∀ {ao cap}, v = .slice ao A.length cap → 0 < A.length → ∃ b, ao = some ⟨b, 0, none⟩ ∧ w2.heap.size ≤ b ∧ ∀ j x, xs[j]? = some x → w3.cell? ⟨b, j, none⟩ = some x := by
  intro ao cap hv hpos
  obtain ⟨g, cap', hv', h1, h2⟩ := h.form hpos
  rw [hv'] at hv
  simp only [Value.slice.injEq] at hv
  obtain ⟨rfl, _, rfl⟩ := hv
  refine ⟨g, rfl, (World.ownsRow.lt h g (by rw [hv']; rfl)).1, fun j x hx => ?_⟩
  have := World.ownsRow.cells h (g := g) (by rw [hv']; rfl) j x hx
  have hadd : (⟨g, 0, none⟩ : Addr).add j = ⟨g, j, none⟩ := by unfold Addr.add; split <;> simp_all
  rwa [hadd] at this

set_option maxRecDepth 100000 in
set_option maxHeartbeats 8000000 in
theorem rcosts_any (w : World) (vi vg vo vl : Value) (t : Tsk) (L : List Nat) (h : TaskAt w vi vg vo t) (ok : t.Ok) (hl : Lists w vl (L.map facts)) (hg : ∀ x ∈ L, Good t.n x) (hfew : L.length ≤ 2000) (hpos : 0 < L.length) :
    Calls Try.prog 31 #[.agg #[.int .i64 t.n, vi, vg, vo], vl] w (RCostPost w (arcs (wordsOf t.ops) L) (L.map (goalW t))) := by
  obtain ⟨i0, hi0, hz0, hz1, hz2⟩ := info_parts Try.info3
  obtain ⟨ai, ci, h1, _⟩ := h.init.form
  obtain ⟨ag, cg, h2, _⟩ := h.goal.form
  obtain ⟨ao, co, h3, hmo⟩ := h.ops.form
  obtain ⟨al, cl, h4, _⟩ := hl.form
  have hcl := hl.cell h4
  rw [List.length_map] at h4 hcl
  subst h1 h2 h3 h4
  have hn32 : t.n ≤ 32 := by have := ok.n1; omega
  have hoc := h.ops.cell rfl
  have HB := Lib.hid (Four.new w (.int .i64 t.n) (.slice ai t.init.length ci) (.slice ag t.goal.length cg) (.slice ao t.ops.length co) 25)
  have K1 := (Keeps.refl (fun _ => False) w).alloc (.cells #[.int .i64 t.n, .slice ai t.init.length ci, .slice ag t.goal.length cg, .slice ao t.ops.length co] 25)
  have HT := Lib.hid (h.keeps0 K1); have HCL := Lib.hid hcl; have HOC := Lib.hid hoc
  have HK := Lib.hid K1; have OK := Lib.hid ok; have HG := Lib.hid hg
  have hops : (wordsOf t.ops).length = t.ops.length := by unfold wordsOf; rw [List.length_map]
  have HOPS := Lib.hid hops
  have hfo := ok.few
  have HLE := Lib.hid (show ∀ i j k : Nat, i ≤ L.length → j ≤ t.ops.length → k ≤ L.length → ∀ (x : Nat) (c : Int) (y : Nat), (part2 (wordsOf t.ops) L i x j c y k).length ≤ 200000000 from fun i j k hi hj hk x c y => part2_le (wordsOf t.ops) L hfew (by rw [hops]; exact hfo) hi (by rw [hops]; exact hj) hk x c y)
  clear h hl hcl hoc K1 ok hg hops
  go_enter Try.func31, Try.ntmps31
  go_upto_region 1 with fail
  generalize (w.alloc (.cells #[.int .i64 t.n, .slice ai t.init.length ci, .slice ag t.goal.length cg, .slice ao t.ops.length co] 25)) = w1 at HB HT HK ⊢
  have hbx := HB.out.lt
  go_wp2_with fail
  go_loopw [5, 6, 7] (fun v5 v6 i7 wr => ∃ i : Nat, i ≤ L.length ∧ i7 = .int .i64 (i : Int) ∧ Rws w1.heap.size wr [(v5, outL t L i), (v6, wordL L i)] ∧ Keeps (fun _ => False) w1 wr) (fun _ _ i7 _ => L.length - (intOf i7).toNat)
  case atStart => exact ⟨0, Nat.zero_le _, rfl, ⟨fun r hr => by
    simp only [List.mem_cons, List.not_mem_nil, or_false] at hr
    rcases hr with rfl | rfl
    · exact World.ownsRow_nil _ _ _ _
    · exact World.ownsRow_nil _ _ _ _, by simp [Value.ownBlock]⟩, Keeps.refl _ _⟩
  case round =>
    obtain ⟨i, hi, rfl, hrw, hkw⟩ := hrel
    have hO5 : wr.ownsRow w1.heap.size 3 1 u5 i (outL t L i) := by have h := hrw.own _ (List.mem_cons_self); rw [len_outL t hi] at h; exact h
    have hO6 : wr.ownsRow w1.heap.size 3 1 u6 i (wordL L i) := by have h := hrw.own (u6, wordL L i) (by simp); rw [len_wordL hi] at h; exact h
    obtain ⟨a5, c5, h5⟩ := ownsRow_form1 hO5
    obtain ⟨a6, c6, h6⟩ := ownsRow_form1 hO6
    subst h5 h6
    have HR := Lib.hid hrw; have HO5 := Lib.hid hO5; have HO6 := Lib.hid hO6; have KW := Lib.hid hkw
    have hsw := hkw.size
    have hsz := HK.out.size
    clear hrw hO5 hO6 hkw
    by_cases hlt : i < L.length
    · obtain ⟨bl, ol, rfl, hx'⟩ := HCL.out (by omega)
      obtain ⟨x, hx⟩ : ∃ x, L[i]? = some x := ⟨_, List.getElem?_eq_getElem hlt⟩
      obtain ⟨u, hu, hiu⟩ := hx' i (facts x) (by rw [List.getElem?_map, hx]; rfl)
      have hu2 := (HK.out.trans KW.out).cell hu (fun h => h)
      have HU := Lib.hid hu
      have HIW := Lib.hid hiu
      have HIU := Lib.hid (hiu.keeps0 (HK.out.trans KW.out))
      have HGX := Lib.hid (HG.out x (List.mem_of_getElem? hx))
      have HTO := Lib.hid (outL_succ t hx); have HTW := Lib.hid (wordL_succ hx)
      obtain ⟨au, cu, hfu, _⟩ := hiu.form
      subst hfu
      clear hx' hx hu hiu
      go_wp2_with fail
      refine (rword_any _ _ _ HIU.out (isSet_mono HGX.out.1 (by omega))).mono ?_; rintro e w3 ⟨rfl, rfl⟩
      rw [HGX.out.2]
      go_wp2_with (at_builtin; refine wpList_append_d rfl _ _ _ rfl w1.heap.size 3 i0 _ 1 8 Try.underlying22 hi0 hz0 hz1 hz2 rfl (by omega) _ i (wordL L i) (by rfl) (World.ownsRow.alloc HO6.out (.cells #[.int .i64 (x : Int)] 3)) ⟨wr.heap.size, 0, none⟩ 1 1 [.int .i64 (x : Int)] (by rfl) (by rfl) (World.news_of_block (cs := #[.int .i64 (x : Int)]) (t := 3) (fr := (0, 0)) (heap_alloc_new _ _)) (by simp [Value.oneCell']) (by omega) (by unfold maxLen; omega) (by omega) (by simp; omega) (wr.heap.size + 1) (by simp) ?_)
      intro gg cap2 w4 hown hgrow hat hlt4 hd4
      have HR4 := Lib.hid (HR.out.push (i := 1) (v' := .slice (some ⟨gg, 0, none⟩) (i + 1) cap2) (xs' := wordL L (i + 1)) rfl ((Keeps.refl _ wr).alloc (.cells #[.int .i64 (x : Int)] 3)) hgrow (by rw [len_wordL (by omega), HTW.out]; exact hown) (at_new hat))
      have K4 := Lib.hid (own_grown HO6.out KW.out ((Keeps.refl _ wr).alloc (.cells #[.int .i64 (x : Int)] 3)) hgrow)
      clear hown hgrow hat hd4 hu2
      have KT := Lib.hid (HK.out.trans K4.out)
      have hu4 := KT.out.cell HU.out (fun h => h)
      have hbx4 := (HB.out.keeps0 K4.out).lt
      obtain ⟨d0, d1, d2, d3⟩ := HB.out.keeps0 K4.out
      go_upto_region 7 with fail
      go_still_tail 6, (by kernel_rfl)
      change wpList _ _ _ _ _ w4.drew
      have KD := (Keeps.refl (fun _ => False) w4).drew
      have HRD := Lib.hid (HR4.out.keeps0 KD); have K5 := Lib.hid (K4.out.trans KD)
      have HID := Lib.hid (HIW.out.keeps0 (KT.out.trans KD)); have HGD := Lib.hid (HT.out.goal.keeps0 (K4.out.trans KD))
      clear KD hu4 d0 d1 d2 d3 hbx4
      generalize w4.drew = w5 at HRD K5 HID HGD ⊢
      go_wp2_with fail
      refine (subset_goal _ _ _ t x HGD.out HID.out).mono ?_; rintro e w6 ⟨rfl, rfl⟩
      have hO5 : w5.ownsRow w1.heap.size 3 1 (.slice a5 i c5) i (outL t L i) := by have h := HRD.out.own (.slice a5 i c5, outL t L i) (by simp); rw [len_outL t hi] at h; exact h
      have HO5D := Lib.hid hO5
      have hs5 := K5.out.size
      clear hO5
      cases hgw : goalW t x with
      | true =>
        have HTG := Lib.hid (show outL t L (i + 1) = outL t L i ++ [.int .i64 0] by rw [HTO.out, hgw]; rfl)
        clear hgw
        go_wp2_with (at_builtin; refine wpList_append_d rfl _ _ _ rfl w1.heap.size 3 i0 _ 1 8 Try.underlying22 hi0 hz0 hz1 hz2 rfl (by omega) _ i (outL t L i) (by rfl) (World.ownsRow.alloc HO5D.out (.cells #[.int .i64 0] 3)) ⟨w5.heap.size, 0, none⟩ 1 1 [.int .i64 0] (by rfl) (by rfl) (World.news_of_block (cs := #[.int .i64 0]) (t := 3) (fr := (0, 0)) (heap_alloc_new _ _)) (by simp [Value.oneCell']) (by omega) (by unfold maxLen; omega) (by omega) (by simp; omega) (w5.heap.size + 1) (by simp) ?_)
        intro gh cap3 w7 hown hgrow hat hlt7 hd7
        have HR7 := Lib.hid (HRD.out.push (i := 0) (v' := .slice (some ⟨gh, 0, none⟩) (i + 1) cap3) (xs' := outL t L (i + 1)) rfl ((Keeps.refl _ w5).alloc (.cells #[.int .i64 0] 3)) hgrow (by rw [len_outL t (by omega), HTG.out]; exact hown) (at_new hat))
        have K7 := Lib.hid (own_grown HO5D.out K5.out ((Keeps.refl _ w5).alloc (.cells #[.int .i64 0] 3)) hgrow)
        clear hown hgrow hat hd7
        go_wp2_with fail
        go_roundw
        case rel => exact ⟨i + 1, by omega, by go_num, HR7.out, K7.out⟩
        case measure => simp [intOf]; omega
      | false =>
        have HTG := Lib.hid (show outL t L (i + 1) = outL t L i ++ [.int .i64 1000000000] by rw [HTO.out, hgw]; rfl)
        clear hgw
        go_wp2_with (at_builtin; refine wpList_append_d rfl _ _ _ rfl w1.heap.size 3 i0 _ 1 8 Try.underlying22 hi0 hz0 hz1 hz2 rfl (by omega) _ i (outL t L i) (by rfl) (World.ownsRow.alloc HO5D.out (.cells #[.int .i64 1000000000] 3)) ⟨w5.heap.size, 0, none⟩ 1 1 [.int .i64 1000000000] (by rfl) (by rfl) (World.news_of_block (cs := #[.int .i64 1000000000]) (t := 3) (fr := (0, 0)) (heap_alloc_new _ _)) (by simp [Value.oneCell']) (by omega) (by unfold maxLen; omega) (by omega) (by simp; omega) (w5.heap.size + 1) (by simp) ?_)
        intro gh cap3 w7 hown hgrow hat hlt7 hd7
        have HR7 := Lib.hid (HRD.out.push (i := 0) (v' := .slice (some ⟨gh, 0, none⟩) (i + 1) cap3) (xs' := outL t L (i + 1)) rfl ((Keeps.refl _ w5).alloc (.cells #[.int .i64 1000000000] 3)) hgrow (by rw [len_outL t (by omega), HTG.out]; exact hown) (at_new hat))
        have K7 := Lib.hid (own_grown HO5D.out K5.out ((Keeps.refl _ w5).alloc (.cells #[.int .i64 1000000000] 3)) hgrow)
        clear hown hgrow hat hd7
        go_wp2_with fail
        go_roundw
        case rel => exact ⟨i + 1, by omega, by go_num, HR7.out, K7.out⟩
        case measure => simp [intOf]; omega
    · have hie : i = L.length := by omega
      obtain ⟨w2, rfl⟩ : ∃ w2, w2 = wr := ⟨_, rfl⟩
      subst hie
      have HWD := Lib.hid (show Ints w2 (.slice a6 L.length c6) (L.map fun x : Nat => (x : Int)) by
        have h := Sl.of_own HO6.out
        unfold wordL at h
        rw [List.take_of_length_le (Nat.le_refl _)] at h
        unfold Ints
        rw [List.length_map, List.map_map]
        exact h)
      have HCW := Lib.hid (HWD.out.cell rfl)
      have HD0 := Lib.hid (show w2.ownsRow w1.heap.size 3 1 (.slice a5 L.length c5) L.length ((costStart (L.map (goalW t))).map (Value.int .i64)) by
        have h := HO5.out
        unfold outL at h
        rwa [List.take_of_length_le (Nat.le_refl _)] at h)
      have HK2 := Lib.hid (HK.out.trans KW.out)
      have HT2 := Lib.hid (HT.out.keeps0 KW.out)
      have HB2 := Lib.hid (HB.out.keeps0 KW.out)
      clear hlt hbx HR HO5 HO6 HWD
      go_wp2_with fail
      go_loopw [8, 9, 10, 11] (fun v8 v9 v10 i11 wq => ∃ p : Nat, p ≤ L.length ∧ i11 = .int .i64 (p : Int) ∧ ARows w2 (arcsTo (wordsOf t.ops) L p) v8 v9 v10 wq) (fun _ _ _ i11 _ => L.length - (intOf i11).toNat)
      case atStart => exact ⟨0, Nat.zero_le _, rfl, ⟨⟨fun r hr => by
        simp only [List.mem_cons, List.not_mem_nil, or_false] at hr
        rcases hr with rfl | rfl | rfl
        · exact World.ownsRow_nil _ _ _ _
        · exact World.ownsRow_nil _ _ _ _
        · exact World.ownsRow_nil _ _ _ _, by simp [Value.ownBlock]⟩, Keeps.refl _ _⟩⟩
      case round =>
        obtain ⟨p, hp, rfl, har⟩ := hrel
        obtain ⟨e8, e9, e10⟩ := har.own
        obtain ⟨a8, c8, h8⟩ := ownsRow_form1 e8
        obtain ⟨a9, c9, h9⟩ := ownsRow_form1 e9
        obtain ⟨a10, c10, h10⟩ := ownsRow_form1 e10
        subst h8 h9 h10
        have HA2 := Lib.hid har
        clear har e8 e9 e10
        by_cases hlt : p < L.length
        · obtain ⟨bl, ol, rfl, hx'⟩ := HCL.out (by omega)
          obtain ⟨x, hx⟩ : ∃ x, L[p]? = some x := ⟨_, List.getElem?_eq_getElem hlt⟩
          obtain ⟨u, hu, hiu⟩ := hx' p (facts x) (by rw [List.getElem?_map, hx]; rfl)
          have HU := Lib.hid (HK2.out.cell hu (fun h => h))
          have HIU := Lib.hid (hiu.keeps0 HK2.out)
          have HGX := Lib.hid (HG.out x (List.mem_of_getElem? hx))
          have HTO := Lib.hid (part_all (x := x) hx HOPS.out)
          obtain ⟨au, cu, hfu, _⟩ := hiu.form
          subst hfu
          clear hx' hx hu hiu
          have hbr := (HB2.out.keeps0 HA2.out.keeps).lt
          obtain ⟨d0, d1, d2, d3⟩ := HB2.out.keeps0 HA2.out.keeps
          go_upto_region 15 with fail
          clear d0 d1 d2 d3 hbr
          go_loopw [8, 9, 10, 12] (fun v8 v9 v10 i12 wq => ∃ j : Nat, j ≤ t.ops.length ∧ i12 = .int .i64 (j : Int) ∧ ARows w2 (part (wordsOf t.ops) L p x j) v8 v9 v10 wq) (fun _ _ _ i12 _ => t.ops.length - (intOf i12).toNat)
          case atStart => exact ⟨0, Nat.zero_le _, rfl, by rw [part_zero]; exact HA2.out⟩
          case round =>
            obtain ⟨j, hj, rfl, har⟩ := hrel
            obtain ⟨e8, e9, e10⟩ := har.own
            obtain ⟨a8, c8, h8⟩ := ownsRow_form1 e8
            obtain ⟨a9, c9, h9⟩ := ownsRow_form1 e9
            obtain ⟨a10, c10, h10⟩ := ownsRow_form1 e10
            subst h8 h9 h10
            have hkq := har.keeps
            have HA3 := Lib.hid har
            have hbq := (HB2.out.keeps0 hkq).lt
            obtain ⟨q0, q1, q2, q3⟩ := HB2.out.keeps0 hkq
            have hcu := hkq.cell HU.out (fun h => h)
            clear har e8 e9 e10 HA2
            by_cases hjl : j < t.ops.length
            · obtain ⟨o, ho⟩ : ∃ o, t.ops[j]? = some o := ⟨_, List.getElem?_eq_getElem hjl⟩
              have HOO := Lib.hid ho
              have hok := OK.out.ops o (List.mem_of_getElem? ho)
              obtain ⟨hap, haf, hgn⟩ := good_next (by omega : t.n ≤ 32) hok HGX.out
              have HAP := Lib.hid hap; have HAF := Lib.hid haf; have HGN := Lib.hid hgn
              have hwo : (wordsOf t.ops)[j]? = some o.word := by unfold wordsOf; rw [List.getElem?_map, ho]; rfl
              have HNT := Lib.hid (show part (wordsOf t.ops) L p x (j + 1) = if o.word.can x = true then part2 (wordsOf t.ops) L p x j o.cost (o.word.next x) L.length else part (wordsOf t.ops) L p x j from part_step hwo)
              have HTQ := Lib.hid (HT2.out.keeps0 hkq)
              have HIQ := Lib.hid (show Ints wr (.slice au (facts x).length cu) (facts x) from HIU.out.keeps0 hkq)
              obtain ⟨bo, oo, rfl, hoc⟩ := HOC.out (by omega)
              obtain ⟨va, vb, vc, c0, c1, c2, c3, _⟩ := hoc j o ho
              have HC3 := Lib.hid (HK2.out.cell c3 (fun h => h))
              clear ho hok hap haf hgn hwo hoc c0 c1 c2 c3 hkq
              go_upto_region 17 with fail
              go_still_tail 6, (by kernel_rfl)
              change wpList _ _ _ _ _ wr.drew
              have KD := (Keeps.refl (fun _ => False) wr).drew
              have HTD := Lib.hid (HTQ.out.keeps0 KD); have HID := Lib.hid (show Ints wr.drew (.slice au (facts x).length cu) (facts x) from HIQ.out.keeps0 KD)
              have HRD := Lib.hid (HA3.out.keeps0 KD)
              clear KD hcu q0 q1 q2 q3 HTQ HIQ HA3 hbq
              generalize wr.drew = w4 at HTD HID HRD ⊢
              go_wp2_with fail
              refine (applies_any _ _ _ _ _ t (facts x) j o HTD.out HID.out HOO.out).mono ?_; rintro e w5 ⟨rfl, hk5⟩
              rw [HAP.out]
              have HR5 := Lib.hid (HRD.out.keeps0 hk5); have HT5 := Lib.hid (HTD.out.keeps0 hk5); have HI5 := Lib.hid (show Ints w5 (.slice au (facts x).length cu) (facts x) from HID.out.keeps0 hk5)
              clear hk5 HRD HTD HID
              cases hcan : o.word.can x with
              | false =>
                have HSQ := Lib.hid (show part (wordsOf t.ops) L p x (j + 1) = part (wordsOf t.ops) L p x j by rw [HNT.out, hcan]; simp)
                clear hcan
                go_wp2_with fail
                go_roundw
                case rel => exact ⟨j + 1, by omega, by go_num, by rw [HSQ.out]; exact HR5.out⟩
                case measure => simp [intOf]; omega
              | true =>
                have HSQ := Lib.hid (show part (wordsOf t.ops) L p x (j + 1) = part2 (wordsOf t.ops) L p x j o.cost (o.word.next x) L.length by rw [HNT.out, hcan]; simp)
                clear hcan
                have hb5 := (HB2.out.keeps0 HR5.out.keeps).lt
                obtain ⟨q0, q1, q2, q3⟩ := HB2.out.keeps0 HR5.out.keeps
                have hcu5 := HR5.out.keeps.cell HU.out (fun h => h)
                go_upto_region 18 with fail
                go_still_tail 6, (by kernel_rfl)
                change wpList _ _ _ _ _ w5.drew
                have KD := (Keeps.refl (fun _ => False) w5).drew
                have HTD := Lib.hid (HT5.out.keeps0 KD); have HID := Lib.hid (show Ints w5.drew (.slice au (facts x).length cu) (facts x) from HI5.out.keeps0 KD)
                have HRD := Lib.hid (HR5.out.keeps0 KD)
                clear KD hcu5 q0 q1 q2 q3 HT5 HI5 HR5 hb5
                generalize w5.drew = w6 at HTD HID HRD ⊢
                go_wp2_with fail
                refine (after_any _ _ _ _ _ t (facts x) j o HTD.out HID.out HOO.out OK.out.n0 (by have := OK.out.n1; omega)).mono ?_; rintro e w7 ⟨vn, rfl, hown7, hk7⟩
                rw [HAF.out] at hown7
                have HI7 := Lib.hid (show Ints w7 vn (facts (o.word.next x)) from Sl.of_own hown7 |> fun h => by simpa [Ints] using h)
                obtain ⟨an, cn, hvn⟩ := ownsRow_form1 hown7
                subst hvn
                have HR7 := Lib.hid (HRD.out.keeps0 hk7)
                clear hown7 hk7 HTD HID HRD
                go_wp2_with fail
                refine (rword_any _ _ _ HI7.out (isSet_mono HGN.out.1 (by have := OK.out.n1; omega))).mono ?_; rintro e w8 ⟨rfl, rfl⟩
                rw [HGN.out.2]
                go_upto_region 20 with fail
                go_loopw [8, 9, 10, 14] (fun v8 v9 v10 i14 wq => ∃ k : Nat, k ≤ L.length ∧ i14 = .int .i64 (k : Int) ∧ ARows w2 (part2 (wordsOf t.ops) L p x j o.cost (o.word.next x) k) v8 v9 v10 wq) (fun _ _ _ i14 _ => L.length - (intOf i14).toNat)
                case atStart => exact ⟨0, Nat.zero_le _, rfl, by rw [part2_zero]; exact HR7.out⟩
                case round =>
                  obtain ⟨k, hk, rfl, har⟩ := hrel
                  generalize hQ : part2 (wordsOf t.ops) L p x j o.cost (o.word.next x) k = Q at har
                  have HQ := Lib.hid hQ
                  obtain ⟨e8, e9, e10⟩ := har.own
                  obtain ⟨a8, c8, h8⟩ := ownsRow_form1 e8
                  obtain ⟨a9, c9, h9⟩ := ownsRow_form1 e9
                  obtain ⟨a10, c10, h10⟩ := ownsRow_form1 e10
                  subst h8 h9 h10
                  have HA4 := Lib.hid har; have HO8 := Lib.hid e8
                  have hsz := har.keeps.size
                  clear har e8 e9 e10 HR7 HI7 hQ
                  by_cases hkl : k < L.length
                  · obtain ⟨y, hy⟩ : ∃ y, L[k]? = some y := ⟨_, List.getElem?_eq_getElem hkl⟩
                    obtain ⟨bw, ow, rfl, hcw⟩ := HCW.out (by rw [List.length_map]; omega)
                    have hwc := HA4.out.keeps.cell (hcw k (y : Int) (by rw [List.getElem?_map, hy]; rfl)) (fun h => h)
                    have HH := Lib.hid (part2_step (ops := wordsOf t.ops) (L := L) (p := p) (x := x) (j := j) (c := o.cost) (y := o.word.next x) hy)
                    have hbd := HLE.out p j k (Nat.le_of_lt hlt) (Nat.le_of_lt hjl) (Nat.le_of_lt hkl) x o.cost (o.word.next x)
                    rw [HQ.out] at hbd
                    clear hcw hy
                    by_cases hyz : y = o.word.next x
                    · have hq : (((y : Nat) : Int) == ((o.word.next x : Nat) : Int)) = true := by rw [hyz]; simp
                      have HHT := Lib.hid (show part2 (wordsOf t.ops) L p x j o.cost (o.word.next x) (k + 1) = Q ++ [⟨p, k, j, o.cost⟩] by rw [HH.out, if_pos hyz, HQ.out])
                      clear hyz
                      go_wp2_with (at_builtin; refine wpList_append_d rfl _ _ _ rfl w2.heap.size 3 i0 _ 1 8 Try.underlying22 hi0 hz0 hz1 hz2 rfl (by omega) _ Q.length (frmL Q) (by rfl) (World.ownsRow.alloc HO8.out (.cells #[.int .i64 (p : Int)] 3)) ⟨wr.heap.size, 0, none⟩ 1 1 [.int .i64 (p : Int)] (by rfl) (by rfl) (World.news_of_block (cs := #[.int .i64 (p : Int)]) (t := 3) (fr := (0, 0)) (heap_alloc_new _ _)) (by simp [Value.oneCell']) (by omega) (by unfold maxLen; omega) (by omega) (by simp; omega) (wr.heap.size + 1) (by simp) ?_)
                      intro g8 cap8 w8 hown hgrow hat hlt8 hd8
                      have HP8 := Lib.hid (HA4.out.rows.push (i := 0) (v' := .slice (some ⟨g8, 0, none⟩) (Q.length + 1) cap8) (xs' := frmL Q ++ [.int .i64 (p : Int)]) rfl ((Keeps.refl _ wr).alloc (.cells #[.int .i64 (p : Int)] 3)) hgrow (by rw [List.length_append, len_frmL]; exact hown) (at_new hat))
                      have K8 := Lib.hid (own_grown HO8.out HA4.out.keeps ((Keeps.refl _ wr).alloc (.cells #[.int .i64 (p : Int)] 3)) hgrow)
                      have hO9 : w8.ownsRow w2.heap.size 3 1 (.slice a9 Q.length c9) Q.length (toL Q) := by have h := HP8.out.own (.slice a9 Q.length c9, toL Q) (by simp); rw [len_toL] at h; exact h
                      have HO9 := Lib.hid hO9
                      have hs8 := K8.out.size
                      clear hown hgrow hat hd8 hO9
                      go_wp2_with (at_builtin; refine wpList_append_d rfl _ _ _ rfl w2.heap.size 3 i0 _ 1 8 Try.underlying22 hi0 hz0 hz1 hz2 rfl (by omega) _ Q.length (toL Q) (by rfl) (World.ownsRow.alloc HO9.out (.cells #[.int .i64 (k : Int)] 3)) ⟨w8.heap.size, 0, none⟩ 1 1 [.int .i64 (k : Int)] (by rfl) (by rfl) (World.news_of_block (cs := #[.int .i64 (k : Int)]) (t := 3) (fr := (0, 0)) (heap_alloc_new _ _)) (by simp [Value.oneCell']) (by omega) (by unfold maxLen; omega) (by omega) (by simp; omega) (w8.heap.size + 1) (by simp) ?_)
                      intro g9 cap9 w9 hown hgrow hat hlt9 hd9
                      have HP9 := Lib.hid (HP8.out.push (i := 1) (v' := .slice (some ⟨g9, 0, none⟩) (Q.length + 1) cap9) (xs' := toL Q ++ [.int .i64 (k : Int)]) rfl ((Keeps.refl _ w8).alloc (.cells #[.int .i64 (k : Int)] 3)) hgrow (by rw [List.length_append, len_toL]; exact hown) (at_new hat))
                      have K9 := Lib.hid (own_grown HO9.out K8.out ((Keeps.refl _ w8).alloc (.cells #[.int .i64 (k : Int)] 3)) hgrow)
                      have hO10 : w9.ownsRow w2.heap.size 3 1 (.slice a10 Q.length c10) Q.length (costsA Q) := by have h := HP9.out.own (.slice a10 Q.length c10, costsA Q) (by simp); rw [len_costsA] at h; exact h
                      have HO10 := Lib.hid hO10
                      have hs9 := K9.out.size
                      clear hown hgrow hat hd9 hO10
                      have hbq := (HB2.out.keeps0 K9.out).lt
                      obtain ⟨q0, q1, q2, q3⟩ := HB2.out.keeps0 K9.out
                      have hc3 := K9.out.cell HC3.out (fun h => h)
                      go_wp2_with (at_builtin; refine wpList_append_d rfl _ _ _ rfl w2.heap.size 3 i0 _ 1 8 Try.underlying22 hi0 hz0 hz1 hz2 rfl (by omega) _ Q.length (costsA Q) (by rfl) (World.ownsRow.alloc HO10.out (.cells #[.int .i64 o.cost] 3)) ⟨w9.heap.size, 0, none⟩ 1 1 [.int .i64 o.cost] (by rfl) (by rfl) (World.news_of_block (cs := #[.int .i64 o.cost]) (t := 3) (fr := (0, 0)) (heap_alloc_new _ _)) (by simp [Value.oneCell']) (by omega) (by unfold maxLen; omega) (by omega) (by simp; omega) (w9.heap.size + 1) (by simp) ?_)
                      intro g10 cap10 w10 hown hgrow hat hlt10 hd10
                      have HP10 := Lib.hid (HP9.out.push (i := 2) (v' := .slice (some ⟨g10, 0, none⟩) (Q.length + 1) cap10) (xs' := costsA Q ++ [.int .i64 o.cost]) rfl ((Keeps.refl _ w9).alloc (.cells #[.int .i64 o.cost] 3)) hgrow (by rw [List.length_append, len_costsA]; exact hown) (at_new hat))
                      have K10 := Lib.hid (own_grown HO10.out K9.out ((Keeps.refl _ w9).alloc (.cells #[.int .i64 o.cost] 3)) hgrow)
                      have HN := Lib.hid (show ARows w2 (part2 (wordsOf t.ops) L p x j o.cost (o.word.next x) (k + 1)) (.slice (some ⟨g8, 0, none⟩) (Q.length + 1) cap8) (.slice (some ⟨g9, 0, none⟩) (Q.length + 1) cap9) (.slice (some ⟨g10, 0, none⟩) (Q.length + 1) cap10) w10 by
                        rw [HHT.out]
                        refine ⟨?_, K10.out⟩
                        have h := HP10.out
                        simpa [frmL, toL, costsA] using h)
                      clear hown hgrow hat hd10 hbd q0 q1 q2 q3 hc3 hbq
                      go_wp2_with fail
                      go_roundw
                      case rel => exact ⟨k + 1, by omega, by go_num, HN.out⟩
                      case measure => simp [intOf]; omega
                    · have hq : (((y : Nat) : Int) == ((o.word.next x : Nat) : Int)) = false := by simp; omega
                      have HHT := Lib.hid (show part2 (wordsOf t.ops) L p x j o.cost (o.word.next x) (k + 1) = Q by rw [HH.out, if_neg hyz, List.append_nil, HQ.out])
                      clear hyz hbd
                      go_wp2_with fail
                      go_roundw
                      case rel => exact ⟨k + 1, by omega, by go_num, by rw [HHT.out]; exact HA4.out⟩
                      case measure => simp [intOf]; omega
                  · have hke : k = L.length := by omega
                    have HN := Lib.hid (show ARows w2 (part (wordsOf t.ops) L p x (j + 1)) (.slice a8 Q.length c8) (.slice a9 Q.length c9) (.slice a10 Q.length c10) wr by
                      have h := HQ.out
                      rw [hke, ← HSQ.out] at h
                      rw [h]; exact HA4.out)
                    clear hke
                    go_wp2_with fail
                    go_roundw
                    case rel => exact ⟨j + 1, by omega, by go_num, HN.out⟩
                    case measure => simp [intOf]; omega
            · have hje : j = t.ops.length := by omega
              have HN := Lib.hid (show ARows w2 (arcsTo (wordsOf t.ops) L (p + 1)) (.slice a8 (part (wordsOf t.ops) L p x j).length c8) (.slice a9 (part (wordsOf t.ops) L p x j).length c9) (.slice a10 (part (wordsOf t.ops) L p x j).length c10) wr by rw [← HTO.out, ← hje]; exact HA3.out)
              clear hje
              go_wp2_with fail
              go_roundw
              case rel => exact ⟨p + 1, by omega, by go_num, HN.out⟩
              case measure => simp [intOf]; omega
        · obtain ⟨w3, rfl⟩ : ∃ w3, w3 = wr := ⟨_, rfl⟩
          have hpe : p = L.length := by omega
          subst hpe
          have hAA : arcsTo (wordsOf t.ops) L L.length = arcs (wordsOf t.ops) L := rfl
          rw [hAA] at HA2 ⊢
          have HLT := Lib.hid (show ∀ a ∈ arcs (wordsOf t.ops) L, a.frm < L.length ∧ a.to < L.length ∧ 0 ≤ a.cost ∧ a.cost ≤ 100 from fun a ha => by
            obtain ⟨h1, h2, _⟩ := arcs_lt ha
            obtain ⟨x, o, _, ho, _, hc, _⟩ := mem_arcs.1 ha
            unfold wordsOf at ho
            rw [List.getElem?_map] at ho
            cases hp : t.ops[a.op]? with
            | none => rw [hp] at ho; cases ho
            | some op =>
              rw [hp] at ho; cases ho
              have hok := OK.out.ops op (List.mem_of_getElem? hp)
              rw [hc]
              exact ⟨h1, h2, hok.cost0, hok.cost1⟩)
          have hAl : (arcs (wordsOf t.ops) L).length ≤ 160000000 := arcs_len hfew (by rw [HOPS.out]; exact hfo)
          generalize hAE : arcs (wordsOf t.ops) L = A at HA2 HLT hAl ⊢
          have HAE := Lib.hid hAE
          clear hAE
          obtain ⟨gd, capd, hvd, hg1, hg2⟩ := HD0.out.form hpos
          simp only [Value.slice.injEq] at hvd
          obtain ⟨rfl, _, rfl⟩ := hvd
          have hgd2 := (World.ownsRow.lt HD0.out gd rfl)
          have hgdlt : gd < w2.heap.size := hgd2.2
          have hgdge : w1.heap.size ≤ gd := hgd2.1
          have hnl : (L.map (goalW t)).length = L.length := List.length_map _
          have HD3 := Lib.hid (show ORow w1 w3 gd (L.map (goalW t)).length c5 (costStart (L.map (goalW t))) w3 from ⟨by rw [hnl]; exact HA2.out.keeps.ownsRow HD0.out (fun _ _ h => h), Keeps.refl _ _⟩)
          have HCI := Lib.hid (CostInv.start A (L.map (goalW t)))
          obtain ⟨e8, e9, e10⟩ := HA2.out.own
          have H8 := Lib.hid (acells e8 rfl); have H9 := Lib.hid (acells e9 rfl); have H10 := Lib.hid (acells e10 rfl)
          have KW3 := Lib.hid (HK2.out.trans HA2.out.keeps)
          have hs3 := HA2.out.keeps.size
          have hmaxn : L.length ≤ 2000 := hfew
          rw [← hnl] at hmaxn
          have HNL := Lib.hid hnl
          clear e8 e9 e10 hgd2 hg1 hg2 hlt HLE hAA hnl
          have hslot : (Value.slice (some ⟨gd, 0, none⟩) L.length c5) = .slice (some ⟨gd, 0, none⟩) (L.map (goalW t)).length c5 := by rw [HNL.out]
          rw [hslot]
          clear hslot
          generalize hacc : L.map (goalW t) = acc at HD3 HCI hmaxn HNL ⊢
          have HACC := Lib.hid hacc
          clear hacc
          go_wp2_with fail
          go_loopg [15] (2 * weightC (costStart acc) + 1) (fun k v15 wq => CHead w1 w3 gd c5 A acc k v15 wq)
          case atStart => exact ⟨costStart acc, true, rfl, HCI.out, HD3.out, (fun h => by cases h), by rw [if_pos rfl]⟩
          case round =>
            obtain ⟨d, again, rfl, hinv, hdr, hst, hgk⟩ := hrel
            have INV := Lib.hid hinv; have DR := Lib.hid hdr; have ST := Lib.hid hst; have HGK := Lib.hid hgk
            clear hinv hdr hst hgk
            cases again with
            | false =>
              have hsw1 := HK.out.size
              go_wp2_with fail
              go_ret
              exact ⟨_, d, rfl, by rw [HAE.out, HACC.out]; exact ⟨INV.out, ST.out (by first | rfl | trivial)⟩, by rw [HACC.out]; exact ownsRow_mono DR.out.own hsw1, KW3.out.trans' DR.out.keeps (fun b hb => .inr (by omega))⟩
            | true =>
              go_wp2_with fail
              go_loopw [15, 16] (fun v15 v16 wq => ∃ j : Nat, j ≤ A.length ∧ v16 = .int .i64 (j : Int) ∧ CMid w1 w3 gd c5 A acc (weightC d) j v15 wq) (fun _ v16 _ => A.length - (intOf v16).toNat)
              case atStart => exact ⟨0, Nat.zero_le _, rfl, d, false, rfl, INV.out, DR.out, (fun _ a ha => by simp at ha), Nat.le_refl _, (fun h => by cases h)⟩
              case round =>
                obtain ⟨j, hj, rfl, d2, ag2, rfl, hinv2, hdr2, hst2, hle2, hlt2⟩ := hrel
                have INV2 := Lib.hid hinv2; have DR2 := Lib.hid hdr2; have ST2 := Lib.hid hst2; have LE2 := Lib.hid hle2; have LT2 := Lib.hid hlt2
                have hl2 := hdr2.lt
                clear hinv2 hdr2 hst2 hle2 hlt2
                by_cases hjl : j < A.length
                · obtain ⟨b8, rfl, hb8, hc8⟩ := H8.out (by omega)
                  obtain ⟨b9, rfl, hb9, hc9⟩ := H9.out (by omega)
                  obtain ⟨b10, rfl, hb10, hc10⟩ := H10.out (by omega)
                  obtain ⟨a, ha⟩ : ∃ a, A[j]? = some a := ⟨_, List.getElem?_eq_getElem hjl⟩
                  have HA := Lib.hid ha
                  have G8 := Lib.hid (hc8 j (.int .i64 (a.frm : Int)) (by unfold frmL; rw [List.getElem?_map, ha]; rfl))
                  have G9 := Lib.hid (hc9 j (.int .i64 (a.to : Int)) (by unfold toL; rw [List.getElem?_map, ha]; rfl))
                  have G10 := Lib.hid (hc10 j (.int .i64 a.cost) (by unfold costsA; rw [List.getElem?_map, ha]; rfl))
                  have r8 := DR2.out.keeps.cell G8.out (by show ¬ b8 = gd; omega)
                  have r9 := DR2.out.keeps.cell G9.out (by show ¬ b9 = gd; omega)
                  have r10 := DR2.out.keeps.cell G10.out (by show ¬ b10 = gd; omega)
                  obtain ⟨hf, ht, hc0, hc1⟩ := HLT.out a (List.mem_of_getElem? ha)
                  rw [← HNL.out] at hf ht
                  have hdl := DR2.out.len
                  obtain ⟨x, hx⟩ : ∃ x, d2[a.frm]? = some x := ⟨_, List.getElem?_eq_getElem (by omega)⟩
                  obtain ⟨y, hy⟩ : ∃ y, d2[a.to]? = some y := ⟨_, List.getElem?_eq_getElem (by omega)⟩
                  have hyl := INV2.out.lo y (List.mem_of_getElem? hy)
                  unfold bigC at hyl
                  obtain ⟨hyl0, hyl1⟩ := hyl
                  have HX := Lib.hid hx; have HY := Lib.hid hy
                  have cx := DR2.out.cell hx
                  have cy := DR2.out.cell hy
                  have f0 : (0 : Int) ≤ (a.frm : Int) := by omega
                  have f1 : (a.frm : Int) < (acc.length : Int) := by omega
                  have t0 : (0 : Int) ≤ (a.to : Int) := by omega
                  have t1 : (a.to : Int) < (acc.length : Int) := by omega
                  have j0 : (0 : Int) ≤ (j : Int) := by omega
                  have j1 : (j : Int) < (A.length : Int) := by omega
                  clear hc8 hc9 hc10 ha hdl hx hy
                  by_cases hyb : y < 1000000000
                  · have ey0 : decide (y < 1000000000) = true := by simpa using hyb
                    have hs : IntKind.i64.wrap (y + a.cost) = y + a.cost := IntWalk.i64_in _ (by omega)
                    by_cases hup : y + a.cost < x
                    · have ex1 : decide (y + a.cost < x) = true := by simpa using hup
                      have HN := Lib.hid (INV2.out.step (List.mem_of_getElem? HA.out) hc0 HX.out HY.out (by unfold bigC; exact hyb) hup)
                      have FIN := Lib.hid (show ∀ w6, Keeps (fun _ => False) wr w6 → CMid w1 w3 gd c5 A acc (weightC d) (j + 1) (.bool true) (w6.setCell ⟨gd, a.frm, none⟩ (.int .i64 (y + a.cost))) from fun w6 hk6 => by
                        obtain ⟨n1, n2⟩ := HN.out
                        have h1 := LE2.out
                        exact ⟨d2.set a.frm (y + a.cost), true, rfl, n1, (DR2.out.keeps0 hk6).set a.frm (y + a.cost), (fun h => by cases h), by omega, (fun _ => by omega)⟩)
                      clear hup
                      go_wp2_with fail
                      go_quiet (fail)
                      have kx := (Keeps.refl (fun _ => False) wr).drewN nq
                      have KX := Lib.hid kx
                      have r8' := kx.cell r8 (fun h => h)
                      have r9' := kx.cell r9 (fun h => h)
                      have r10' := kx.cell r10 (fun h => h)
                      have cy' := kx.cell cy (fun h => h)
                      have hlx := Nat.lt_of_lt_of_le hl2 kx.size
                      clear r8 r9 r10 cx cy kx
                      generalize wr.drewN nq = wx at KX r8' r9' r10' cy' hlx ⊢
                      go_step
                      go_upto_region 33 with fail
                      go_still_tail 18, (by kernel_rfl)
                      change wpList _ _ _ _ _ wx.drew
                      have KD := Lib.hid (KX.out.drew)
                      clear r8' r9' r10' cy' hlx
                      generalize wx.drew = w6 at KD ⊢
                      have cx := KD.out.cell (DR2.out.cell HX.out) (fun h => h)
                      have ff := (DR2.out.keeps0 KD.out).frozen a.frm
                      have hl6 := (DR2.out.keeps0 KD.out).lt
                      have FW := Lib.hid (FIN.out w6 KD.out)
                      clear ey0 ex1 hs
                      go_wp2_with fail
                      go_roundw
                      case rel => exact ⟨j + 1, by omega, by go_num, FW.out⟩
                      case measure => simp [intOf]; omega
                    · have ex1 : decide (y + a.cost < x) = false := by simpa using hup
                      have HST := Lib.hid (show stableC d2 a from stableC_of HX.out HY.out (.inr (by omega)))
                      clear hup
                      go_wp2_with fail
                      go_quiet (fail)
                      have KD := Lib.hid ((Keeps.refl (fun _ => False) wr).drewN nq)
                      clear r8 r9 r10 cx cy
                      generalize wr.drewN nq = w6 at KD ⊢
                      go_step
                      go_wp2_with fail
                      go_roundw
                      case rel => exact ⟨j + 1, by omega, by go_num, d2, ag2, rfl, INV2.out, DR2.out.keeps0 KD.out, (fun h => stableC_take HA.out HST.out (ST2.out h)), LE2.out, LT2.out⟩
                      case measure => simp [intOf]; omega
                  · have ey0 : decide (y < 1000000000) = false := by simpa using hyb
                    have HST := Lib.hid (show stableC d2 a from stableC_of HX.out HY.out (.inl (by unfold bigC; exact hyb)))
                    go_wp2_with fail
                    go_quiet (fail)
                    have KD := Lib.hid ((Keeps.refl (fun _ => False) wr).drewN nq)
                    clear r8 r9 r10 cx cy
                    generalize wr.drewN nq = w6 at KD ⊢
                    go_step
                    go_wp2_with fail
                    go_roundw
                    case rel => exact ⟨j + 1, by omega, by go_num, d2, ag2, rfl, INV2.out, DR2.out.keeps0 KD.out, (fun h => stableC_take HA.out HST.out (ST2.out h)), LE2.out, LT2.out⟩
                    case measure => simp [intOf]; omega
                · have HTK : Hid (A.take j = A) := by unfold Hid; exact List.take_of_length_le (by omega)
                  have HGD := Lib.hid (show CHead w1 w3 gd c5 A acc (2 * weightC d2 + (if ag2 = true then 1 else 0)) (.bool ag2) wr from ⟨d2, ag2, rfl, INV2.out, DR2.out, (fun h => by have := ST2.out h; rwa [HTK.out] at this), rfl⟩)
                  go_wp2_with fail
                  go_roundg (2 * weightC d2 + (if ag2 = true then 1 else 0))
                  case rel => exact HGD.out
                  case measure =>
                    have h1 := HGK.out
                    have h2 := LE2.out
                    have h3 := LT2.out
                    cases ag2
                    · rw [if_neg (by simp)]; simp at h1; omega
                    · rw [if_pos rfl]; have := h3 rfl; simp at h1; omega

end Go.Proofs.Ytdonadeodioplaa

namespace Go.Proofs.Ytdonadeodioplaa
open Go.RowKit

def OptPost (t : Tsk) (w : World) (e : Ending) (w' : World) : Prop := Keeps (fun _ => False) w w' ∧
  ((∃ c i, c ≠ 0 ∧ expF t = (c, i) ∧ e = .returned (.tuple #[.int .i64 0, fltV c i])) ∨
   (t.Ok ∧ ∃ (l ws : List Nat) (D : Nat → Int), explored t = some l ∧ ws.Perm l ∧ ws.Pairwise ordW ∧ CostOk (arcs (wordsOf t.ops) ws) (ws.map (goalB (wd t.goal))) (ws.map D) ∧ e = .returned (.tuple #[.int .i64 (D (wd t.init)), fltV 0 0])))

/-- What Costs asks for. -/
theorem costs_need {t : Tsk} (ok : t.Ok) {l ws : List Nat} (hx : explored t = some l) (hp : ws.Perm l) :
    wd t.init < 4294967296 ∧ wd t.goal < 4294967296 ∧ (wordsOf t.ops).length ≤ 40 ∧ Shut (wordsOf t.ops) ws ∧ ws.length ≤ 2000 ∧ (∀ x ∈ ws, x < 4294967296) ∧ (∀ o ∈ wordsOf t.ops, 0 ≤ o.cost ∧ o.cost ≤ 1000000) ∧ wd t.init ∈ ws := by
  have hs32 : wd t.init < 4294967296 := wd_lt32 (by have := ok.n1; omega : t.n ≤ 32) ok.init
  have hg32 : wd t.goal < 4294967296 := wd_lt32 (by have := ok.n1; omega : t.n ≤ 32) ok.goal
  have hsh := shut_reached (ops := wordsOf t.ops) (s := wd t.init) (L := l) hx
  have hr := reached_some (ops := wordsOf t.ops) (s := wd t.init) (l := l) hx
  refine ⟨hs32, hg32, by unfold wordsOf; rw [List.length_map]; exact ok.few, ⟨hp.nodup_iff.2 hsh.1, fun x h o ho hc => hp.mem_iff.2 (hsh.2 x (hp.mem_iff.1 h) o ho hc)⟩, by rw [hp.length_eq]; exact hr.2.1, fun x h => reach_small (wops_ok ok) hs32 ((hr.2.2.2 x).1 (hp.mem_iff.1 h)), fun o ho => ?_, hp.mem_iff.2 (List.mem_of_getElem? hr.2.2.1)⟩
  unfold wordsOf at ho
  obtain ⟨o', ho', rfl⟩ := List.mem_map.1 ho
  have h := ok.ops o' ho'
  have hc : o'.word.cost = o'.cost := rfl
  rw [hc]
  exact ⟨h.cost0, by have := h.cost1; omega⟩

set_option maxRecDepth 100000 in
set_option maxHeartbeats 2000000 in
theorem optimal_any (w : World) (vi vg vo : Value) (t : Tsk) (h : TaskAt w vi vg vo t) :
    Calls Try.prog 21 #[.agg #[.int .i64 t.n, vi, vg, vo]] w (OptPost t w) := by
  obtain ⟨j0, hj0, jz0, jz1, jz2⟩ := info_parts Try.info3
  obtain ⟨ai, ci, h1, _⟩ := h.init.form
  obtain ⟨ag, cg, h2, _⟩ := h.goal.form
  obtain ⟨ao, co, h3, hmo⟩ := h.ops.form
  subst h1 h2 h3
  have K1 := (Keeps.refl (fun _ => False) w).alloc (.cells #[.int .i64 t.n, .slice ai t.init.length ci, .slice ag t.goal.length cg, .slice ao t.ops.length co] 25)
  have HT := h.keeps0 (K1.alloc (.cells #[.int .i64 0, .int .i64 0] 30))
  have HB := (Four.new w (.int .i64 t.n) (.slice ai t.init.length ci) (.slice ag t.goal.length cg) (.slice ao t.ops.length co) 25).keeps0 ((Keeps.refl _ _).alloc (.cells #[.int .i64 0, .int .i64 0] 30))
  have HF : Flt w ((w.alloc (.cells #[.int .i64 t.n, .slice ai t.init.length ci, .slice ag t.goal.length cg, .slice ao t.ops.length co] 25)).alloc (.cells #[.int .i64 0, .int .i64 0] 30)) (w.heap.size + 1) 30 :=
    ⟨by have := heap_alloc_new (w.alloc (.cells #[.int .i64 t.n, .slice ai t.init.length ci, .slice ag t.goal.length cg, .slice ao t.ops.length co] 25)) (.cells #[.int .i64 0, .int .i64 0] 30); rwa [World.size_alloc] at this, by omega, K1.alloc _⟩
  replace HT := Lib.hid HT; replace HB := Lib.hid HB; replace HF := Lib.hid HF
  clear h K1
  go_enter Try.func21, Try.ntmps21
  go_upto_region 1 with fail
  generalize ((w.alloc (.cells #[.int .i64 t.n, .slice ai t.init.length ci, .slice ag t.goal.length cg, .slice ao t.ops.length co] 25)).alloc (.cells #[.int .i64 0, .int .i64 0] 30)) = w1 at HT HB HF ⊢
  have hbx := HB.out.lt
  obtain ⟨d0, d1, d2, d3⟩ := HB.out
  go_wp2_with fail
  refine (checked_any _ _ _ _ t HT.out).mono ?_; rintro e w2 ⟨hk, hr⟩
  have HF2 := Lib.hid (HF.out.keeps0 hk)
  clear d0 d1 d2 d3 hk
  have hb0 := HF2.out.keep.size
  rcases hr with ⟨hc, rfl⟩ | ⟨hok, hx, rfl⟩ | ⟨hok, l, hx, b, v, vl, ws, rfl, hw, hperm, hord, hown⟩
  · have hc2 : ((taskFault t).1 == 0) = false := by simpa using hc
    have HE := Lib.hid (show expF t = taskFault t by unfold expF; rw [if_neg hc])
    have HC := Lib.hid hc
    clear hc
    generalize hfe : taskFault t = f at hc2 HC HE ⊢
    clear hfe
    have HF3 := Lib.hid (HF2.out.keeps0 ((Keeps.refl _ _).alloc (.cells #[.int .i64 f.1, .int .i64 f.2] 30)))
    obtain ⟨e0, e1, z0, z1, hF⟩ := HF3.out.cells
    go_wp2_with fail
    go_region
    all_goals
      go_wp2
      refine bodyPost_ret (results_tmp_cell _ _ (w.heap.size + 1) 30 #[.int .i64 f.1, .int .i64 f.2] (0, 0) _ rfl rfl (((Keeps.refl (fun _ => False) _).drew).heap (HF3.out.set (.int .i64 f.1) (.int .i64 f.2)).1 (fun h => h)) Try.underlying30 rfl (by kernel_rfl)) rfl ?_
      exact ⟨((HF3.out.set (.int .i64 f.1) (.int .i64 f.2)).2).drew, .inl ⟨f.1, f.2, HC.out, HE.out, rfl⟩⟩
  · have HE := Lib.hid (show expF t = (10, -7) by unfold expF; rw [if_pos (taskFault_zero.2 hok), hx])
    clear hx hok
    have HF3 := Lib.hid (HF2.out.keeps0 ((Keeps.refl _ _).alloc (.cells #[.int .i64 10, .int .i64 (-7)] 30)))
    obtain ⟨e0, e1, z0, z1, hF⟩ := HF3.out.cells
    go_wp2_with fail
    go_region
    all_goals
      go_wp2
      refine bodyPost_ret (results_tmp_cell _ _ (w.heap.size + 1) 30 #[.int .i64 10, .int .i64 (-7)] (0, 0) _ rfl rfl (((Keeps.refl (fun _ => False) _).drew).heap (HF3.out.set (.int .i64 10) (.int .i64 (-7))).1 (fun h => h)) Try.underlying30 rfl (by kernel_rfl)) rfl ?_
      exact ⟨((HF3.out.set (.int .i64 10) (.int .i64 (-7))).2).drew, .inl ⟨10, -7, by decide, HE.out, rfl⟩⟩
  · have HX := Lib.hid hx; have OK := Lib.hid hok; have PERM := Lib.hid hperm; have ORD := Lib.hid (show ws.Pairwise ordW from hord)
    obtain ⟨n1, n2, n3, n4, hfew, n6, n7, n8⟩ := costs_need hok hx hperm
    have KA := (Keeps.refl (fun _ => False) w2).alloc (.cells #[.int .i64 0, .int .i64 0] 30)
    have HV := Lib.hid (show Sl _ vl ws.length (ws.map encW) from (Sl.of_own hown).keeps0 KA)
    have HWA := Lib.hid (hw.keeps0 KA)
    have HF3 := Lib.hid (HF2.out.keeps0 KA)
    obtain ⟨av, cv, hav⟩ := ownsRow_form1 hown
    subst hav
    have HN := Lib.hid (And.intro n2 (And.intro n3 (And.intro n4 (And.intro n6 (And.intro n7 n8)))))
    clear hx hok hw KA hperm hord hown n1 n2 n3 n4 n6 n7 n8
    have F0 := heap_alloc_new w2 (.cells #[.int .i64 0, .int .i64 0] 30)
    go_upto_region 2 with fail
    generalize w2.alloc (.cells #[.int .i64 0, .int .i64 0] 30) = w3 at HV HF3 HWA F0 ⊢
    have f0 : w3.cell? ⟨w2.heap.size, 0, none⟩ = some (.int .i64 0) := by rw [cell_of_blk F0]; rfl
    have f1 : w3.cell? ⟨w2.heap.size, 1, none⟩ = some (.int .i64 0) := by rw [cell_of_blk F0]; rfl
    clear F0
    have hb2 := HF3.out.keep.size
    have hbF := HF3.out.blk
    go_wp2_with fail
    refine (costs_any w3 b (wd t.init) (wd t.goal) _ v (.slice av ws.length cv) (wordsOf t.ops) ws HWA.out (wops_ok OK.out) HN.out.2.1 HN.out.1 HN.out.2.2.1 hfew HN.out.2.2.2.1 HN.out.2.2.2.2.1 HV.out).mono ?_
    rintro e w4 ⟨hk4, bo, D, rfl, hbo, hI, hco⟩
    have HI := Lib.hid hI; have HCO := Lib.hid hco; have HF4 := Lib.hid (HF3.out.keeps0 hk4); have HW4 := Lib.hid (HWA.out.keeps0 hk4)
    clear hI hco hk4 f0 f1 hbF HF3 HV HWA
    go_wp2_with fail
    refine (start_any _ _ _ _ _ _ _ HW4.out).mono ?_; rintro e w5 ⟨rfl, rfl⟩
    have hlk := (HI.out.run_lookup_hit (P := Try.prog) Try.underlying77 Try.underlying75 (outV_nodup HN.out.2.2.1.1 D) (outV_mem D HN.out.2.2.2.2.2)).2
    obtain ⟨e0, e1, z0, z1, hF⟩ := HF4.out.cells
    have s0 := setCell_id e0
    have s1 := setCell_id e1
    go_wp2_with fail
    refine bodyPost_ret (results_tmp_cell _ _ (w.heap.size + 1) 30 #[.int .i64 0, .int .i64 0] (0, 0) _ rfl rfl HF4.out.blk Try.underlying30 rfl (by kernel_rfl)) rfl ?_
    exact ⟨HF4.out.keep, .inr ⟨OK.out, l, ws, D, HX.out, PERM.out, ORD.out, HCO.out, rfl⟩⟩

end Go.Proofs.Ytdonadeodioplaa

/- space's example. -/
namespace Go.Proofs.Ytdonadeodioplaa
open Go.RowKit

end Go.Proofs.Ytdonadeodioplaa

/- space: the law that the functions are the reference's. -/
namespace Go.Proofs.Ytdonadeodioplaa
open Go.RowKit

theorem exp_cases (t : Tsk) : (∃ c i, c ≠ 0 ∧ expF t = (c, i)) ∨ (t.Ok ∧ ∃ l, explored t = some l ∧ expF t = (0, 0)) := by
  unfold expF
  by_cases h : (taskFault t).1 = 0
  · rw [if_pos h]
    cases hx : explored t with
    | none => exact .inl ⟨10, -7, by decide, rfl⟩
    | some l => exact .inr ⟨taskFault_zero.1 h, l, rfl, rfl⟩
  · rw [if_neg h]
    exact .inl ⟨_, _, h, rfl⟩
section
variable {w : World} {vi vg vo : Value} {t : Tsk}
end

end Go.Proofs.Ytdonadeodioplaa

/- space: SpaceFunctionsMatchSpec walked. -/
namespace Go.Proofs.Ytdonadeodioplaa
open Go.RowKit

end Go.Proofs.Ytdonadeodioplaa

namespace Go.Proofs.Ytdonadeodioplaa

def costN (ops : List Wop) : List Nat → Int
  | [] => 0
  | a :: r => ((ops[a]?.map Wop.cost).getD 0) + costN ops r
theorem costN_bound {ops : List Wop} (h : ∀ o ∈ ops, 0 ≤ o.cost ∧ o.cost ≤ 100) : ∀ p : List Nat, 0 ≤ costN ops p ∧ costN ops p ≤ 100 * (p.length : Int)
  | [] => by simp [costN]
  | a :: r => by
    have h2 := costN_bound h r
    rw [costN]
    cases ho : ops[a]? with
    | none => simp; omega
    | some o =>
      have h1 := h o (List.mem_of_getElem? ho)
      simp; omega

theorem down_of_run {ops : List Wop} {L : List Nat} (hsh : Shut ops L) {acc : Nat → Bool} : ∀ {p : List Nat} {x y i : Nat}, L[i]? = some x → runOps ops x p = some y → acc y = true → Down (arcs ops L) (L.map acc) i (costN ops p)
  | [], x, y, i, hi, hr, ha => by cases hr; exact .nil (by rw [List.getElem?_map, hi]; simp [ha])
  | a :: p, x, y, i, hi, hr, ha => by
    rw [runOps] at hr
    cases ho : ops[a]? with
    | none => rw [ho] at hr; cases hr
    | some o =>
      rw [ho] at hr; simp only at hr
      by_cases hc : o.can x = true
      · rw [if_pos hc] at hr
        have hm := hsh.2 x (List.mem_of_getElem? hi) o (List.mem_of_getElem? ho) hc
        obtain ⟨j, hj⟩ := List.mem_iff_getElem?.1 hm
        have hd := down_of_run hsh hj hr ha
        have := Down.cons (a := ⟨i, j, a, o.cost⟩) (mem_arcs.2 ⟨x, o, hi, ho, hc, rfl, hj⟩) hd
        rw [costN, ho]; exact this
      · rw [if_neg hc] at hr; cases hr

theorem run_of_down {ops : List Wop} {L : List Nat} {acc : Nat → Bool} {i : Nat} {c : Int} (h : Down (arcs ops L) (L.map acc) i c) : ∀ x, L[i]? = some x → ∃ p y, runOps ops x p = some y ∧ acc y = true := by
  induction h with
  | nil h =>
    intro x hx
    rw [List.getElem?_map, hx] at h
    exact ⟨[], x, rfl, by simpa using h⟩
  | cons ha _ ih =>
    intro x hx
    obtain ⟨x', o, h1, h2, h3, h4, h5⟩ := mem_arcs.1 ha
    rw [h1] at hx; cases hx
    obtain ⟨p, y, hp, hy⟩ := ih _ h5
    exact ⟨_ :: p, y, by rw [runOps, h2]; simp only [h3, if_true]; exact hp, hy⟩

section
variable {ops : List Wop} {L : List Nat} {acc : Nat → Bool} {D : Nat → Int}
theorem arcs_cost0 (h0 : ∀ o ∈ ops, 0 ≤ o.cost ∧ o.cost ≤ 100) : ∀ a ∈ arcs ops L, 0 ≤ a.cost := fun a ha => by
  obtain ⟨y, o, _, h2, _, h4, _⟩ := mem_arcs.1 ha
  rw [h4]; exact (h0 o (List.mem_of_getElem? h2)).1
theorem opt_low (h : CostOk (arcs ops L) (L.map acc) (L.map D)) {x : Nat} (hx : x ∈ L) : 0 ≤ D x ∧ D x ≤ bigC := h.lo (D x) (List.mem_map.2 ⟨x, hx, rfl⟩)
theorem opt_some (h : CostOk (arcs ops L) (L.map acc) (L.map D)) {x : Nat} (hx : x ∈ L) (hd : D x < bigC) : ∃ p y, runOps ops x p = some y ∧ acc y = true := by
  obtain ⟨i, hi⟩ := List.mem_iff_getElem?.1 hx
  exact run_of_down (h.real i (D x) (by rw [List.getElem?_map, hi]; rfl) hd) x hi
/-! ### the finite costs are small -/
def below (L : List Nat) (D : Nat → Int) (z : Int) : Nat := (L.filter fun y => decide (D y < z)).length
end

end Go.Proofs.Ytdonadeodioplaa

namespace Go.Proofs.Ytdonadeodioplaa

/-- k for each cost, st for each step. -/
def wayN (k st : Int) (ops : List Wop) (p : List Nat) : Int := k * costN ops p + st * (p.length : Int)
theorem wayN_nil (k st : Int) (ops : List Wop) : wayN k st ops [] = 0 := by unfold wayN costN; simp
theorem costN_append (ops : List Wop) : ∀ p q : List Nat, costN ops (p ++ q) = costN ops p + costN ops q
  | [], q => by simp [costN]
  | a :: p, q => by rw [List.cons_append, costN, costN, costN_append ops p q]; omega
theorem wayN_append (k st : Int) (ops : List Wop) (p q : List Nat) : wayN k st ops (p ++ q) = wayN k st ops p + wayN k st ops q := by
  unfold wayN
  rw [costN_append, List.length_append, Int.natCast_add, Int.mul_add, Int.mul_add]; omega
theorem wayN_one {k st : Int} {ops : List Wop} {a : Nat} {o : Wop} (h : ops[a]? = some o) : wayN k st ops [a] = k * o.cost + st := by
  unfold wayN; simp [costN, h]
theorem wayN_low {k st : Int} {ops : List Wop} (hk : 0 ≤ k) (hs : 0 ≤ st) (h0 : ∀ o ∈ ops, 0 ≤ o.cost ∧ o.cost ≤ 100) (p : List Nat) : 0 ≤ wayN k st ops p := by
  have h1 := Int.mul_nonneg hk (costN_bound h0 p).1
  have h2 := Int.mul_nonneg hs (Int.natCast_nonneg p.length)
  unfold wayN; omega

/-- A way of the arcs is a run of the operators, and the other way round. -/
theorem run_of_walk {ops : List Wop} {L : List Nat} {k st : Int} {s i : Nat} {c : Int} (h : WalkA (arcs ops L) (fun a => k * a.cost + st) s i c) {x : Nat} (hx : L[s]? = some x) : ∃ p y, L[i]? = some y ∧ runOps ops x p = some y ∧ wayN k st ops p = c := by
  induction h with
  | nil => exact ⟨[], x, hx, rfl, wayN_nil _ _ _⟩
  | @snoc a _ _ ha ih =>
    obtain ⟨p, y, hy, hr, hc⟩ := ih
    obtain ⟨y', o, h1, h2, h3, h4, h5⟩ := mem_arcs.1 ha
    rw [h1] at hy; cases hy
    refine ⟨p ++ [a.op], _, h5, ?_, ?_⟩
    · rw [runOps_append, hr]; simp [runOps, h2, h3]
    · rw [wayN_append, hc, wayN_one h2, ← h4]
theorem walk_of_run {ops : List Wop} {L : List Nat} (hsh : Shut ops L) {k st : Int} {s : Nat} : ∀ {p : List Nat} {x y i : Nat} {c : Int}, WalkA (arcs ops L) (fun a => k * a.cost + st) s i c → L[i]? = some x → runOps ops x p = some y → ∃ j, L[j]? = some y ∧ WalkA (arcs ops L) (fun a => k * a.cost + st) s j (c + wayN k st ops p)
  | [], x, y, i, c, hw, hi, hr => by cases hr; exact ⟨i, hi, by rw [wayN_nil, Int.add_zero]; exact hw⟩
  | a :: p, x, y, i, c, hw, hi, hr => by
    rw [runOps] at hr
    cases ho : ops[a]? with
    | none => rw [ho] at hr; cases hr
    | some o =>
      rw [ho] at hr; simp only at hr
      by_cases hc : o.can x = true
      · rw [if_pos hc] at hr
        have hm := hsh.2 x (List.mem_of_getElem? hi) o (List.mem_of_getElem? ho) hc
        obtain ⟨j, hj⟩ := List.mem_iff_getElem?.1 hm
        have hd := WalkA.snoc (a := ⟨i, j, a, o.cost⟩) hw (mem_arcs.2 ⟨x, o, hi, ho, hc, rfl, hj⟩)
        obtain ⟨m, hm, hz⟩ := walk_of_run hsh hd hj hr
        refine ⟨m, hm, ?_⟩
        rw [show a :: p = [a] ++ p from rfl, wayN_append, wayN_one ho, ← Int.add_assoc]
        exact hz
      · rw [if_neg hc] at hr; cases hr

/-- b is the least price of a plan, or -1 where there is none. -/
def LeastOf (k st : Int) (ops : List Wop) (s : Nat) (acc : Nat → Bool) (b : Int) : Prop :=
  (b = -1 ∧ ∀ p y, runOps ops s p = some y → acc y = false) ∨
  (0 ≤ b ∧ (∃ p y, runOps ops s p = some y ∧ acc y = true ∧ wayN k st ops p = b) ∧ ∀ p y, runOps ops s p = some y → acc y = true → b ≤ wayN k st ops p)
theorem LeastOf.unique {k st : Int} {ops : List Wop} {s : Nat} {acc : Nat → Bool} {b b' : Int} (h : LeastOf k st ops s acc b) (h' : LeastOf k st ops s acc b') : b = b' := by
  rcases h with ⟨h1, h2⟩ | ⟨h1, ⟨p, y, hp, hy, hb⟩, h3⟩ <;> rcases h' with ⟨g1, g2⟩ | ⟨g1, ⟨q, z, hq, hz, hc⟩, g3⟩
  · rw [h1, g1]
  · rw [h2 q z hq] at hz; cases hz
  · rw [g2 p y hp] at hy; cases hy
  · have := h3 q z hq hz; have := g3 p y hp hy; omega

/-- The least price of the first i places that are goals, or -1. -/
def bestTo (d : List Int) (g : List Bool) : Nat → Int
  | 0 => -1
  | i + 1 => if g[i]? = some true ∧ (bestTo d g i < 0 ∨ d[i]?.getD 0 < bestTo d g i) then d[i]?.getD 0 else bestTo d g i
/-- It is one of the prices, and none is less. -/
theorem bestTo_spec {d : List Int} {g : List Bool} (hl : d.length = g.length) (h : ∀ x ∈ d, 0 ≤ x) : ∀ i, i ≤ d.length →
    (bestTo d g i = -1 ∧ ∀ j, j < i → g[j]? ≠ some true) ∨ (0 ≤ bestTo d g i ∧ (∃ j, j < i ∧ g[j]? = some true ∧ d[j]? = some (bestTo d g i)) ∧ ∀ j x, j < i → g[j]? = some true → d[j]? = some x → bestTo d g i ≤ x)
  | 0, _ => .inl ⟨rfl, fun j hj => by omega⟩
  | i + 1, hi => by
    have ih := bestTo_spec hl h i (by omega)
    obtain ⟨x, hx⟩ : ∃ x, d[i]? = some x := ⟨_, List.getElem?_eq_getElem (by omega)⟩
    have hx0 := h x (List.mem_of_getElem? hx)
    rw [bestTo, hx]
    simp only [Option.getD_some]
    by_cases hg : g[i]? = some true
    · by_cases hb : bestTo d g i < 0 ∨ x < bestTo d g i
      · rw [if_pos ⟨hg, hb⟩]
        refine .inr ⟨hx0, ⟨i, by omega, hg, hx⟩, fun j y hj hgj hy => ?_⟩
        by_cases hji : j = i
        · subst hji; rw [hx] at hy; cases hy; exact Int.le_refl _
        · rcases ih with ⟨_, h2⟩ | ⟨h1, _, h3⟩
          · exact absurd hgj (h2 j (by omega))
          · have := h3 j y (by omega) hgj hy; omega
      · rw [if_neg (fun e => hb e.2)]
        rcases ih with ⟨h1, _⟩ | ⟨h1, ⟨j, hj, hgj, hdj⟩, h3⟩
        · omega
        · refine .inr ⟨h1, ⟨j, by omega, hgj, hdj⟩, fun j' y hj' hgj' hy => ?_⟩
          by_cases hji : j' = i
          · subst hji; rw [hx] at hy; cases hy; omega
          · exact h3 j' y (by omega) hgj' hy
    · rw [if_neg (fun e => hg e.1)]
      rcases ih with ⟨h1, h2⟩ | ⟨h1, ⟨j, hj, hgj, hdj⟩, h3⟩
      · refine .inl ⟨h1, fun j hj => ?_⟩
        by_cases hji : j = i
        · subst hji; exact hg
        · exact h2 j (by omega)
      · refine .inr ⟨h1, ⟨j, by omega, hgj, hdj⟩, fun j' y hj' hgj' hy => ?_⟩
        by_cases hji : j' = i
        · subst hji; exact absurd hgj' hg
        · exact h3 j' y (by omega) hgj' hy

/-- All reached states have a price. -/
theorem PriOk.low {ops : List Wop} {s : Nat} {L : List Nat} (hsh : Shut ops L) (hr : ∀ x ∈ L, ∃ p, runOps ops s p = some x) {i0 : Nat} (h0 : L[i0]? = some s) {k st : Int} {d : List Int} (hA : ∀ a ∈ arcs ops L, 0 ≤ k * a.cost + st) (h : PriOk (arcs ops L) (fun a => k * a.cost + st) L.length i0 d) : ∀ x ∈ d, 0 ≤ x := by
  intro z hz
  obtain ⟨i, hi⟩ := List.mem_iff_getElem?.1 hz
  have hil : i < L.length := by rw [← h.len]; exact (List.getElem?_eq_some_iff.1 hi).1
  obtain ⟨x, hx⟩ : ∃ x, L[i]? = some x := ⟨_, List.getElem?_eq_getElem hil⟩
  obtain ⟨p, hp⟩ := hr x (List.mem_of_getElem? hx)
  obtain ⟨j, hj, hw⟩ := walk_of_run hsh .nil h0 hp
  obtain rfl : j = i := nodup_ix hsh.1 hj hx
  obtain ⟨_, y, hy, hy0, _⟩ := h.walk hA hw
  rw [hi] at hy; cases hy; exact hy0
/-- The least price over the goals is the least price of a plan. -/
theorem best_of_prices {ops : List Wop} {s : Nat} {L : List Nat} (hsh : Shut ops L) (hr : ∀ x ∈ L, ∃ p, runOps ops s p = some x) {i0 : Nat} (h0 : L[i0]? = some s) {k st : Int} {d : List Int} (hA : ∀ a ∈ arcs ops L, 0 ≤ k * a.cost + st) (h : PriOk (arcs ops L) (fun a => k * a.cost + st) L.length i0 d) (acc : Nat → Bool) :
    LeastOf k st ops s acc (bestTo d (L.map acc) L.length) := by
  have hlow := h.low hsh hr h0 hA
  have hlen : d.length = (L.map acc).length := by rw [List.length_map]; exact h.len
  rcases bestTo_spec hlen hlow L.length (by rw [h.len]; exact Nat.le_refl _) with ⟨h1, h2⟩ | ⟨h1, ⟨j, hj, hg, hd⟩, h3⟩
  · refine .inl ⟨h1, fun p y hp => ?_⟩
    obtain ⟨j, hj, _⟩ := walk_of_run hsh (k := k) (st := st) .nil h0 hp
    have := h2 j (List.getElem?_eq_some_iff.1 hj).1
    rw [List.getElem?_map, hj] at this
    simpa using this
  · refine .inr ⟨h1, ?_, fun p y hp hy => ?_⟩
    · obtain ⟨p, y, hy, hr', hc⟩ := run_of_walk (h.real j _ hd h1) h0
      rw [List.getElem?_map, hy] at hg
      exact ⟨p, y, hr', by simpa using hg, hc⟩
    · obtain ⟨m, hm, hw⟩ := walk_of_run hsh (k := k) (st := st) .nil h0 hp
      obtain ⟨_, x, hx, _, hxc⟩ := h.walk hA hw
      have := h3 m x (List.getElem?_eq_some_iff.1 hm).1 (by rw [List.getElem?_map, hm]; simp [hy]) hx
      omega

end Go.Proofs.Ytdonadeodioplaa

namespace Go.Proofs.Ytdonadeodioplaa

structure SArc where
  op : Nat
  price : Int
  to : Nat

/-- How many states of L have a price. -/
def knownB (L : List Nat) (P : Nat → Option Int) : Nat := L.countP fun x => (P x).isSome
/-- The prices after one of them is set. -/
def putP {α : Type} (P : Nat → Option α) (x : Nat) (v : α) : Nat → Option α := fun y => if y = x then some v else P y
theorem putP_same {α : Type} (P : Nat → Option α) (x : Nat) (v : α) : putP P x v x = some v := by simp [putP]
theorem putP_other {α : Type} (P : Nat → Option α) {x y : Nat} (v : α) (h : y ≠ x) : putP P x v y = P y := by simp [putP, h]
theorem knownB_put {L : List Nat} {P : Nat → Option Int} {x : Nat} {v : Int} (hn : L.Nodup) (hx : x ∈ L) (hP : P x = none) : knownB L (putP P x v) = knownB L P + 1 := by
  unfold knownB
  induction L with
  | nil => simp at hx
  | cons y r ih =>
    rw [List.nodup_cons] at hn
    by_cases hyx : y = x
    · subst hyx
      rw [List.countP_cons, List.countP_cons, putP_same, hP]
      have : r.countP (fun z => (putP P y v z).isSome) = r.countP fun z => (P z).isSome := by
        apply List.countP_congr
        intro z hz
        rw [putP_other P v (fun e => hn.1 (by rw [← e]; exact hz))]
      simp [this]
    · have hxr : x ∈ r := by
        rcases List.mem_cons.1 hx with h | h
        · exact absurd h.symm hyx
        · exact h
      rw [List.countP_cons, List.countP_cons, putP_other P v hyx, ih hn.2 hxr]; omega
theorem knownB_same {L : List Nat} {P : Nat → Option Int} {x : Nat} {v u : Int} (hP : P x = some u) : knownB L (putP P x v) = knownB L P := by
  unfold knownB
  apply List.countP_congr
  intro z _
  by_cases h : z = x
  · subst h; rw [putP_same, hP]; simp
  · rw [putP_other P v h]
theorem knownB_le (L : List Nat) (P : Nat → Option Int) : knownB L P ≤ L.length := List.countP_le_length

/-- What stays of a side while arcs of the state s are looked at: the arcs in R are still to do. -/
structure SideI (G : Nat → List SArc) (S0 : Nat → Prop) (L : List Nat) (C : Int) (P : Nat → Option Int) (par : Nat → Option SArc) (A : List (Int × Int)) (s : Nat) (R : List SArc) : Prop where
  dom : ∀ x p, P x = some p → x ∈ L
  lo : ∀ x p, P x = some p → 0 ≤ p ∧ p ≤ C * (knownB L P : Int)
  start : ∀ x, S0 x → P x = some 0 ∧ par x = none
  from_ : ∀ x p, P x = some p → ¬ S0 x → ∃ a, par x = some a ∧ ⟨a.op, a.price, x⟩ ∈ G a.to ∧ ∃ q, P a.to = some q ∧ q + a.price ≤ p
  key : ∀ z ∈ A, ∃ x : Nat, z.1 = (x : Int) ∧ P x = some z.2
  pend : ∀ x p, P x = some p → ((x : Int), p) ∈ A ∨ ∀ a ∈ G x, (∃ q, P a.to = some q ∧ q ≤ p + a.price) ∨ (x = s ∧ a ∈ R)
theorem SideI.anyS {G : Nat → List SArc} {S0 : Nat → Prop} {L : List Nat} {C : Int} {P : Nat → Option Int} {par : Nat → Option SArc} {A : List (Int × Int)} {s s' : Nat} (h : SideI G S0 L C P par A s []) : SideI G S0 L C P par A s' [] :=
  ⟨h.dom, h.lo, h.start, h.from_, h.key, fun x p hp => by
    rcases h.pend x p hp with h1 | h1
    · exact .inl h1
    · refine .inr fun a ha => ?_
      rcases h1 a ha with h2 | ⟨_, h2⟩
      · exact .inl h2
      · simp at h2⟩

/-- The state at the head of the queue is taken. -/
theorem SideI.take {G : Nat → List SArc} {S0 : Nat → Prop} {L : List Nat} {C : Int} {P : Nat → Option Int} {par : Nat → Option SArc} {A : List (Int × Int)} {s x : Nat} {p : Int} (h : SideI G S0 L C P par A s []) (hp : P x = some p) :
    SideI G S0 L C P par (A.filter fun z => z.1 != (x : Int)) x (G x) :=
  ⟨h.dom, h.lo, h.start, h.from_, fun z hz => h.key z (List.mem_filter.1 hz).1, fun y q hq => by
    by_cases hyx : y = x
    · subst hyx
      exact .inr fun a ha => .inr ⟨rfl, ha⟩
    · rcases h.pend y q hq with h1 | h1
      · refine .inl (List.mem_filter.2 ⟨h1, ?_⟩)
        simp; omega
      · refine .inr fun a ha => ?_
        rcases h1 a ha with h2 | ⟨_, h2⟩
        · exact .inl h2
        · simp at h2⟩
/-- An arc that leads to nothing better. -/
theorem SideI.skip {G : Nat → List SArc} {S0 : Nat → Prop} {L : List Nat} {C : Int} {P : Nat → Option Int} {par : Nat → Option SArc} {A : List (Int × Int)} {x : Nat} {p q : Int} {a : SArc} {R : List SArc} (h : SideI G S0 L C P par A x (a :: R)) (hp : P x = some p) (hq : P a.to = some q) (hle : q ≤ p + a.price) : SideI G S0 L C P par A x R :=
  ⟨h.dom, h.lo, h.start, h.from_, h.key, fun y u hu => by
    rcases h.pend y u hu with h1 | h1
    · exact .inl h1
    · refine .inr fun b hb => ?_
      rcases h1 b hb with h2 | ⟨rfl, h2⟩
      · exact .inl h2
      · rcases List.mem_cons.1 h2 with rfl | h3
        · rw [hp] at hu; cases hu; exact .inl ⟨q, hq, hle⟩
        · exact .inr ⟨rfl, h3⟩⟩
/-- An arc that gives a better price. -/
theorem SideI.fall {G : Nat → List SArc} {S0 : Nat → Prop} {L : List Nat} {C : Int} {P : Nat → Option Int} {par : Nat → Option SArc} {A : List (Int × Int)} {x : Nat} {p : Int} {a : SArc} {R : List SArc} (h : SideI G S0 L C P par A x (a :: R)) (hn : L.Nodup) (hC : ∀ y, ∀ b ∈ G y, 1 ≤ b.price ∧ b.price ≤ C) (hin : a.to ∈ L) (ha : a ∈ G x) (hp : P x = some p) (hlt : ∀ q, P a.to = some q → p + a.price < q) :
    SideI G S0 L C (putP P a.to (p + a.price)) (putP par a.to ⟨a.op, a.price, x⟩) (putA A (a.to : Int) (p + a.price)) x R := by
  have hc := hC x a ha
  have hxp := h.lo x p hp
  have hne : a.to ≠ x := fun e => by have := hlt p (by rw [e]; exact hp); omega
  have hns : ¬ S0 a.to := fun e => by have := hlt 0 (h.start _ e).1; omega
  have hkn : (knownB L P : Int) ≤ knownB L (putP P a.to (p + a.price)) ∧ (P a.to = none → (knownB L (putP P a.to (p + a.price)) : Int) = knownB L P + 1) := by
    cases hq : P a.to with
    | none => rw [knownB_put hn hin hq]; exact ⟨by omega, fun _ => by omega⟩
    | some u => rw [knownB_same hq]; exact ⟨Int.le_refl _, fun e => by cases e⟩
  have hmono : C * (knownB L P : Int) ≤ C * (knownB L (putP P a.to (p + a.price)) : Int) := Int.mul_le_mul_of_nonneg_left hkn.1 (by omega)
  refine ⟨fun y u hu => ?_, fun y u hu => ?_, fun y hy => ?_, fun y u hu hs => ?_, fun z hz => ?_, fun y u hu => ?_⟩
  · by_cases hy : y = a.to
    · subst hy; exact hin
    · rw [putP_other P _ hy] at hu; exact h.dom y u hu
  · by_cases hy : y = a.to
    · subst hy
      rw [putP_same] at hu; cases hu
      refine ⟨by omega, ?_⟩
      cases hq : P a.to with
      | none =>
        rw [hkn.2 hq, Int.mul_add]; omega
      | some u => have := hlt u hq; have := (h.lo _ u hq).2; omega
    · rw [putP_other P _ hy] at hu
      have := h.lo y u hu; omega
  · have hy' : y ≠ a.to := fun e => hns (e ▸ hy)
    rw [putP_other P _ hy', putP_other par _ hy']; exact h.start y hy
  · by_cases hy : y = a.to
    · subst hy
      rw [putP_same] at hu; cases hu
      refine ⟨⟨a.op, a.price, x⟩, putP_same _ _ _, ha, p, ?_, Int.le_refl _⟩
      rw [putP_other P _ (fun e => hne e.symm)]; exact hp
    · rw [putP_other P _ hy] at hu
      obtain ⟨b, hb, hg, q, hq, hle⟩ := h.from_ y u hu hs
      refine ⟨b, by rw [putP_other par _ hy]; exact hb, hg, ?_⟩
      by_cases hbt : b.to = a.to
      · rw [hbt, putP_same]
        have := hlt q (by rw [← hbt]; exact hq)
        exact ⟨_, rfl, by omega⟩
      · rw [putP_other P _ hbt]; exact ⟨q, hq, hle⟩
  · rcases mem_putA.1 hz with ⟨h1, h2⟩ | rfl
    · obtain ⟨y, hy, hPy⟩ := h.key z h1
      refine ⟨y, hy, ?_⟩
      rw [putP_other P _ (fun e => h2 (by rw [hy, e]))]; exact hPy
    · exact ⟨a.to, rfl, putP_same _ _ _⟩
  · by_cases hy : y = a.to
    · subst hy
      rw [putP_same] at hu; cases hu
      exact .inl (mem_putA.2 (.inr rfl))
    · rw [putP_other P _ hy] at hu
      rcases h.pend y u hu with h1 | h1
      · exact .inl (mem_putA.2 (.inl ⟨h1, by simp; omega⟩))
      · refine .inr fun b hb => ?_
        have low : ∀ q, P b.to = some q → q ≤ u + b.price → ∃ q', putP P a.to (p + a.price) b.to = some q' ∧ q' ≤ u + b.price := fun q hq hle => by
          by_cases hbt : b.to = a.to
          · rw [hbt, putP_same]
            have := hlt q (by rw [← hbt]; exact hq)
            exact ⟨_, rfl, by omega⟩
          · rw [putP_other P _ hbt]; exact ⟨q, hq, hle⟩
        rcases h1 b hb with ⟨q, hq, hle⟩ | ⟨rfl, h2⟩
        · exact .inl (low q hq hle)
        · rcases List.mem_cons.1 h2 with rfl | h3
          · rw [hp] at hu; cases hu
            exact .inl ⟨_, putP_same _ _ _, Int.le_refl _⟩
          · exact .inr ⟨rfl, h3⟩

/-! ### where the sides meet -/
structure MeetI (F B : Nat → Option Int) (best : Int) (at_ : Nat) (found : Bool) : Prop where
  none_ : found = false → ∀ x a b, F x = some a → B x = some b → False
  some_ : found = true → ∃ a b, F at_ = some a ∧ B at_ = some b ∧ a + b = best
  least : found = true → ∀ x a b, F x = some a → B x = some b → best ≤ a + b
theorem MeetI.swap {F B : Nat → Option Int} {best : Int} {at_ : Nat} {found : Bool} (h : MeetI F B best at_ found) : MeetI B F best at_ found :=
  ⟨fun hf x a b ha hb => h.none_ hf x b a hb ha, fun hf => by obtain ⟨a, b, h1, h2, h3⟩ := h.some_ hf; exact ⟨b, a, h2, h1, by omega⟩, fun hf x a b ha hb => by have := h.least hf x b a hb ha; omega⟩
/-- A price has fallen, and the other side has none there. -/
theorem MeetI.fallNone {F B : Nat → Option Int} {best : Int} {at_ : Nat} {found : Bool} (h : MeetI F B best at_ found) {y : Nat} {v : Int} (hB : B y = none) : MeetI (putP F y v) B best at_ found := by
  refine ⟨fun hf x a b ha hb => ?_, fun hf => ?_, fun hf x a b ha hb => ?_⟩
  · by_cases hx : x = y
    · subst hx; rw [hB] at hb; cases hb
    · rw [putP_other F v hx] at ha; exact h.none_ hf x a b ha hb
  · obtain ⟨a, b, h1, h2, h3⟩ := h.some_ hf
    refine ⟨a, b, ?_, h2, h3⟩
    rw [putP_other F v (fun e => by rw [e, hB] at h2; cases h2)]; exact h1
  · by_cases hx : x = y
    · subst hx; rw [hB] at hb; cases hb
    · rw [putP_other F v hx] at ha; exact h.least hf x a b ha hb
/-- A price has fallen where the other side has one too: better than what was met before. -/
theorem MeetI.fallBest {F B : Nat → Option Int} {best : Int} {at_ : Nat} {found : Bool} (h : MeetI F B best at_ found) {y : Nat} {v u : Int} (hB : B y = some u) (hlt : found = false ∨ v + u < best) : MeetI (putP F y v) B (v + u) y true := by
  refine ⟨fun hf => Bool.noConfusion hf, fun _ => ⟨v, u, putP_same _ _ _, hB, rfl⟩, fun _ x a b ha hb => ?_⟩
  by_cases hx : x = y
  · subst hx; rw [putP_same] at ha; cases ha; rw [hB] at hb; cases hb; exact Int.le_refl _
  · rw [putP_other F v hx] at ha
    cases hf : found with
    | false => exact (h.none_ hf x a b ha hb).elim
    | true =>
      have := h.least hf x a b ha hb
      rcases hlt with h1 | h1
      · rw [hf] at h1; cases h1
      · omega
/-- A price has fallen where the other side has one too: no better. -/
theorem MeetI.fallSame {F B : Nat → Option Int} {best : Int} {at_ : Nat} {found : Bool} (h : MeetI F B best at_ found) {y : Nat} {v u : Int} (hB : B y = some u) (hf : found = true) (hge : best ≤ v + u) (hlt : ∀ q, F y = some q → v < q) : MeetI (putP F y v) B best at_ found := by
  obtain ⟨a, b, h1, h2, h3⟩ := h.some_ hf
  have hay : at_ ≠ y := fun e => by
    rw [e] at h1 h2
    have := hlt a h1
    rw [hB] at h2; cases h2; omega
  refine ⟨fun hf' => Bool.noConfusion (hf.symm.trans hf'), fun _ => ⟨a, b, by rw [putP_other F v hay]; exact h1, h2, h3⟩, fun _ x c d hc hd => ?_⟩
  by_cases hx : x = y
  · subst hx; rw [putP_same] at hc; cases hc; rw [hB] at hd; cases hd; exact hge
  · rw [putP_other F v hx] at hc; exact h.least hf x c d hc hd

/-! ### the end -/
def Ends (A : List (Int × Int)) (B : List (Int × Int)) (found : Bool) (best : Int) : Prop := A = [] ∨ B = [] ∨ (found = true ∧ ∀ a ∈ A, ∀ b ∈ B, best ≤ a.2 + b.2)

section
variable {ops : List Wop} {L : List Nat} {Gf Gb : Nat → List SArc} {Sf Sb : Nat → Prop} {C : Int} {F B : Nat → Option Int} {pf pb : Nat → Option SArc} {Af Ab : List (Int × Int)} {sf sb : Nat} {best : Int} {at_ : Nat} {found : Bool}
/-- From the front: a state on the way waits in the queue, or the end has its price. -/
theorem front (hG : ∀ x o (i : Nat), x ∈ L → ops[i]? = some o → o.can x = true → ⟨i, 4096 * o.cost + 1, o.next x⟩ ∈ Gf x) (h : SideI Gf Sf L C F pf Af sf []) : ∀ {p : List Nat} {x y : Nat} {q c : Int}, F x = some q → q ≤ c → runOps ops x p = some y →
    (∃ p1 p2 z k, p = p1 ++ p2 ∧ runOps ops x p1 = some z ∧ runOps ops z p2 = some y ∧ F z = some k ∧ ((z : Int), k) ∈ Af ∧ k ≤ c + wayN 4096 1 ops p1) ∨ (∃ k, F y = some k ∧ k ≤ c + wayN 4096 1 ops p)
  | [], x, y, q, c, hq, hc, hr => by cases hr; exact .inr ⟨q, hq, by rw [wayN_nil]; omega⟩
  | a :: p, x, y, q, c, hq, hc, hr => by
    rcases h.pend x q hq with h1 | h1
    · exact .inl ⟨[], a :: p, x, q, rfl, rfl, hr, hq, h1, by rw [wayN_nil]; omega⟩
    · have hr0 := hr
      rw [runOps] at hr
      cases ho : ops[a]? with
      | none => rw [ho] at hr; cases hr
      | some o =>
        rw [ho] at hr; simp only at hr
        by_cases hcan : o.can x = true
        · rw [if_pos hcan] at hr
          rcases h1 _ (hG x o a (h.dom x q hq) ho hcan) with ⟨q', hq', hle⟩ | ⟨_, h2⟩
          · have e1 : ∀ r, wayN 4096 1 ops (a :: r) = (4096 * o.cost + 1) + wayN 4096 1 ops r := fun r => by
              rw [show a :: r = [a] ++ r from rfl, wayN_append, wayN_one ho]
            simp only at hq' hle
            rcases front hG h (c := c + (4096 * o.cost + 1)) hq' (by omega) hr with ⟨p1, p2, z, k, e, g1, g2, g3, g4, g5⟩ | ⟨k, g1, g2⟩
            · refine .inl ⟨a :: p1, p2, z, k, by rw [e]; rfl, ?_, g2, g3, g4, by rw [e1]; omega⟩
              rw [runOps, ho]; simp only [hcan, if_true]; exact g1
            · exact .inr ⟨k, g1, by rw [e1]; omega⟩
          · simp at h2
        · rw [if_neg hcan] at hr; cases hr
/-- From the back. -/
theorem rear (hG : ∀ x o (i : Nat), x ∈ L → ops[i]? = some o → o.can x = true → ⟨i, 4096 * o.cost + 1, x⟩ ∈ Gb (o.next x)) (hsh : Shut ops L) (h : SideI Gb Sb L C B pb Ab sb []) : ∀ {p : List Nat} {x y : Nat} {q c : Int}, x ∈ L → B y = some q → q ≤ c → runOps ops x p = some y →
    (∃ p1 p2 z k, p = p1 ++ p2 ∧ ((z : Int), k) ∈ Ab ∧ k ≤ wayN 4096 1 ops p2 + c) ∨ (∃ k, B x = some k ∧ k ≤ wayN 4096 1 ops p + c)
  | [], x, y, q, c, _, hq, hc, hr => by cases hr; exact .inr ⟨q, hq, by rw [wayN_nil]; omega⟩
  | a :: p, x, y, q, c, hx, hq, hc, hr => by
    rw [runOps] at hr
    cases ho : ops[a]? with
    | none => rw [ho] at hr; cases hr
    | some o =>
      rw [ho] at hr; simp only at hr
      by_cases hcan : o.can x = true
      · rw [if_pos hcan] at hr
        have hm := hsh.2 x hx o (List.mem_of_getElem? ho) hcan
        rcases rear hG hsh h hm hq hc hr with ⟨p1, p2, z, k, e, g1, g2⟩ | ⟨k, g1, g2⟩
        · exact .inl ⟨a :: p1, p2, z, k, by rw [e]; rfl, g1, g2⟩
        · rcases h.pend _ k g1 with h1 | h1
          · exact .inl ⟨[a], p, _, k, rfl, h1, g2⟩
          · rcases h1 _ (hG x o a hx ho hcan) with ⟨q', hq', hle⟩ | ⟨_, h2⟩
            · refine .inr ⟨q', hq', ?_⟩
              rw [show a :: p = [a] ++ p from rfl, wayN_append, wayN_one ho]
              simp only at hle; omega
            · simp at h2
      · rw [if_neg hcan] at hr; cases hr
/-- No way from the start to the end is better than what was met. -/
theorem met_least (hGf : ∀ x o (i : Nat), x ∈ L → ops[i]? = some o → o.can x = true → ⟨i, 4096 * o.cost + 1, o.next x⟩ ∈ Gf x) (hGb : ∀ x o (i : Nat), x ∈ L → ops[i]? = some o → o.can x = true → ⟨i, 4096 * o.cost + 1, x⟩ ∈ Gb (o.next x)) (hsh : Shut ops L) (h0 : ∀ o ∈ ops, 0 ≤ o.cost ∧ o.cost ≤ 100)
    (hf : SideI Gf Sf L C F pf Af sf []) (hb : SideI Gb Sb L C B pb Ab sb []) (hm : MeetI F B best at_ found) (he : Ends Af Ab found best) {p : List Nat} {x y : Nat} (hx : Sf x) (hy : Sb y) (hr : runOps ops x p = some y) : found = true ∧ best ≤ wayN 4096 1 ops p := by
  have hFx := (hf.start x hx).1
  have hBy := (hb.start y hy).1
  have both : ∀ {z : Nat} {a b : Int}, F z = some a → B z = some b → a + b ≤ wayN 4096 1 ops p → found = true ∧ best ≤ wayN 4096 1 ops p := fun {z a b} ha hb' hle => by
    cases hfd : found with
    | false => exact (hm.none_ hfd z a b ha hb').elim
    | true => have := hm.least hfd z a b ha hb'; exact ⟨rfl, by omega⟩
  rcases front hGf hf hFx (Int.le_refl 0) hr with ⟨p1, p2, z, k, e, g1, g2, g3, g4, g5⟩ | ⟨k, g1, g2⟩
  · have hw := wayN_append 4096 1 ops p1 p2
    rcases rear hGb hsh hb (hf.dom z k g3) hBy (Int.le_refl 0) g2 with ⟨r1, r2, z', k', e', f1, f2⟩ | ⟨k', f1, f2⟩
    · have hw2 := wayN_append 4096 1 ops r1 r2
      have hr1 := wayN_low (k := 4096) (st := 1) (by decide) (by decide) h0 r1
      rcases he with rfl | rfl | ⟨hfd, hall⟩
      · simp at g4
      · simp at f1
      · have := hall _ g4 _ f1
        rw [e]; rw [e'] at hw ⊢
        exact ⟨hfd, by simp only at this; omega⟩
    · exact both g3 f1 (by rw [e]; omega)
  · exact both g1 hBy (by omega)
end

end Go.Proofs.Ytdonadeodioplaa

namespace Go.Proofs.Ytdonadeodioplaa

/-- The operators from a state back to the end of a side. -/
inductive Chain (par : Nat → Option SArc) : Nat → List Nat → Nat → Prop
  | nil {x : Nat} : par x = none → Chain par x [] x
  | cons {x : Nat} {a : SArc} {out : List Nat} {e : Nat} : par x = some a → Chain par a.to out e → Chain par x (a.op :: out) e

section
variable {G : Nat → List SArc} {S0 : Nat → Prop} {L : List Nat} {C : Int} {P : Nat → Option Int} {par : Nat → Option SArc} {A : List (Int × Int)} {s : Nat}
/-- Every state with a price has a way back; the states on it fall in price, so it is no longer than L. -/
theorem SideI.chain (h : SideI G S0 L C P par A s []) (hC : ∀ y, ∀ b ∈ G y, 1 ≤ b.price) [∀ x, Decidable (S0 x)] : ∀ (n : Nat) (x : Nat) (p : Int), P x = some p → p.toNat ≤ n →
    ∃ (out : List Nat) (e : Nat) (vs : List Nat), Chain par x out e ∧ S0 e ∧ vs.length = out.length ∧ vs.Nodup ∧ (∀ y ∈ vs, ∃ q, P y = some q ∧ q ≤ p ∧ y ∈ L)
  | n, x, p, hp, hn => by
    by_cases hs : S0 x
    · exact ⟨[], x, [], .nil (h.start x hs).2, hs, rfl, List.nodup_nil, by simp⟩
    · obtain ⟨a, ha, hg, q, hq, hle⟩ := h.from_ x p hp hs
      have h1 := hC _ _ hg
      simp only at h1
      have hq0 := (h.lo _ q hq).1
      cases n with
      | zero => omega
      | succ n =>
        obtain ⟨out, e, vs, hc, he, hl, hnd, hall⟩ := SideI.chain h hC n a.to q hq (by omega)
        refine ⟨a.op :: out, e, x :: vs, .cons ha hc, he, by simp [hl], List.nodup_cons.2 ⟨fun hx => ?_, hnd⟩, fun y hy => ?_⟩
        · obtain ⟨q', hq', hle', _⟩ := hall x hx
          rw [hp] at hq'; cases hq'; omega
        · rcases List.mem_cons.1 hy with rfl | hy
          · exact ⟨p, hp, Int.le_refl _, h.dom _ _ hp⟩
          · obtain ⟨q', hq', hle', hL⟩ := hall y hy
            exact ⟨q', hq', by omega, hL⟩
theorem SideI.back (h : SideI G S0 L C P par A s []) (hC : ∀ y, ∀ b ∈ G y, 1 ≤ b.price) [∀ x, Decidable (S0 x)] {x : Nat} {p : Int} (hp : P x = some p) : ∃ out e, Chain par x out e ∧ S0 e ∧ out.length ≤ L.length := by
  obtain ⟨out, e, vs, hc, he, hl, hnd, hall⟩ := h.chain hC p.toNat x p hp (Nat.le_refl _)
  exact ⟨out, e, hc, he, by rw [← hl]; exact nodup_sub_length hnd (fun y hy => (hall y hy).choose_spec.2.2)⟩
/-- From the front side: the way back, turned round, leads to the state, for no more than its price. -/
theorem SideI.chainF {ops : List Wop} (h : SideI G S0 L C P par A s []) (hG : ∀ y, ∀ b ∈ G y, ∃ o, ops[b.op]? = some o ∧ o.can y = true ∧ b.to = o.next y ∧ b.price = 4096 * o.cost + 1) {x e : Nat} {out : List Nat} (hc : Chain par x out e) : ∀ {p : Int}, P x = some p → runOps ops e out.reverse = some x ∧ wayN 4096 1 ops out.reverse ≤ p := by
  induction hc with
  | nil hn => intro p hp; exact ⟨rfl, by rw [List.reverse_nil, wayN_nil]; exact (h.lo _ p hp).1⟩
  | @cons x a out e ha hc ih =>
    intro p hp
    have hs : ¬ S0 x := fun hs => by rw [(h.start x hs).2] at ha; cases ha
    obtain ⟨a', ha', hg, q, hq, hle⟩ := h.from_ x p hp hs
    rw [ha] at ha'; cases ha'
    obtain ⟨o, h1, h2, h3, h4⟩ := hG _ _ hg
    simp only at h1 h2 h3 h4
    obtain ⟨i1, i2⟩ := ih hq
    rw [List.reverse_cons, wayN_append, wayN_one h1, runOps_append, i1]
    refine ⟨?_, by omega⟩
    simp only [Option.bind_some, runOps, h1, h2, if_true]
    rw [← h3]
/-- From the rear side: the way back leads from the state to the end. -/
theorem SideI.chainB {ops : List Wop} (h : SideI G S0 L C P par A s []) (hG : ∀ y, ∀ b ∈ G y, ∃ o, ops[b.op]? = some o ∧ o.can b.to = true ∧ y = o.next b.to ∧ b.price = 4096 * o.cost + 1) {x e : Nat} {out : List Nat} (hc : Chain par x out e) : ∀ {p : Int}, P x = some p → runOps ops x out = some e ∧ wayN 4096 1 ops out ≤ p := by
  induction hc with
  | nil hn => intro p hp; exact ⟨rfl, by rw [wayN_nil]; exact (h.lo _ p hp).1⟩
  | @cons x a out e ha hc ih =>
    intro p hp
    have hs : ¬ S0 x := fun hs => by rw [(h.start x hs).2] at ha; cases ha
    obtain ⟨a', ha', hg, q, hq, hle⟩ := h.from_ x p hp hs
    rw [ha] at ha'; cases ha'
    obtain ⟨o, h1, h2, h3, h4⟩ := hG _ _ hg
    simp only at h1 h2 h3 h4
    obtain ⟨i1, i2⟩ := ih hq
    rw [show a.op :: out = [a.op] ++ out from rfl, wayN_append, wayN_one h1, runOps_append]
    refine ⟨?_, by omega⟩
    simp only [runOps, h1, h2, if_true, Option.bind_some]
    rw [← h3]; exact i1

/-! ### the measure -/
def weightB (L : List Nat) (m : Nat) (P : Nat → Option Int) : Nat := (L.map fun x => match P x with | some p => p.toNat | none => m).sum
theorem weightB_put {m x : Nat} {v : Int} (hv : v.toNat < m) : ∀ {L : List Nat}, x ∈ L → (∀ q, P x = some q → v.toNat < q.toNat) → weightB L m (putP P x v) < weightB L m P := by
  have one : ∀ y, (match putP P x v y with | some p => p.toNat | none => m) ≤ (match P y with | some p => p.toNat | none => m) ∨ y = x := fun y => by
    by_cases hy : y = x
    · exact .inr hy
    · rw [putP_other P v hy]; exact .inl (Nat.le_refl _)
  have hx0 : (∀ q, P x = some q → v.toNat < q.toNat) → (match putP P x v x with | some p => p.toNat | none => m) < (match P x with | some p => p.toNat | none => m) := fun h => by
    rw [putP_same]
    cases hq : P x with
    | none => exact hv
    | some q => exact h q hq
  have le : (∀ q, P x = some q → v.toNat < q.toNat) → ∀ L : List Nat, weightB L m (putP P x v) ≤ weightB L m P := fun h L => by
    induction L with
    | nil => exact Nat.le_refl _
    | cons y r ih =>
      unfold weightB at ih ⊢
      rw [List.map_cons, List.map_cons, List.sum_cons, List.sum_cons]
      rcases one y with h1 | rfl
      · omega
      · have := hx0 h; omega
  intro L
  induction L with
  | nil => intro h; simp at h
  | cons y r ih =>
    intro hx h
    have hle := le h r
    have hlt := hx0 h
    by_cases hy : y = x
    · subst hy
      unfold weightB at hle ⊢
      rw [List.map_cons, List.map_cons, List.sum_cons, List.sum_cons]; omega
    · have hxr : x ∈ r := by
        rcases List.mem_cons.1 hx with e | e
        · exact absurd e.symm hy
        · exact e
      have ih' := ih hxr h
      have h1 := one y
      unfold weightB at ih' ⊢
      rw [List.map_cons, List.map_cons, List.sum_cons, List.sum_cons]
      rcases h1 with h1 | h1
      · omega
      · exact absurd h1 hy
end

/-! ### the start -/
def startP (S : List Nat) : Nat → Option Int := fun x => if x ∈ S then some 0 else none
def startA (S : List Nat) : List (Int × Int) := S.foldl (fun A (x : Nat) => putA A (x : Int) 0) []
theorem startA_mem (S : List Nat) : ∀ z, z ∈ startA S ↔ ∃ x ∈ S, z = ((x : Int), 0) := by
  have key : ∀ (S : List Nat) (A : List (Int × Int)), (∀ z ∈ A, z.2 = 0) → ∀ z, z ∈ S.foldl (fun A (x : Nat) => putA A (x : Int) 0) A ↔ z ∈ A ∨ ∃ x ∈ S, z = ((x : Int), 0) := by
    intro S
    induction S with
    | nil => intro A _ z; simp
    | cons x r ih =>
      intro A hA z
      rw [List.foldl_cons, ih _ (fun z hz => by
        rcases mem_putA.1 hz with ⟨h, _⟩ | rfl
        · exact hA z h
        · rfl), mem_putA]
      constructor
      · rintro ((⟨h, _⟩ | rfl) | ⟨y, hy, rfl⟩)
        · exact .inl h
        · exact .inr ⟨x, by simp, rfl⟩
        · exact .inr ⟨y, by simp [hy], rfl⟩
      · rintro (h | ⟨y, hy, rfl⟩)
        · by_cases e : z.1 = (x : Int)
          · refine .inl (.inr ?_)
            have := hA z h
            cases z; simp at this e; rw [this, e]
          · exact .inl (.inl ⟨h, e⟩)
        · rcases List.mem_cons.1 hy with rfl | hy
          · exact .inl (.inr rfl)
          · exact .inr ⟨y, hy, rfl⟩
  intro z
  unfold startA
  rw [key S [] (by simp)]; simp
theorem SideI.init {G : Nat → List SArc} {L S : List Nat} {C : Int} (hC : 0 ≤ C) (hS : ∀ x ∈ S, x ∈ L) (s : Nat) : SideI G (fun x => x ∈ S) L C (startP S) (fun _ => none) (startA S) s [] := by
  have hP : ∀ {x : Nat} {p : Int}, startP S x = some p → x ∈ S ∧ p = 0 := fun {x p} h => by
    unfold startP at h
    split at h
    · cases h; exact ⟨by assumption, rfl⟩
    · cases h
  refine ⟨fun x p h => hS x (hP h).1, fun x p h => ?_, fun x hx => ⟨by unfold startP; rw [if_pos hx], rfl⟩, fun x p h hn => absurd (hP h).1 hn, fun z hz => ?_, fun x p h => .inl ?_⟩
  · rw [(hP h).2]; exact ⟨Int.le_refl _, Int.mul_nonneg hC (Int.natCast_nonneg _)⟩
  · obtain ⟨x, hx, rfl⟩ := (startA_mem S z).1 hz
    exact ⟨x, rfl, by unfold startP; rw [if_pos hx]⟩
  · rw [(hP h).2]; exact (startA_mem S _).2 ⟨x, (hP h).1, rfl⟩
/-- Before the search nothing is met but at the start. -/
theorem MeetI.init {i : Nat} {S : List Nat} (hi : i ∉ S) : MeetI (startP [i]) (startP S) 0 0 false := by
  refine ⟨fun _ x a b ha hb => ?_, fun h => Bool.noConfusion h, fun h => Bool.noConfusion h⟩
  unfold startP at ha hb
  split at ha
  · rename_i h1
    split at hb
    · rename_i h2
      rw [List.mem_singleton] at h1
      exact hi (h1 ▸ h2)
    · cases hb
  · cases ha
theorem MeetI.initMet {i : Nat} {S : List Nat} (hi : i ∈ S) : MeetI (startP [i]) (startP S) 0 i true := by
  have hP : ∀ {T : List Nat} {x : Nat} {p : Int}, startP T x = some p → p = 0 := fun {T x p} h => by
    unfold startP at h
    split at h
    · cases h; rfl
    · cases h
  refine ⟨fun h => Bool.noConfusion h, fun _ => ⟨0, 0, by unfold startP; simp, by unfold startP; rw [if_pos hi], rfl⟩, fun _ x a b ha hb => ?_⟩
  rw [hP ha, hP hb]; decide

/-- The plan at the end is best. -/
theorem both_best {ops : List Wop} {L : List Nat} {Gf Gb : Nat → List SArc} {i : Nat} {acc : Nat → Bool} {C : Int} {F B : Nat → Option Int} {pf pb : Nat → Option SArc} {Af Ab : List (Int × Int)} {sf sb : Nat} {best : Int} {at_ : Nat} {found : Bool}
    (hGf : ∀ x o (i : Nat), x ∈ L → ops[i]? = some o → o.can x = true → ⟨i, 4096 * o.cost + 1, o.next x⟩ ∈ Gf x) (hGb : ∀ x o (i : Nat), x ∈ L → ops[i]? = some o → o.can x = true → ⟨i, 4096 * o.cost + 1, x⟩ ∈ Gb (o.next x))
    (sGf : ∀ y, ∀ b ∈ Gf y, ∃ o, ops[b.op]? = some o ∧ o.can y = true ∧ b.to = o.next y ∧ b.price = 4096 * o.cost + 1) (sGb : ∀ y, ∀ b ∈ Gb y, ∃ o, ops[b.op]? = some o ∧ o.can b.to = true ∧ y = o.next b.to ∧ b.price = 4096 * o.cost + 1)
    (hsh : Shut ops L) (h0 : ∀ o ∈ ops, 0 ≤ o.cost ∧ o.cost ≤ 100) (hrun : ∀ p y, runOps ops i p = some y → y ∈ L)
    (hf : SideI Gf (fun x => x ∈ [i]) L C F pf Af sf []) (hb : SideI Gb (fun x => x ∈ L.filter acc) L C B pb Ab sb []) (hm : MeetI F B best at_ found) (he : Ends Af Ab found best) :
    (found = false ∧ LeastOf 4096 1 ops i acc (-1)) ∨
    (found = true ∧ LeastOf 4096 1 ops i acc best ∧ ∃ o1 o2 e a b, Chain pf at_ o1 i ∧ Chain pb at_ o2 e ∧ o1.length ≤ L.length ∧ o2.length ≤ L.length ∧ F at_ = some a ∧ B at_ = some b ∧ a + b = best ∧ at_ ∈ L ∧
      runOps ops i o1.reverse = some at_ ∧ runOps ops at_ o2 = some e ∧ acc e = true ∧ wayN 4096 1 ops o1.reverse = a ∧ wayN 4096 1 ops o2 = b) := by
  have low : ∀ p y, runOps ops i p = some y → acc y = true → found = true ∧ best ≤ wayN 4096 1 ops p := fun p y hr hy =>
    met_least hGf hGb hsh h0 hf hb hm he (List.mem_singleton.2 rfl) (List.mem_filter.2 ⟨hrun p y hr, hy⟩) hr
  have cf : ∀ y, ∀ b ∈ Gf y, 1 ≤ b.price := fun y b hb => by
    obtain ⟨o, h1, _, _, h4⟩ := sGf y b hb
    have := (h0 o (List.mem_of_getElem? h1)).1; omega
  have cb : ∀ y, ∀ b ∈ Gb y, 1 ≤ b.price := fun y b hb => by
    obtain ⟨o, h1, _, _, h4⟩ := sGb y b hb
    have := (h0 o (List.mem_of_getElem? h1)).1; omega
  cases hfd : found with
  | false =>
    refine .inl ⟨rfl, .inl ⟨rfl, fun p y hr => ?_⟩⟩
    cases hy : acc y with
    | false => rfl
    | true => have := (low p y hr hy).1; rw [hfd] at this; cases this
  | true =>
    obtain ⟨a, b, ha, hb', hab⟩ := hm.some_ hfd
    obtain ⟨o1, e1, c1, he1, l1⟩ := hf.back cf ha
    obtain ⟨o2, e2, c2, he2, l2⟩ := hb.back cb hb'
    rw [List.mem_singleton] at he1
    subst he1
    obtain ⟨r1, w1⟩ := hf.chainF sGf c1 ha
    obtain ⟨r2, w2⟩ := hb.chainB sGb c2 hb'
    have hacc : acc e2 = true := (List.mem_filter.1 he2).2
    have hall : runOps ops e1 (o1.reverse ++ o2) = some e2 := by rw [runOps_append, r1]; exact r2
    have hle := (low _ _ hall hacc).2
    rw [wayN_append] at hle
    have ea : wayN 4096 1 ops o1.reverse = a := by omega
    have eb : wayN 4096 1 ops o2 = b := by omega
    have hbest0 : 0 ≤ best := by have := (hf.lo _ a ha).1; have := (hb.lo _ b hb').1; omega
    exact .inr ⟨rfl, .inr ⟨hbest0, ⟨_, _, hall, hacc, by rw [wayN_append]; omega⟩, fun p y hr hy => (low p y hr hy).2⟩, o1, o2, e2, a, b, c1, c2, l1, l2, ha, hb', hab, hf.dom _ _ ha, r1, r2, hacc, ea, eb⟩

end Go.Proofs.Ytdonadeodioplaa

namespace Go.Proofs.Ytdonadeodioplaa

theorem run_cut {ops : List Wop} {p : List Nat} {x y : Nat} (h : runOps ops x p = some y) (i : Nat) : ∃ z, runOps ops x (p.take i) = some z ∧ runOps ops z (p.drop i) = some y := by
  rw [← List.take_append_drop i p, runOps_append] at h
  cases hz : runOps ops x (p.take i) with
  | none => rw [hz] at h; cases h
  | some z => rw [hz] at h; exact ⟨z, rfl, h⟩
/-- Every run has one of no greater cost that is no longer than there are states. -/
theorem short_run {ops : List Wop} {L : List Nat} (h0 : ∀ o ∈ ops, 0 ≤ o.cost ∧ o.cost ≤ 100) {x : Nat} (hL : ∀ p y, runOps ops x p = some y → y ∈ L) : ∀ (n : Nat) {p : List Nat} {y : Nat}, p.length ≤ n → runOps ops x p = some y → ∃ q, runOps ops x q = some y ∧ costN ops q ≤ costN ops p ∧ q.length ≤ L.length
  | n, p, y, hn, hr => by
    by_cases hle : p.length ≤ L.length
    · exact ⟨p, hr, Int.le_refl _, hle⟩
    · have hrep : ∃ i j, i < j ∧ j ≤ p.length ∧ runOps ops x (p.take i) = runOps ops x (p.take j) := by
        refine Classical.byContradiction fun hno => hle ?_
        have hnd : ((List.range (p.length + 1)).map fun i => (runOps ops x (p.take i)).getD 0).Nodup := by
          unfold List.Nodup
          rw [List.pairwise_iff_getElem]
          intro i j hi hj hij e
          simp only [List.getElem_map, List.getElem_range] at e
          simp only [List.length_map, List.length_range] at hi hj
          obtain ⟨zi, hzi, _⟩ := run_cut hr i
          obtain ⟨zj, hzj, _⟩ := run_cut hr j
          rw [hzi, hzj] at e
          simp only [Option.getD_some] at e
          exact hno ⟨i, j, hij, by omega, by rw [hzi, hzj, e]⟩
        have := nodup_sub_length hnd (b := L) (fun z hz => by
          obtain ⟨i, _, rfl⟩ := List.mem_map.1 hz
          obtain ⟨zi, hzi, _⟩ := run_cut hr i
          rw [hzi]; exact hL _ _ hzi)
        rw [List.length_map, List.length_range] at this; omega
      obtain ⟨i, j, hij, hj, he⟩ := hrep
      obtain ⟨z, hz1, hz2⟩ := run_cut hr j
      have hrq : runOps ops x (p.take i ++ p.drop j) = some y := by rw [runOps_append, he, hz1]; exact hz2
      have hlen : (p.take i ++ p.drop j).length < p.length := by simp only [List.length_append, List.length_take, List.length_drop]; omega
      have hcost : costN ops (p.take i ++ p.drop j) ≤ costN ops p := by
        have e1 : costN ops p = costN ops (p.take j) + costN ops (p.drop j) := by rw [← costN_append, List.take_append_drop]
        have e2 : p.take j = p.take i ++ (p.take j).drop i := by
          have := List.take_append_drop i (p.take j)
          rw [List.take_take, Nat.min_eq_left (by omega)] at this
          exact this.symm
        have e3 : costN ops (p.take j) = costN ops (p.take i) + costN ops ((p.take j).drop i) := by rw [← costN_append, ← e2]
        have := (costN_bound h0 ((p.take j).drop i)).1
        rw [costN_append]; omega
      cases n with
      | zero => omega
      | succ n =>
        obtain ⟨q, h1, h2, h3⟩ := short_run h0 hL n (by omega) hrq
        exact ⟨q, h1, by omega, h3⟩

theorem wayN_split (ops : List Wop) (p : List Nat) : wayN 4096 1 ops p = 4096 * costN ops p + (p.length : Int) := by unfold wayN; omega

/-- Both parts are cheapest, and so is the whole. -/
theorem mid_least {ops : List Wop} {L : List Nat} {i m : Nat} {acc : Nat → Bool} (h0 : ∀ o ∈ ops, 0 ≤ o.cost ∧ o.cost ≤ 100) (hL : L.length ≤ 2000) (hcl : ∀ x ∈ L, ∀ p y, runOps ops x p = some y → y ∈ L) (hi : i ∈ L) {o1 o2 : List Nat} {e : Nat} {best : Int}
    (r1 : runOps ops i o1 = some m) (r2 : runOps ops m o2 = some e) (ha : acc e = true) (l1 : o1.length ≤ L.length) (l2 : o2.length ≤ L.length) (hb : wayN 4096 1 ops o1 + wayN 4096 1 ops o2 = best) (hle : LeastOf 4096 1 ops i acc best) :
    wayN 4096 1 ops o1 / 4096 = costN ops o1 ∧ wayN 4096 1 ops o2 / 4096 = costN ops o2 ∧
    (∀ q, runOps ops i q = some m → costN ops o1 ≤ costN ops q) ∧ (∀ q y, runOps ops m q = some y → acc y = true → costN ops o2 ≤ costN ops q) ∧ (∀ q y, runOps ops i q = some y → acc y = true → costN ops o1 + costN ops o2 ≤ costN ops q) := by
  have hm := hcl i hi o1 m r1
  have hall : runOps ops i (o1 ++ o2) = some e := by rw [runOps_append, r1]; exact r2
  have least : ∀ q y, runOps ops i q = some y → acc y = true → best ≤ wayN 4096 1 ops q := fun q y hq hy => by
    rcases hle with ⟨_, h2⟩ | ⟨_, _, h3⟩
    · rw [h2 _ _ hall] at ha; cases ha
    · exact h3 q y hq hy
  have e1 := wayN_split ops o1
  have e2 := wayN_split ops o2
  refine ⟨by omega, by omega, fun q hq => ?_, fun q y hq hy => ?_, fun q y hq hy => ?_⟩
  · obtain ⟨q', h1, h2, h3⟩ := short_run h0 (hcl i hi) q.length (Nat.le_refl _) hq
    have := least (q' ++ o2) e (by rw [runOps_append, h1]; exact r2) ha
    rw [wayN_append, wayN_split ops q'] at this
    omega
  · obtain ⟨q', h1, h2, h3⟩ := short_run h0 (hcl m hm) q.length (Nat.le_refl _) hq
    have := least (o1 ++ q') y (by rw [runOps_append, r1]; exact h1) hy
    rw [wayN_append, wayN_split ops q'] at this
    omega
  · obtain ⟨q', h1, h2, h3⟩ := short_run h0 (hcl i hi) q.length (Nat.le_refl _) hq
    have := least q' y h1 hy
    rw [wayN_split ops q'] at this
    omega

/-- The cheapest cost to a state. -/
theorem pri_least {ops : List Wop} {L : List Nat} (hsh : Shut ops L) {i0 j s m : Nat} (hs : L[i0]? = some s) (hj : L[j]? = some m) {d : List Int} (hA : ∀ a ∈ arcs ops L, 0 ≤ 1 * a.cost + 0) (h : PriOk (arcs ops L) (fun a => 1 * a.cost + 0) L.length i0 d) {p : List Nat} (hr : runOps ops s p = some m) (hp : ∀ q, runOps ops s q = some m → costN ops p ≤ costN ops q) : d[j]? = some (costN ops p) := by
  have e : ∀ q, wayN 1 0 ops q = costN ops q := fun q => by unfold wayN; omega
  obtain ⟨j', hj', hw⟩ := walk_of_run hsh (k := 1) (st := 0) .nil hs hr
  obtain rfl : j' = j := nodup_ix hsh.1 hj' hj
  obtain ⟨_, x, hx, hx0, hxc⟩ := h.walk hA hw
  obtain ⟨q, y, hy, hq, hc⟩ := run_of_walk (h.real j' x hx hx0) hs
  rw [hj] at hy; cases hy
  have := hp q hq
  rw [e] at hxc hc
  rw [hx]; congr 1; omega
theorem run_of_down_cost {ops : List Wop} {L : List Nat} {acc : Nat → Bool} {i : Nat} {c : Int} (h : Down (arcs ops L) (L.map acc) i c) : ∀ x, L[i]? = some x → ∃ p y, runOps ops x p = some y ∧ acc y = true ∧ costN ops p = c := by
  induction h with
  | nil h =>
    intro x hx
    rw [List.getElem?_map, hx] at h
    exact ⟨[], x, rfl, by simpa using h, rfl⟩
  | @cons a _ ha _ ih =>
    intro x hx
    obtain ⟨x', o, h1, h2, h3, h4, h5⟩ := mem_arcs.1 ha
    rw [h1] at hx; cases hx
    obtain ⟨p, y, hp, hy, hc⟩ := ih _ h5
    exact ⟨a.op :: p, y, by rw [runOps, h2]; simp only [h3, if_true]; exact hp, hy, by rw [costN, h2, hc, h4]; rfl⟩
/-- The cheapest cost from a state. -/
theorem opt_is {ops : List Wop} {L : List Nat} (hsh : Shut ops L) (h0 : ∀ o ∈ ops, 0 ≤ o.cost ∧ o.cost ≤ 100) {acc : Nat → Bool} {D : Nat → Int} (h : CostOk (arcs ops L) (L.map acc) (L.map D)) {x y : Nat} (hx : x ∈ L) {p : List Nat} (hr : runOps ops x p = some y) (hy : acc y = true) (hl : p.length ≤ 1000000) (hp : ∀ q z, runOps ops x q = some z → acc z = true → costN ops p ≤ costN ops q) : D x = costN ops p := by
  obtain ⟨i, hi⟩ := List.mem_iff_getElem?.1 hx
  have hb := costN_bound h0 p
  have hbig : bigC = 1000000000 := rfl
  obtain ⟨z, hz, hle⟩ := (h.down (arcs_cost0 h0) (down_of_run hsh hi hr hy)).2 (by omega)
  rw [List.getElem?_map, hi] at hz
  simp only [Option.map_some, Option.some.injEq] at hz
  have h1 : D x ≤ costN ops p := by omega
  have h2 : D x < bigC := by omega
  obtain ⟨q, z, hq, hz, hc⟩ := run_of_down_cost (h.real i (D x) (by rw [List.getElem?_map, hi]; rfl) h2) x hi
  have := hp q z hq hz
  omega

end Go.Proofs.Ytdonadeodioplaa

namespace Go.Proofs.Ytdonadeodioplaa

def arcOf (e : Stp) : SArc := ⟨e.op, 4096 * e.cost + 1, e.to⟩
def arcTo (s : Nat) (e : Stp) : SArc := ⟨e.op, 4096 * e.cost + 1, s⟩
/-- The arcs from the states of a list. -/
def nextG (ops : List Wop) (ss : List Nat) (x : Nat) : List SArc := if x ∈ ss then (wsteps ops x).map arcOf else []
/-- The arcs that lead to a state, turned round. -/
def lastG (ops : List Wop) (ss : List Nat) (y : Nat) : List SArc := ss.flatMap fun s => ((wsteps ops s).filter fun e => e.to == y).map (arcTo s)

section
variable {ops : List Wop} {L : List Nat}
theorem nextG_all : ∀ x o (i : Nat), x ∈ L → ops[i]? = some o → o.can x = true → (⟨i, 4096 * o.cost + 1, o.next x⟩ : SArc) ∈ nextG ops L x := fun x o i hx ho hc => by
  unfold nextG
  rw [if_pos hx]
  exact List.mem_map.2 ⟨⟨i, o.cost, o.next x⟩, wsteps_mem.2 ⟨o, ho, hc, rfl, rfl⟩, rfl⟩
theorem lastG_all : ∀ x o (i : Nat), x ∈ L → ops[i]? = some o → o.can x = true → (⟨i, 4096 * o.cost + 1, x⟩ : SArc) ∈ lastG ops L (o.next x) := fun x o i hx ho hc => by
  unfold lastG
  refine List.mem_flatMap.2 ⟨x, hx, List.mem_map.2 ⟨⟨i, o.cost, o.next x⟩, List.mem_filter.2 ⟨wsteps_mem.2 ⟨o, ho, hc, rfl, rfl⟩, by simp⟩, rfl⟩⟩
theorem nextG_only : ∀ y, ∀ b ∈ nextG ops L y, ∃ o, ops[b.op]? = some o ∧ o.can y = true ∧ b.to = o.next y ∧ b.price = 4096 * o.cost + 1 := fun y b hb => by
  unfold nextG at hb
  split at hb
  · obtain ⟨e, he, rfl⟩ := List.mem_map.1 hb
    obtain ⟨o, h1, h2, h3, h4⟩ := wsteps_mem.1 he
    exact ⟨o, h1, h2, h4, by unfold arcOf; simp only; rw [h3]⟩
  · simp at hb
theorem lastG_only : ∀ y, ∀ b ∈ lastG ops L y, ∃ o, ops[b.op]? = some o ∧ o.can b.to = true ∧ y = o.next b.to ∧ b.price = 4096 * o.cost + 1 := fun y b hb => by
  unfold lastG at hb
  obtain ⟨s, hs, hb⟩ := List.mem_flatMap.1 hb
  obtain ⟨e, he, rfl⟩ := List.mem_map.1 hb
  obtain ⟨he, hey⟩ := List.mem_filter.1 he
  obtain ⟨o, h1, h2, h3, h4⟩ := wsteps_mem.1 he
  have : e.to = y := by simpa using hey
  exact ⟨o, h1, h2, by rw [← this]; exact h4, by unfold arcTo; simp only; rw [h3]⟩
theorem lastG_in : ∀ y, ∀ b ∈ lastG ops L y, b.to ∈ L := fun y b hb => by
  unfold lastG at hb
  obtain ⟨s, hs, hb⟩ := List.mem_flatMap.1 hb
  obtain ⟨e, _, rfl⟩ := List.mem_map.1 hb
  exact hs
theorem nextG_in (hsh : Shut ops L) : ∀ y, ∀ b ∈ nextG ops L y, b.to ∈ L := fun y b hb => by
  obtain ⟨o, h1, h2, h3, _⟩ := nextG_only y b hb
  unfold nextG at hb
  split at hb
  · rename_i hy; rw [h3]; exact hsh.2 y hy o (List.mem_of_getElem? h1) h2
  · simp at hb
theorem nextG_price (h0 : ∀ o ∈ ops, 0 ≤ o.cost ∧ o.cost ≤ 100) : ∀ y, ∀ b ∈ nextG ops L y, 1 ≤ b.price ∧ b.price ≤ 409601 := fun y b hb => by
  obtain ⟨o, h1, _, _, h4⟩ := nextG_only y b hb
  have := h0 o (List.mem_of_getElem? h1); omega
theorem lastG_price (h0 : ∀ o ∈ ops, 0 ≤ o.cost ∧ o.cost ≤ 100) : ∀ y, ∀ b ∈ lastG ops L y, 1 ≤ b.price ∧ b.price ≤ 409601 := fun y b hb => by
  obtain ⟨o, h1, _, _, h4⟩ := lastG_only y b hb
  have := h0 o (List.mem_of_getElem? h1); omega
end

end Go.Proofs.Ytdonadeodioplaa

namespace Go.Proofs.Ytdonadeodioplaa
open Go.RowKit Go.Sort Go.Proofs

/-! ### Contains -/
/-! ### the library's Sort and Compact over a row of the call's own -/
/-! ### an append of whatever slice -/
section
variable {P : Program} {w : World}
theorem run_appendS_zero (base : Nat) (t ty e : TypeId) (i : TypeInfo) (size : Nat) (ht : P.underlying t = some (.slice e)) (hi : P.info? e = some i)
    (v : Value) (n : Nat) (xs : List Value) (hown : w.ownsRow base e size v n xs) (ao : Option Addr) (c : Nat) :
    (Builtin.append_ #[t, t] ty #[v, .slice ao 0 c]).run P w = .ok v w := by
  rcases hown.2 with ⟨rfl, rfl⟩ | ⟨g, cap, cur, rfl, _, _, hnc, _⟩
  · cases ao <;> simp [Builtin.append_, run_underlying ht, sizeOf, typeInfo, hi, Builtin.lenOf, Builtin.firstCells, loadCells, loadCellsFrom]
  · cases ao <;> simp [Builtin.append_, run_underlying ht, sizeOf, typeInfo, hi, Builtin.lenOf, Builtin.firstCells, hnc, storeCells, loadCells, loadCellsFrom]
theorem grownBy_refl (w : World) (row : Option Nat) : w.grownBy w row := ⟨rfl, rfl, rfl, Nat.le_refl _, fun _ _ _ => rfl⟩
end

/-! ### Update -/
/-! ### Can, Next -/
end Go.Proofs.Ytdonadeodioplaa

namespace Go.Proofs.Ytdonadeodioplaa
open Go.RowKit

theorem ops_cost0 {t : Tsk} (ok : t.Ok) : ∀ o ∈ wordsOf t.ops, 0 ≤ o.cost ∧ o.cost ≤ 100 := fun o ho => by
  unfold wordsOf at ho
  obtain ⟨o', ho', rfl⟩ := List.mem_map.1 ho
  exact ⟨(ok.ops o' ho').cost0, (ok.ops o' ho').cost1⟩

end Go.Proofs.Ytdonadeodioplaa

namespace Go.Proofs.Ytdonadeodioplaa
open Go.RowKit

theorem reach_path {ops : List Wop} {s x : Nat} (h : Reach ops s x) : ∃ q, runOps ops s q = some x := by
  induction h with
  | refl => exact ⟨[], rfl⟩
  | step _ hy ih =>
    obtain ⟨q, hq⟩ := ih
    obtain ⟨o, ho, rfl⟩ := List.mem_map.1 hy
    obtain ⟨ho, hc⟩ := List.mem_filter.1 ho
    obtain ⟨k, hk⟩ := List.mem_iff_getElem?.1 ho
    exact ⟨q ++ [k], runOps_snoc' hq hk hc⟩
section
variable {w : World} {vi vg vo vs : Value} {t : Tsk}
end

end Go.Proofs.Ytdonadeodioplaa

namespace Go.Proofs.Ytdonadeodioplaa
open Go.RowKit Go.Shelf

theorem Tail.at {w : World} {base : Nat} {e : TypeId} {v : Value} {xs : List Value} {g off n cap : Nat} (h : Tail w base e v xs) (hv : v = .slice (some ⟨g, off, none⟩) n cap) {i : Nat} {x : Value} (hx : xs[i]? = some x) : w.cell? ⟨g, off + i, none⟩ = some x := by
  obtain ⟨g', off', cap', cur, hv', hb, hg, h1, h2, h3, h4⟩ := h
  rw [hv'] at hv
  simp only [Value.slice.injEq, Option.some.injEq, Addr.mk.injEq] at hv
  obtain ⟨⟨rfl, rfl, _⟩, rfl, rfl⟩ := hv
  have hi := (List.getElem?_eq_some_iff.1 hx).1
  rw [cell_of_blk hg]
  have := congrArg (fun l : List Value => l[i]?) h4
  simp only [List.getElem?_take, List.getElem?_drop, hx, if_pos hi] at this
  simpa using this

theorem Tail.sl {w : World} {base : Nat} {e : TypeId} {v : Value} {xs : List Value} (h : Tail w base e v xs) : Sl w v xs.length xs := by
  obtain ⟨g, off, cap, hv, h1, h2, _, _⟩ := h.form
  exact ⟨_, cap, hv, by omega, fun _ => ⟨g, off, rfl, fun j x hx => h.at hv hx⟩⟩

section
variable {w0 : World} {b1 b2 b3 : Nat} {L : List (Nat × TypeId × Value)} {bi i : Nat} {T : List Ent} {ds : List Deferred} {Bs to : Nat} {vl : Value} {W : World}
end

end Go.Proofs.Ytdonadeodioplaa
