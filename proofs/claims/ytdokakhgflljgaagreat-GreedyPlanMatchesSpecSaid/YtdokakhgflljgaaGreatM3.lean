/- The reference's ReachedFrom: the breadth-first list of states. (*space.Words).Start, Goal, Steps, and the iterator that Steps returns. The tree of a breadth-first search and the least of the shortest plans. Nothing here speaks of one program. The plain law of the reference's arcs, steps to go and shortest ways. Nothing here speaks of one program. Slices of slices, slices of arcs; the reference's Place, Goals, StateOk, Reached, Explored. The reference's Arcs. No condition beyond what each theorem says. -/
import Derived.Test.YtdokakhgflljgaaGreatM2
import Derived.Test.YtdokakhgflljgaaGreatM1
import Derived.RangeFuncNested
import Derived.RangeFuncBound
import Derived.RangeFuncCalls
import Derived.RangeFuncLeaves
import Derived.Shelf.Abstract
import Derived.Shelf.RegionOpen
import Derived.OwnWalkIn
import Derived.TacticsInMore
import Derived.LoopNIn
import Derived.LoopIn

namespace Go.Proofs.YtdokakhgflljgaaGreat
open Go.RowKit

theorem Tryz.info22 : (Tryz.prog.info? 22).map (fun i => (i.zero, i.size, i.bytes)) = some (some (.slice none 0 0), 1, 24) := by kernel_rfl

theorem Ints.keepsS {S : Nat → Prop} {w w' : World} {v : Value} {l : List Int} (h : Ints w v l) (hk : Keeps S w w') (hs : 0 < l.length → ∀ k, v.ownBlock = some k → ¬ S k) : Ints w' v l := by
 obtain ⟨ao, cap, hv, hm, h⟩ := h
 refine ⟨ao, cap, hv, hm, fun hn => ?_⟩
 obtain ⟨b, off, ha, hc⟩ := h hn
 exact ⟨b, off, ha, fun j x hj => hk.cell (hc j x hj) (hs hn b (by rw [hv, ha]; rfl))⟩
theorem Ints.lt {w : World} {v : Value} {l : List Int} (h : Ints w v l) (h0 : 0 < l.length) (k : Nat) (hk : v.ownBlock = some k) : k < w.heap.size := by
 obtain ⟨ao, cap, hv, hm, h⟩ := h
 obtain ⟨b, off, ha, hc⟩ := h h0
 rw [hv, ha] at hk
 simp [Value.ownBlock] at hk
 subst hk
 have := World.block_lt_of_cell? w _ (hc 0 _ (by rw [List.getElem?_map, List.getElem?_eq_getElem h0]; rfl))
 simpa using this

/-- The rows of ReachedFrom: the states and their words. -/
structure Rows (W : World) (base : Nat) (v vw : Value) (L : List Nat) (vs : List Value) : Prop where
 out : W.ownsRow base 22 1 v L.length vs
 words : W.ownsRow base 3 1 vw L.length (L.map fun x : Nat => Value.int .i64 (x : Int))
 st : ∀ (i : Nat) (x : Nat), L[i]? = some x → ∃ u, vs[i]? = some u ∧ Ints W u (facts x) ∧ (0 < (facts x).length → ∀ k, u.ownBlock = some k → v.ownBlock ≠ some k ∧ vw.ownBlock ≠ some k)

theorem Rows.apart {W : World} {base : Nat} {v vw : Value} {L : List Nat} {vs : List Value} (h : Rows W base v vw L vs) (k : Nat) (hk : v.ownBlock = some k) : vw.ownBlock ≠ some k := by
 intro e
 rcases h.out.2 with ⟨rfl, _⟩ | ⟨g, cap, cur, rfl, _, hg, _⟩
 ·simp [Value.ownBlock] at hk
 ·rcases h.words.2 with ⟨rfl, _⟩ | ⟨g', cap', cur', rfl, _, hg', _⟩
  ·simp [Value.ownBlock] at e
  ·simp [Value.ownBlock] at hk e
   subst hk; subst e
   rw [hg] at hg'; simp at hg'

theorem Rows.keeps0 {W W' : World} {base : Nat} {v vw : Value} {L : List Nat} {vs : List Value} (h : Rows W base v vw L vs) (hk : Keeps (fun _ => False) W W') : Rows W' base v vw L vs :=
 ⟨hk.ownsRow h.out (fun _ _ h => h), hk.ownsRow h.words (fun _ _ h => h), fun i x hx => by
  obtain ⟨u, h1, h2, h3⟩ := h.st i x hx
  exact ⟨u, h1, h2.keeps0 hk, h3⟩⟩

/-- The rows with one state more. -/
theorem Rows.snoc {W7 W8 W9 : World} {base : Nat} {v vw vo' vw' vn : Value} {Q : List Nat} {vs : List Value} {y : Nat} (h : Rows W7 base v vw Q vs) (hn : Ints W7 vn (facts y))
  (hnb : ∀ k, vn.ownBlock = some k → v.ownBlock ≠ some k ∧ vw.ownBlock ≠ some k) (hnl : ∀ k, vn.ownBlock = some k → k < W7.heap.size)
  (K78 : Keeps (fun k => v.ownBlock = some k) W7 W8) (ho : W8.ownsRow base 22 1 vo' (Q.length + 1) (vs ++ [vn])) (hg : ∀ k, vo'.ownBlock = some k → v.ownBlock = some k ∨ W7.heap.size ≤ k)
  (K89 : Keeps (fun k => vw.ownBlock = some k) W8 W9) (hw : W9.ownsRow base 3 1 vw' (Q.length + 1) (Q.map (fun x : Nat => Value.int .i64 (x : Int)) ++ [.int .i64 (y : Int)])) (hg2 : ∀ k, vw'.ownBlock = some k → vw.ownBlock = some k ∨ W8.heap.size ≤ k) :
  Rows W9 base vo' vw' (Q ++ [y]) (vs ++ [vn]) := by
 have hlv : ∀ k, v.ownBlock = some k → k < W7.heap.size := fun k hk => (World.ownsRow.lt h.out k hk).2
 have hlw : ∀ k, vw.ownBlock = some k → k < W7.heap.size := fun k hk => (World.ownsRow.lt h.words k hk).2
 have hsz := K78.size
 refine ⟨?_, ?_, fun i x hx => ?_⟩
 ·rw [List.length_append]
  refine K89.ownsRow ho (fun k hk e => ?_)
  rcases hg k hk with h1 | h1
  ·exact h.apart k h1 e
  ·have := hlw k e; omega
 ·rw [List.length_append, List.map_append]; exact hw
 ·by_cases hlt : i < Q.length
  ·rw [List.getElem?_append_left hlt] at hx
   obtain ⟨u, h1, h2, h3⟩ := h.st i x hx
   have hlv2 : i < vs.length := (List.getElem?_eq_some_iff.1 h1).1
   refine ⟨u, by rw [List.getElem?_append_left hlv2]; exact h1, ?_, ?_⟩
   ·exact (h2.keepsS K78 (fun h0 k hk e => (h3 h0 k hk).1 e)).keepsS K89 (fun h0 k hk e => (h3 h0 k hk).2 e)
   ·intro h0 k hk
    have hl := Ints.lt h2 h0 k hk
    refine ⟨fun e => ?_, fun e => ?_⟩
    ·rcases hg k e with h4 | h4
     ·exact (h3 h0 k hk).1 h4
     ·omega
    ·rcases hg2 k e with h4 | h4
     ·exact (h3 h0 k hk).2 h4
     ·omega
  ·have hvl : vs.length = Q.length := by simpa using h.out.1
   have hil := (List.getElem?_eq_some_iff.1 hx).1
   have hi : i = Q.length := by simp at hil; omega
   subst hi
   rw [List.getElem?_append_right (Nat.le_refl _)] at hx
   simp at hx; subst hx
   refine ⟨vn, by rw [← hvl, List.getElem?_append_right (Nat.le_refl _)]; simp, ?_, ?_⟩
   ·exact (hn.keepsS K78 (fun _ k hk e => (hnb k hk).1 e)).keepsS K89 (fun _ k hk e => (hnb k hk).2 e)
   ·intro h0 k hk
    have hl := hnl k hk
    refine ⟨fun e => ?_, fun e => ?_⟩
    ·rcases hg k e with h4 | h4
     ·exact (hnb k hk).1 h4
     ·omega
    ·rcases hg2 k e with h4 | h4
     ·exact (hnb k hk).2 h4
     ·omega

/-- A word is that of a set of facts below n. -/
def Good (n : Int) (x : Nat) : Prop := isSetB (facts x) n = true ∧ wd (facts x) = x

theorem good_wd {n : Int} (hn : n ≤ 32) {s : List Int} (hs : isSetB s n = true) : Good n (wd s) := by
 unfold Good
 rw [facts_wd (isSet_mono hs hn)]
 exact ⟨hs, rfl⟩
theorem good_next {n : Int} (hn : n ≤ 32) {o : Opr} (ho : o.Ok n) {x : Nat} (hx : Good n x) : appL o (facts x) = o.word.can x ∧ aftL n o (facts x) = facts (o.word.next x) ∧ Good n (o.word.next x) := by
 have h1 := appL_word ho hx.1
 have h2 := wd_aftL hn ho hx.1
 rw [hx.2] at h1 h2
 have h3 := isSet_aftL n o (facts x)
 refine ⟨h1, ?_, ?_⟩
 ·rw [← h2, facts_wd (isSet_mono h3 hn)]
 ·rw [← h2]; exact good_wd hn h3

theorem nexts_take {ops : List Wop} {j : Nat} {o : Wop} (h : ops[j]? = some o) (x : Nat) : nexts (ops.take (j + 1)) x = nexts (ops.take j) x ++ (if o.can x = true then [o.next x] else []) := by
 unfold nexts
 rw [take_getS h, List.filter_append, List.map_append]
 cases hc : o.can x <;> simp [hc]

theorem freshs_append (xs ys : List Nat) : ∀ seen, freshs seen (xs ++ ys) = freshs seen xs ++ freshs (seen ++ freshs seen xs) ys := by
 induction xs with
 | nil => intro seen; simp [freshs]
 | cons x r ih =>
  intro seen
  rw [List.cons_append, freshs, freshs]
  split
  ·exact ih _
  ·rw [ih]; simp

theorem nexts_split (ops : List Wop) (j x : Nat) : nexts ops x = nexts (ops.take j) x ++ nexts (ops.drop j) x := by
 unfold nexts
 rw [← List.map_append, ← List.filter_append, List.take_append_drop]

/-- What ReachedFrom hands back. -/
def FromPost (ops : List Wop) (s : Nat) (w : World) (e : Ending) (w' : World) : Prop := Keeps (fun _ => False) w w' ∧
 ((reached ops s = none ∧ e = .returned (.tuple #[.slice none 0 0, .bool false])) ∨
   (∃ l, reached ops s = some l ∧ ∃ v vw vs, e = .returned (.tuple #[v, .bool true]) ∧ Rows w' w.heap.size v vw l vs))

set_option maxRecDepth 100000 in
set_option maxHeartbeats 4000000 in
theorem reachedFrom_any (w : World) (vi vg vo va : Value) (t : Tsk) (s : List Int) (h : TaskAt w vi vg vo t) (ok : t.Ok) (hs : Ints w va s) (hset : isSetB s t.n = true) :
  Calls Tryz.prog 35 #[.agg #[.int .i64 t.n, vi, vg, vo], va] w (FromPost (wordsOf t.ops) (wd s) w) := by
 obtain ⟨i0, hi0, hz0, hz1, hz2⟩ := info_parts Tryz.info3
 obtain ⟨j0, hj0, jz0, jz1, jz2⟩ := info_parts Tryz.info22
 obtain ⟨ai, ci, h1, _⟩ := h.init.form
 obtain ⟨ag, cg, h2, _⟩ := h.goal.form
 obtain ⟨ao, co, h3, hmo⟩ := h.ops.form
 obtain ⟨aa, cs, h4, _⟩ := hs.form
 subst h1 h2 h3 h4
 have hn32 : t.n ≤ 32 := by have := ok.n1; omega
 have hs32 := isSet_mono hset hn32
 have HB := Lib.hid (Four.new w (.int .i64 t.n) (.slice ai t.init.length ci) (.slice ag t.goal.length cg) (.slice ao t.ops.length co) 25)
 have K1 := (Keeps.refl (fun _ => False) w).alloc (.cells #[.int .i64 t.n, .slice ai t.init.length ci, .slice ag t.goal.length cg, .slice ao t.ops.length co] 25)
 have HT := Lib.hid (h.keeps0 K1); have HSS := Lib.hid (show Ints _ (.slice aa s.length cs) s from hs.keeps0 K1)
 have HK := Lib.hid K1; have OK := Lib.hid ok; have SET := Lib.hid hset; have S32 := Lib.hid hs32
 clear h hs K1 ok hset hs32
 go_enter Tryz.func35, Tryz.ntmps35
 go_upto_region 1 with fail
 generalize (w.alloc (.cells #[.int .i64 t.n, .slice ai t.init.length ci, .slice ag t.goal.length cg, .slice ao t.ops.length co] 25)) = w1 at HB HT HSS HK ⊢
 have hbx := HB.out.lt
 have KA := (Keeps.refl (fun _ => False) w1).alloc (.cells #[.slice aa s.length cs] 22)
 have HB2 := Lib.hid (HB.out.keeps0 KA); have HT2 := Lib.hid (HT.out.keeps0 KA); have HS2 := Lib.hid (show Ints _ (.slice aa s.length cs) s from HSS.out.keeps0 KA)
 have HR2 := Lib.hid (heap_alloc_new w1 (.cells #[.slice aa s.length cs] 22))
 have HK2 := Lib.hid (HK.out.trans KA)
 clear KA
 go_wp2_with fail
 refine (rword_any _ _ s HS2.out S32.out).mono ?_; rintro e w2 ⟨rfl, rfl⟩
 go_wp2_with fail
 have hbx' := HB2.out.lt
 have HR3 := Lib.hid (show Rows ((w1.alloc (.cells #[.slice aa s.length cs] 22)).alloc (.cells #[.int .i64 ((wd s : Nat) : Int)] 3)) w1.heap.size (.slice (some ⟨w1.heap.size, 0, none⟩) 1 1) (.slice (some ⟨w1.heap.size + 1, 0, none⟩) 1 1) [wd s] [.slice aa s.length cs] by
  have n2 := heap_alloc_new (w1.alloc (.cells #[.slice aa s.length cs] 22)) (.cells #[.int .i64 ((wd s : Nat) : Int)] 3)
  rw [World.size_alloc] at n2
  have k2 := (Keeps.refl (fun _ => False) (w1.alloc (.cells #[.slice aa s.length cs] 22))).alloc (.cells #[.int .i64 ((wd s : Nat) : Int)] 3)
  refine ⟨⟨by simp, .inr ⟨w1.heap.size, 1, _, rfl, Nat.le_refl _, k2.heap HR2.out (fun h => h), by simp, by unfold maxLen; omega, by simp, by simp⟩⟩, ⟨by simp, .inr ⟨w1.heap.size + 1, 1, _, rfl, by omega, n2, by simp, by unfold maxLen; omega, by simp, by simp⟩⟩, fun i x hx => ?_⟩
  cases i with
  | zero =>
   simp at hx; subst hx
   refine ⟨_, rfl, ?_, fun h0 k hk => ?_⟩
   ·rw [facts_wd S32.out]; exact HS2.out.keeps0 k2
   ·rw [facts_wd S32.out] at h0
    have := Ints.lt HSS.out h0 k hk
    simp [Value.ownBlock]; omega
  | succ i => simp at hx)
 have HK3 := Lib.hid (show Keeps (fun _ => False) w1 ((w1.alloc (.cells #[.slice aa s.length cs] 22)).alloc (.cells #[.int .i64 ((wd s : Nat) : Int)] 3)) from ((Keeps.refl _ _).alloc _).alloc _)
 generalize ((w1.alloc (.cells #[.slice aa s.length cs] 22)).alloc (.cells #[.int .i64 ((wd s : Nat) : Int)] 3)) = w2 at HR3 HK3 ⊢
 clear HB2 HT2 HS2 HR2 HK2 hbx' hbx
 go_loopw [6, 7, 8] (fun v6 v7 i8 wr => ∃ (i : Nat) (L : List Nat) (vs : List Value), bfs (wordsOf t.ops) (wd s) i = some L ∧ i ≤ L.length ∧ (∀ x ∈ L, Good t.n x) ∧ i8 = .int .i64 (i : Int) ∧ Rows wr w1.heap.size v6 v7 L vs ∧ Keeps (fun _ => False) w1 wr) (fun _ _ i8 _ => 2001 - (intOf i8).toNat)
 case atStart => exact ⟨0, [wd s], _, rfl, by simp, by intro x hx; simp at hx; subst hx; exact good_wd (by have := OK.out.n1; omega) SET.out, rfl, HR3.out, HK3.out⟩
 case round =>
  obtain ⟨i, L, vs, hb, hil, hg, rfl, hr, hkw⟩ := hrel
  have hfew := (bfs_ok hb).few
  have HBF := Lib.hid hb; have HG := Lib.hid hg; have HR := Lib.hid hr; have KW := Lib.hid hkw
  have hbr := (HB.out.keeps0 hkw).lt
  obtain ⟨d0, d1, d2, d3⟩ := HB.out.keeps0 hkw
  obtain ⟨av, cv, hav⟩ := ownsRow_form1 hr.out
  obtain ⟨aw, cw, haw⟩ := ownsRow_form1 hr.words
  subst hav haw
  clear hb hg hr hkw
  by_cases hlt : i < L.length
  ·obtain ⟨x, hx⟩ : ∃ x, L[i]? = some x := ⟨_, List.getElem?_eq_getElem hlt⟩
   have HX := Lib.hid hx
   clear hx
   have hx32 : Good t.n x := HG.out x (List.mem_of_getElem? HX.out)
   have HGX := Lib.hid hx32
   clear hx32
   go_upto_region 7 with fail
   go_loopw [6, 7, 9] (fun v6 v7 i9 wq => ∃ (j : Nat) (vs : List Value), j ≤ t.ops.length ∧ i9 = .int .i64 (j : Int) ∧ (L ++ freshs L (nexts ((wordsOf t.ops).take j) x)).length ≤ 2000 ∧ Rows wq w1.heap.size v6 v7 (L ++ freshs L (nexts ((wordsOf t.ops).take j) x)) vs ∧ Keeps (fun _ => False) w1 wq) (fun _ _ i9 _ => t.ops.length - (intOf i9).toNat)
   case atStart => exact ⟨0, vs, by omega, rfl, by simpa [nexts, freshs] using hfew, by simpa [nexts, freshs] using HR.out, KW.out⟩
   case round =>
    obtain ⟨j, vs2, hj, rfl, hfew2, hr2, hkq⟩ := hrel
    generalize hQ : L ++ freshs L (nexts ((wordsOf t.ops).take j) x) = Q at hfew2 hr2
    have HQ := Lib.hid hQ; have HR2 := Lib.hid hr2; have KQ := Lib.hid hkq
    have hbq := (HB.out.keeps0 hkq).lt
    obtain ⟨q0, q1, q2, q3⟩ := HB.out.keeps0 hkq
    obtain ⟨av2, cv2, hav2⟩ := ownsRow_form1 hr2.out
    obtain ⟨aw2, cw2, haw2⟩ := ownsRow_form1 hr2.words
    subst hav2 haw2
    clear hQ hr2 hkq d0 d1 d2 d3 hbr
    by_cases hjl : j < t.ops.length
    ·obtain ⟨o, ho⟩ : ∃ o, t.ops[j]? = some o := ⟨_, List.getElem?_eq_getElem hjl⟩
     have HOO := Lib.hid ho
     have hok := OK.out.ops o (List.mem_of_getElem? ho)
     obtain ⟨hap, haf, hgn⟩ := good_next (by have := OK.out.n1; omega : t.n ≤ 32) hok HGX.out
     have HAP := Lib.hid hap; have HAF := Lib.hid haf; have HGN := Lib.hid hgn
     have hwo : (wordsOf t.ops)[j]? = some o.word := by unfold wordsOf; rw [List.getElem?_map, ho]; rfl
     have HNT := Lib.hid (nexts_take hwo x)
     clear ho hok hap haf hgn hwo
     have hQi : Q[i]? = some x := by rw [← HQ.out, List.getElem?_append_left hlt]; exact HX.out
     have hQl : i < Q.length := (List.getElem?_eq_some_iff.1 hQi).1
     obtain ⟨u, hu, hiu, hua⟩ := HR2.out.st i x hQi
     obtain ⟨gq, capq, hvq, hg1, hg2⟩ := HR2.out.out.form (by omega)
     simp only [Value.slice.injEq] at hvq
     obtain ⟨rfl, _, rfl⟩ := hvq
     have hcu : wr.cell? ⟨gq, i, none⟩ = some u := by
      have := World.ownsRow.cells HR2.out.out (g := gq) rfl i u hu
      have hadd : (⟨gq, 0, none⟩ : Addr).add i = ⟨gq, i, none⟩ := by unfold Addr.add; split <;> simp_all
      rwa [hadd] at this
     obtain ⟨au, cu, hfu, _⟩ := hiu.form
     have HIU := Lib.hid hiu; have HUA := Lib.hid hua; have HTQ := Lib.hid (HT.out.keeps0 KQ.out)
     subst hfu
     clear hQi hu hiu hua
     go_upto_region 9 with fail
     go_still_tail 6, (by kernel_rfl)
     change wpList _ _ _ _ _ wr.drew
     have KD := (Keeps.refl (fun _ => False) wr).drew
     have HTD := Lib.hid (HTQ.out.keeps0 KD); have HID := Lib.hid (show Ints wr.drew (.slice au (facts x).length cu) (facts x) from HIU.out.keeps0 KD)
     have HRD := Lib.hid (HR2.out.keeps0 KD); have KDD := Lib.hid (KQ.out.trans KD)
     have hcu2 := KD.cell hcu (fun h => h)
     clear KD hcu q0 q1 q2 q3 HTQ HIU HR2 KQ
     generalize wr.drew = w4 at HTD HID HRD KDD hcu2 ⊢
     go_wp2_with fail
     refine (applies_any _ _ _ _ _ t (facts x) j o HTD.out HID.out HOO.out).mono ?_; rintro e w5 ⟨rfl, hk5⟩
     rw [HAP.out]
     have HR5 := Lib.hid (HRD.out.keeps0 hk5); have HT5 := Lib.hid (HTD.out.keeps0 hk5); have HI5 := Lib.hid (show Ints w5 (.slice au (facts x).length cu) (facts x) from HID.out.keeps0 hk5); have K5 := Lib.hid (KDD.out.trans hk5)
     have hcu5 := hk5.cell hcu2 (fun h => h)
     clear hk5 HRD HTD HID KDD hcu2
     cases hcan : o.word.can x with
     | false =>
      have HSQ := Lib.hid (show L ++ freshs L (nexts ((wordsOf t.ops).take (j + 1)) x) = Q by rw [HNT.out, hcan]; simpa using HQ.out)
      clear hcan
      go_wp2_with fail
      go_roundw
      case rel => exact ⟨j + 1, vs2, by omega, by go_num, by rw [HSQ.out]; exact hfew2, by rw [HSQ.out]; exact HR5.out, K5.out⟩
      case measure => simp [intOf]; omega
     | true =>
      have HCAN := Lib.hid hcan
      clear hcan
      have hb5 := (HB.out.keeps0 K5.out).lt
      obtain ⟨q0, q1, q2, q3⟩ := HB.out.keeps0 K5.out
      go_upto_region 10 with fail
      go_still_tail 6, (by kernel_rfl)
      change wpList _ _ _ _ _ w5.drew
      have KD := (Keeps.refl (fun _ => False) w5).drew
      have HTD := Lib.hid (HT5.out.keeps0 KD); have HID := Lib.hid (show Ints w5.drew (.slice au (facts x).length cu) (facts x) from HI5.out.keeps0 KD)
      have hcu6 := KD.cell hcu5 (fun h => h)
      have HRD := Lib.hid (HR5.out.keeps0 KD); have KDD := Lib.hid (K5.out.trans KD)
      clear KD hcu5 q0 q1 q2 q3 HT5 HI5 HR5 K5 hb5
      generalize w5.drew = w6 at HTD HID HRD KDD hcu6 ⊢
      go_wp2_with fail
      refine (after_any _ _ _ _ _ t (facts x) j o HTD.out HID.out HOO.out OK.out.n0 (by have := OK.out.n1; omega)).mono ?_; rintro e w7 ⟨vn, rfl, hown7, hk7⟩
      rw [HAF.out] at hown7
      have HI7 := Lib.hid (show Ints w7 vn (facts (o.word.next x)) from Sl.of_own hown7 |> fun h => by simpa [Ints] using h)
      have HLO := Lib.hid (fun k hk => World.ownsRow.lt hown7 k hk)
      obtain ⟨an, cn, hvn⟩ := ownsRow_form1 hown7
      subst hvn
      have HR7 := Lib.hid (HRD.out.keeps0 hk7); have K7 := Lib.hid (KDD.out.trans hk7)
      have hs6 := hk7.size
      clear hown7 hk7 HTD HID KDD hcu6
      go_wp2_with fail
      refine (rword_any _ _ _ HI7.out (isSet_mono HGN.out.1 (by have := OK.out.n1; omega))).mono ?_; rintro e w8 ⟨rfl, rfl⟩
      rw [HGN.out.2]
      go_wp2_with fail
      have HW7 := Lib.hid (show Ints w7 (.slice aw2 Q.length cw2) (Q.map fun y : Nat => (y : Int)) by
       have h := Sl.of_own HR7.out.words
       unfold Ints
       rw [List.length_map, List.map_map]
       exact h)
      refine (has_any _ _ _ _ HW7.out).mono ?_; rintro e w8 ⟨rfl, rfl⟩
      have hsnoc := freshs_snoc (nexts ((wordsOf t.ops).take j) x) (o.word.next x) L
      rw [HQ.out] at hsnoc
      by_cases hmem : o.word.next x ∈ Q
      ·have HD : Hid (decide (((o.word.next x : Nat) : Int) ∈ Q.map fun y : Nat => (y : Int)) = true) := by
        unfold Hid; rw [decide_eq_true_eq]; exact List.mem_map.2 ⟨_, hmem, rfl⟩
       have HSQ := Lib.hid (show L ++ freshs L (nexts ((wordsOf t.ops).take (j + 1)) x) = Q by
        rw [HNT.out, HCAN.out, if_pos rfl, hsnoc, if_pos hmem, List.append_nil]; exact HQ.out)
       rw [HD.out]
       clear hsnoc hmem
       go_wp2_with fail
       go_roundw
       case rel => exact ⟨j + 1, vs2, by omega, by go_num, by rw [HSQ.out]; exact hfew2, by rw [HSQ.out]; exact HR7.out, K7.out⟩
       case measure => simp [intOf]; omega
      ·have HD : Hid (decide (((o.word.next x : Nat) : Int) ∈ Q.map fun y : Nat => (y : Int)) = false) := by
        unfold Hid; rw [decide_eq_false_iff_not]; intro h; obtain ⟨y, hy, e⟩ := List.mem_map.1 h; have : y = o.word.next x := by omega
        exact hmem (this ▸ hy)
       rw [HD.out]
       have hsn2 : L ++ freshs L (nexts ((wordsOf t.ops).take (j + 1)) x) = Q ++ [o.word.next x] := by
        rw [HNT.out, HCAN.out, if_pos rfl, hsnoc, if_neg hmem, ← List.append_assoc, HQ.out]
       by_cases h2000 : Q.length = 2000
       ·have HNO := Lib.hid (show reached (wordsOf t.ops) (wd s) = none by
         refine reached_of_none (i := i + 1) ?_ (by omega)
         rw [bfs_step HBF.out HX.out, if_neg ?_]
         rw [nexts_split (wordsOf t.ops) (j + 1) x, freshs_append, ← List.append_assoc, hsn2]
         simp only [List.length_append, List.length_singleton]
         omega)
        have hq : ((Q.length : Int) == 2000) = true := by rw [h2000]; rfl
        clear hsnoc hmem hsn2
        go_wp2_with fail
        refine bodyPost_ret (v := .tuple #[.slice none 0 0, .bool false]) (by simp [results, Tryz.results35, go_sem]) rfl ?_
        exact ⟨HK.out.trans K7.out, .inl ⟨HNO.out, rfl⟩⟩
       ·have HSQ := Lib.hid hsn2
        have hq : ((Q.length : Int) == 2000) = false := by simp; omega
        have hq2 : Q.length < 2000 := by omega
        have hs7 := K7.out.size
        have HNB := Lib.hid (show ∀ k, (Value.slice an (facts (o.word.next x)).length cn).ownBlock = some k → (Value.slice (some ⟨gq, 0, none⟩) Q.length cv2).ownBlock ≠ some k ∧ (Value.slice aw2 Q.length cw2).ownBlock ≠ some k from fun k hk => by
         have h1 := (HLO.out k hk).1
         refine ⟨fun e => ?_, fun e => ?_⟩
         ·have := (World.ownsRow.lt HRD.out.out k e).2; omega
         ·have := (World.ownsRow.lt HRD.out.words k e).2; omega)
        clear hsnoc hmem hsn2 h2000
        go_wp2_with (at_builtin; refine wpList_append_d rfl _ _ _ rfl w1.heap.size 22 j0 _ 1 24 Tryz.underlying37 hj0 jz0 jz1 jz2 rfl (by omega) _ Q.length vs2 (by rfl) (World.ownsRow.alloc HR7.out.out (.cells #[.slice an (facts (o.word.next x)).length cn] 22)) ⟨w7.heap.size, 0, none⟩ 1 1 [.slice an (facts (o.word.next x)).length cn] (by rfl) (by rfl) ?hnews ?hone (by omega) (by unfold maxLen; omega) (by omega) (by simp; omega) (w7.heap.size + 1) (by simp) ?_)
        case hnews => exact World.news_of_block (cs := #[.slice an (facts (o.word.next x)).length cn]) (t := 22) (fr := (0, 0)) (heap_alloc_new _ _)
        case hone => simp [Value.oneCell']
        intro gg cap2 w8 hown hgrow hat hlt4 hd4
        have hk8 : Keeps (fun k => (Value.slice (some ⟨gq, 0, none⟩) Q.length cv2).ownBlock = some k) w7 w8 := ((Keeps.refl _ w7).alloc _).grown hgrow (fun k hk => .inl hk)
        have HOW := Lib.hid hown; have K78 := Lib.hid hk8
        have HG1 := Lib.hid (show ∀ k, (Value.slice (some ⟨gg, 0, none⟩) (Q.length + 1) cap2).ownBlock = some k → (Value.slice (some ⟨gq, 0, none⟩) Q.length cv2).ownBlock = some k ∨ w7.heap.size ≤ k from fun k hk => by
         simp [Value.ownBlock] at hk
         subst hk
         rcases hat with h | h
         ·exact .inl h
         ·exact .inr (by omega))
        have HI8 := Lib.hid (HI7.out.keepsS hk8 (fun _ k hk e => (HNB.out k hk).1 e))
        have HW8 := Lib.hid (hk8.ownsRow HR7.out.words (fun k hk e => HR7.out.apart k e hk))
        have hs8 := hk8.size
        clear hown hgrow hat hd4 hk8
        go_wp2_with fail
        refine (rword_any _ _ _ HI8.out (isSet_mono HGN.out.1 (by have := OK.out.n1; omega))).mono ?_; rintro e w9 ⟨rfl, rfl⟩
        rw [HGN.out.2]
        go_wp2_with (at_builtin; refine wpList_append_d rfl _ _ _ rfl w1.heap.size 3 i0 _ 1 8 Tryz.underlying22 hi0 hz0 hz1 hz2 rfl (by omega) _ Q.length (Q.map fun x : Nat => Value.int .i64 (x : Int)) (by rfl) (World.ownsRow.alloc HW8.out (.cells #[.int .i64 ((o.word.next x : Nat) : Int)] 3)) ⟨w8.heap.size, 0, none⟩ 1 1 [.int .i64 ((o.word.next x : Nat) : Int)] (by rfl) (by rfl) ?hnews2 ?hone2 (by omega) (by unfold maxLen; omega) (by omega) (by simp; omega) (w8.heap.size + 1) (by simp) ?_)
        case hnews2 => exact World.news_of_block (cs := #[.int .i64 ((o.word.next x : Nat) : Int)]) (t := 3) (fr := (0, 0)) (heap_alloc_new _ _)
        case hone2 => simp [Value.oneCell']
        intro gw cap3 w9 hown hgrow hat hlt5 hd4
        have hk9 : Keeps (fun k => (Value.slice aw2 Q.length cw2).ownBlock = some k) w8 w9 := ((Keeps.refl _ w8).alloc _).grown hgrow (fun k hk => .inl hk)
        have HR9 := Lib.hid (HR7.out.snoc HI7.out HNB.out (fun k hk => (HLO.out k hk).2) K78.out HOW.out HG1.out hk9 hown (fun k hk => by
         simp [Value.ownBlock] at hk
         subst hk
         rcases hat with h | h
         ·exact .inl h
         ·exact .inr (by omega)))
        have K9 := Lib.hid ((K7.out.trans' K78.out (fun k hk => .inr (World.ownsRow.lt HR7.out.out k hk).1)).trans' hk9 (fun k hk => .inr (World.ownsRow.lt HR7.out.words k hk).1))
        clear hown hgrow hat hd4 hk9
        go_wp2_with fail
        go_roundw
        case rel => exact ⟨j + 1, vs2 ++ [.slice an (facts (o.word.next x)).length cn], by omega, by go_num, by rw [HSQ.out, List.length_append, List.length_singleton]; omega, by rw [HSQ.out]; exact HR9.out, K9.out⟩
        case measure => simp [intOf]; omega
    ·have HBN := Lib.hid (show bfs (wordsOf t.ops) (wd s) (i + 1) = some Q by
      have hje : (wordsOf t.ops).take j = wordsOf t.ops := List.take_of_length_le (by unfold wordsOf; rw [List.length_map]; omega)
      have hq := HQ.out
      rw [hje] at hq
      rw [bfs_step HBF.out HX.out, hq, if_pos hfew2])
     have HGQ := Lib.hid (show ∀ y ∈ Q, Good t.n y by
      intro y hy
      rw [← HQ.out] at hy
      rcases mem_freshs.1 hy with hy | hy
      ·exact HG.out y hy
      ·unfold nexts at hy
       obtain ⟨wo, hwo, rfl⟩ := List.mem_map.1 hy
       have hm := List.mem_of_mem_take (List.mem_filter.1 hwo).1
       unfold wordsOf at hm
       obtain ⟨o, ho, rfl⟩ := List.mem_map.1 hm
       exact (good_next (by have := OK.out.n1; omega) (OK.out.ops o ho) HGX.out).2.2)
     have hlq : i + 1 ≤ Q.length := by rw [← HQ.out, List.length_append]; omega
     go_wp2_with fail
     go_roundw
     case rel => exact ⟨i + 1, Q, vs2, HBN.out, hlq, HGQ.out, by go_num, HR2.out, KQ.out⟩
     case measure => simp [intOf]; omega
  ·have HE := Lib.hid (reached_of_end HBF.out (by omega : i = L.length))
   go_wp2_with fail
   refine bodyPost_ret (v := .tuple #[.slice av L.length cv, .bool true]) (by simp [results, Tryz.results35, go_sem]) rfl ?_
   refine ⟨HK.out.trans KW.out, .inr ⟨L, HE.out, _, .slice aw L.length cw, vs, rfl, ?_⟩⟩
   exact ⟨ownsRow_mono HR.out.out HK.out.size, ownsRow_mono HR.out.words HK.out.size, HR.out.st⟩

end Go.Proofs.YtdokakhgflljgaaGreat

namespace Go.Proofs.YtdokakhgflljgaaGreat
open Go.RowKit Go.Shelf
attribute [local go_sem] Oper.semAt_some

structure Stp where
 op : Nat
 cost : Int
 to : Nat

def stepsFrom : Nat → List Wop → Nat → List Stp
 | _, [], _ => []
 | i, o :: r, s => if o.can s then ⟨i, o.cost, o.next s⟩ :: stepsFrom (i + 1) r s else stepsFrom (i + 1) r s
def wsteps (ops : List Wop) (s : Nat) : List Stp := stepsFrom 0 ops s

theorem stepsFrom_snoc (l : List Wop) (o : Wop) (s : Nat) : ∀ i, stepsFrom i (l ++ [o]) s = stepsFrom i l s ++ (if o.can s then [⟨i + l.length, o.cost, o.next s⟩] else []) := by
 induction l with
 | nil => intro i; simp only [List.nil_append, stepsFrom, List.length_nil, Nat.add_zero]
 | cons a r ih =>
  intro i
  rw [List.cons_append, stepsFrom, stepsFrom, ih]
  have : i + 1 + r.length = i + (a :: r).length := by simp; omega
  rw [this]
  split <;> simp

theorem wsteps_nexts (ops : List Wop) (s : Nat) : (wsteps ops s).map Stp.to = nexts ops s := by
 unfold wsteps nexts
 have : ∀ i, (stepsFrom i ops s).map Stp.to = (ops.filter fun o => o.can s).map fun o => o.next s := by
  induction ops with
  | nil => intro i; rfl
  | cons o r ih =>
   intro i
   rw [stepsFrom]
   cases h : o.can s
   ·simp [h, ih]
   ·simp [h, ih]
 exact this 0

theorem stepsFrom_mem {l : List Wop} {s : Nat} {x : Stp} : ∀ {i}, x ∈ stepsFrom i l s ↔ ∃ k o, l[k]? = some o ∧ o.can s = true ∧ x = ⟨i + k, o.cost, o.next s⟩ := by
 induction l with
 | nil => intro i; simp [stepsFrom]
 | cons a r ih =>
  intro i
  have hr : (∃ k o, r[k]? = some o ∧ o.can s = true ∧ x = ⟨i + 1 + k, o.cost, o.next s⟩) ↔ ∃ k o, (a :: r)[k + 1]? = some o ∧ o.can s = true ∧ x = ⟨i + (k + 1), o.cost, o.next s⟩ := by
   constructor
   ·rintro ⟨k, o, h1, h2, h3⟩; exact ⟨k, o, by simpa using h1, h2, by rw [h3]; congr 1; omega⟩
   ·rintro ⟨k, o, h1, h2, h3⟩; exact ⟨k, o, by simpa using h1, h2, by rw [h3]; congr 1; omega⟩
  rw [stepsFrom]
  by_cases h : a.can s = true
  ·rw [if_pos h, List.mem_cons, ih, hr]
   constructor
   ·rintro (rfl | ⟨k, o, h1, h2, h3⟩)
    ·exact ⟨0, a, rfl, h, rfl⟩
    ·exact ⟨k + 1, o, h1, h2, h3⟩
   ·rintro ⟨k, o, h1, h2, h3⟩
    cases k with
    | zero => simp at h1; subst h1; exact .inl h3
    | succ k => exact .inr ⟨k, o, h1, h2, h3⟩
  ·rw [if_neg h, ih, hr]
   constructor
   ·rintro ⟨k, o, h1, h2, h3⟩; exact ⟨k + 1, o, h1, h2, h3⟩
   ·rintro ⟨k, o, h1, h2, h3⟩
    cases k with
    | zero => simp at h1; subst h1; exact absurd h2 h
    | succ k => exact ⟨k, o, h1, h2, h3⟩

/-- All words of the operators fit 32 bits. -/
def WopsOk (ops : List Wop) : Prop := ∀ o ∈ ops, o.pre < 4294967296 ∧ o.add < 4294967296 ∧ o.del < 4294967296

theorem u32_andNot {a b : Nat} (ha : a < 4294967296) (hb : b < 4294967296) : bits .andNot .u32 (a : Int) (b : Int) = ((andN a b : Nat) : Int) := by
 have hB : ∀ (x y : BitVec 32), x.toNat = a → y.toNat = b → IntKind.u32.wrap ((x &&& ~~~y).toNat : Int) = ((andN a b : Nat) : Int) := by
  intro x y hx hy
  have hn : (~~~y).toNat = b ^^^ 4294967295 := by
   apply Nat.eq_of_testBit_eq
   intro i
   have h1 : (4294967295 : Nat).testBit i = decide (i < 32) := by rw [show (4294967295 : Nat) = 2 ^ 32 - 1 by decide, Nat.testBit_two_pow_sub_one]
   rw [Nat.testBit_xor, h1, ← hy, BitVec.testBit_toNat, BitVec.testBit_toNat, BitVec.getLsbD_not]
   by_cases hi : i < 32
   ·simp [hi]
   ·simp [hi, BitVec.getLsbD_of_ge y i (by omega)]
  rw [BitVec.toNat_and, hx, hn, IntKind.wrap_u32]
  unfold andN
  have : a &&& (b ^^^ 4294967295) ≤ a := Nat.and_le_left
  omega
 exact hB (BitVec.ofInt 32 (a : Int)) (BitVec.ofInt 32 (b : Int)) (by rw [BitVec.ofInt_natCast, BitVec.toNat_ofNat]; omega) (by rw [BitVec.ofInt_natCast, BitVec.toNat_ofNat]; omega)

theorem can_bits {s : Nat} {o : Wop} (hs : s < 4294967296) (ho : o.pre < 4294967296) : (bits .and .u32 (s : Int) (o.pre : Int) == (o.pre : Int)) = o.can s := by
 rw [(u32_bits hs ho).1]
 unfold Wop.can
 cases h : s &&& o.pre == o.pre with
 | true => rw [beq_iff_eq] at h ⊢; exact_mod_cast h
 | false => rw [beq_eq_false_iff_ne] at h ⊢; intro e; exact h (by exact_mod_cast e)

theorem next_bits {s : Nat} {o : Wop} (hs : s < 4294967296) (hd : o.del < 4294967296) (ha : o.add < 4294967296) : bits .or .u32 (bits .andNot .u32 (s : Int) (o.del : Int)) (o.add : Int) = ((o.next s : Nat) : Int) := by
 rw [u32_andNot hs hd]
 exact (u32_bits (andN_lt (m := 32) hs) ha).2

theorem next_lt {s : Nat} {o : Wop} (hs : s < 4294967296) (ha : o.add < 4294967296) : o.next s < 4294967296 := by
 unfold Wop.next
 exact Nat.or_lt_two_pow (n := 32) (andN_lt hs) ha

/-! ### the methods -/
theorem method_Start (a : Addr) (w : World) : (method 337 60 (.pointer (some a)) "Start").run Tryz.prog w = .ok (52, .pointer (some a)) w := by kernel_rfl
theorem method_Steps (a : Addr) (w : World) : (method 337 60 (.pointer (some a)) "Steps").run Tryz.prog w = .ok (71, .pointer (some a)) w := by kernel_rfl

theorem WordsAt.cells {w : World} {base b s g : Nat} {v : Value} {ops : List Wop} (h : WordsAt w base b s g v ops) : w.cell? ⟨b, 0, none⟩ = some (.int .u32 (s : Int)) ∧ w.cell? ⟨b, 1, none⟩ = some (.int .u32 (g : Int)) ∧ w.cell? ⟨b, 2, none⟩ = some v :=
 ⟨by rw [cell_of_blk h.blk]; rfl, by rw [cell_of_blk h.blk]; rfl, by rw [cell_of_blk h.blk]; rfl⟩

theorem start_any (w : World) (base b s g : Nat) (v : Value) (ops : List Wop) (h : WordsAt w base b s g v ops) :
  Calls Tryz.prog 52 #[.pointer (some ⟨b, 0, none⟩)] w fun e w' => e = .returned (.int .u32 (s : Int)) ∧ w = w' := by
 obtain ⟨c0, c1, c2⟩ := h.cells
 clear h
 go_enter Tryz.func52, Tryz.ntmps52
 go_wp2_with fail
 go_ret
 exact ⟨rfl, rfl⟩

theorem goal_any (w : World) (base b s g x : Nat) (v : Value) (ops : List Wop) (h : WordsAt w base b s g v ops) :
  Calls Tryz.prog 33 #[.pointer (some ⟨b, 0, none⟩), .int .u32 (x : Int)] w fun e w' => e = .returned (.bool (bits .and .u32 (x : Int) (g : Int) == (g : Int))) ∧ ∃ q, w' = w.drewN q := by
 obtain ⟨c0, c1, c2⟩ := h.cells
 clear h
 go_enter Tryz.func33, Tryz.ntmps33
 go_wp2_with fail
 go_quiet (fail)
 go_wp2_with fail
 go_ret
 exact ⟨rfl, nq, rfl⟩

theorem steps_any (w : World) (b : Nat) (x : Nat) :
  Calls Tryz.prog 71 #[.pointer (some ⟨b, 0, none⟩), .int .u32 (x : Int)] w fun e w' =>
   e = .returned (.func (.func 88) #[] #[.pointer (some ⟨w.heap.size, 0, none⟩), .pointer (some ⟨w.heap.size + 1, 0, none⟩)]) ∧ w' = (w.alloc (.cells #[.pointer (some ⟨b, 0, none⟩)] 60)).alloc (.cells #[.int .u32 (x : Int)] 66) := by
 go_enter Tryz.func71, Tryz.ntmps71
 go_wp2_with fail
 go_ret
 exact ⟨rfl, rfl⟩

/-! ### the iterator -/
/-- A step from the word s. -/
abbrev StpOf (ops : List Wop) (s : Nat) := { x : Stp // x ∈ wsteps ops s }
def Stp.val (x : Stp) : Value := .agg #[.int .i64 (x.op : Int), .int .i64 x.cost, .int .u32 (x.to : Int)]

theorem wopCells_get (ops : List Wop) (j : Nat) (o : Wop) (h : ops[j]? = some o) : (wopCells ops)[j * 4]? = some (.int .u32 (o.pre : Int)) ∧ (wopCells ops)[j * 4 + 1]? = some (.int .u32 (o.add : Int)) ∧ (wopCells ops)[j * 4 + 2]? = some (.int .u32 (o.del : Int)) ∧ (wopCells ops)[j * 4 + 3]? = some (.int .i64 o.cost) := by
 induction ops generalizing j with
 | nil => simp at h
 | cons a r ih =>
  have e : wopCells (a :: r) = [.int .u32 (a.pre : Int), .int .u32 (a.add : Int), .int .u32 (a.del : Int), .int .i64 a.cost] ++ wopCells r := by simp [wopCells]
  cases j with
  | zero => simp at h; subst h; simp [wopCells]
  | succ j =>
   simp at h
   obtain ⟨h0, h1, h2, h3⟩ := ih j h
   rw [e, show (j + 1) * 4 = 4 + j * 4 by omega]
   refine ⟨?_, ?_, ?_, ?_⟩
   ·rw [List.getElem?_append_right (by simp)]; simpa using h0
   ·rw [List.getElem?_append_right (by simp; omega), show 4 + j * 4 + 1 - [Value.int IntKind.u32 (a.pre : Int), Value.int IntKind.u32 (a.add : Int), Value.int IntKind.u32 (a.del : Int), Value.int IntKind.i64 a.cost].length = j * 4 + 1 by simp; omega]; exact h1
   ·rw [List.getElem?_append_right (by simp; omega), show 4 + j * 4 + 2 - [Value.int IntKind.u32 (a.pre : Int), Value.int IntKind.u32 (a.add : Int), Value.int IntKind.u32 (a.del : Int), Value.int IntKind.i64 a.cost].length = j * 4 + 2 by simp; omega]; exact h2
   ·rw [List.getElem?_append_right (by simp; omega), show 4 + j * 4 + 3 - [Value.int IntKind.u32 (a.pre : Int), Value.int IntKind.u32 (a.add : Int), Value.int IntKind.u32 (a.del : Int), Value.int IntKind.i64 a.cost].length = j * 4 + 3 by simp; omega]; exact h3

theorem WordsAt.opcell {w : World} {base b s g : Nat} {v : Value} {ops : List Wop} (h : WordsAt w base b s g v ops) {k : Nat} {o : Wop} (hk : ops[k]? = some o) :
  ∃ gg cap, v = .slice (some ⟨gg, 0, none⟩) ops.length cap ∧ gg < w.heap.size ∧ w.cell? ⟨gg, k * 4, none⟩ = some (.int .u32 (o.pre : Int)) ∧ w.cell? ⟨gg, k * 4 + 1, none⟩ = some (.int .u32 (o.add : Int)) ∧ w.cell? ⟨gg, k * 4 + 2, none⟩ = some (.int .u32 (o.del : Int)) ∧ w.cell? ⟨gg, k * 4 + 3, none⟩ = some (.int .i64 o.cost) := by
 have hl : k < ops.length := (List.getElem?_eq_some_iff.1 hk).1
 rcases h.own.2 with ⟨_, h0⟩ | ⟨gg, cap, cur, hv, hb, hg, hn, hm, hs, ht⟩
 ·omega
 ·obtain ⟨e0, e1, e2, e3⟩ := wopCells_get ops k o hk
  have get : ∀ j x, (wopCells ops)[j]? = some x → w.cell? ⟨gg, j, none⟩ = some x := by
   intro j x hx
   rw [cell_of_blk hg]
   rw [← ht, List.getElem?_take] at hx
   split at hx
   ·simpa using hx
   ·cases hx
  exact ⟨gg, cap, hv, lt_of_heap hg, get _ _ e0, get _ _ e1, get _ _ e2, get _ _ e3⟩

theorem WordsAt.len {w : World} {base b s g : Nat} {v : Value} {ops : List Wop} (h : WordsAt w base b s g v ops) : ∃ ao cap, v = .slice ao ops.length cap := by
 rcases h.own.2 with ⟨hv, h0⟩ | ⟨gg, cap, cur, hv, _⟩
 ·exact ⟨none, 0, by rw [hv, h0]⟩
 ·exact ⟨_, cap, hv⟩

theorem WordsAt.below {w w' : World} {base b s g n₀ : Nat} {v : Value} {ops : List Wop} (h : WordsAt w base b s g v ops) (hb : Below n₀ w w') (hn : w.heap.size ≤ n₀) : WordsAt w' base b s g v ops :=
 h.keeps0 (Keeps.ofBelow (hb.mono hn) _)

theorem stepsFrom_take {ops : List Wop} {s k : Nat} {o : Wop} (h : ops[k]? = some o) : stepsFrom 0 (ops.take (k + 1)) s = stepsFrom 0 (ops.take k) s ++ (if o.can s then [⟨k, o.cost, o.next s⟩] else []) := by
 have hl : k < ops.length := (List.getElem?_eq_some_iff.1 h).1
 rw [take_getS h, stepsFrom_snoc]
 simp only [List.length_take, Nat.zero_add]
 rw [Nat.min_eq_left (by omega)]

theorem stepsFrom_prefix (l r : List Wop) (s : Nat) : ∀ i, stepsFrom i l s <+: stepsFrom i (l ++ r) s := by
 induction l with
 | nil => intro i; exact List.nil_prefix
 | cons a l ih =>
  intro i
  rw [List.cons_append, stepsFrom, stepsFrom]
  split
  ·exact (List.cons_prefix_cons).2 ⟨rfl, ih _⟩
  ·exact ih _
theorem stepsTo_prefix (ops : List Wop) (s k : Nat) : stepsFrom 0 (ops.take k) s <+: wsteps ops s := by
 have := stepsFrom_prefix (ops.take k) (ops.drop k) s 0
 rwa [List.take_append_drop] at this

/-- What a round must keep: all that lay below n₀, and block B. -/
def KpS (n₀ B : Nat) (W W' : World) : Prop := Below n₀ W W' ∧ W'.heap[B]? = W.heap[B]?
theorem KpS.refl (n₀ B : Nat) (W : World) : KpS n₀ B W W := ⟨Below.refl _ _, rfl⟩
theorem KpS.trans {n₀ B : Nat} {X Y Z : World} (h : KpS n₀ B X Y) (k : KpS n₀ B Y Z) : KpS n₀ B X Z := ⟨h.1.trans k.1, k.2.trans h.2⟩
theorem KpS.alloc {n₀ B : Nat} {X Y : World} (h : KpS n₀ B X Y) (hn : n₀ ≤ Y.heap.size) (hB : B < Y.heap.size) (o : Obj) : KpS n₀ B X (Y.alloc o) := ⟨h.1.alloc hn o, (Below.heap_alloc Y o B hB).trans h.2⟩
theorem KpS.cell {n₀ B : Nat} {X Y : World} (h : KpS n₀ B X Y) {v : Value} (hc : X.cell? ⟨B, 0, none⟩ = some v) : Y.cell? ⟨B, 0, none⟩ = some v := (World.cell?_of_block h.2).trans hc
theorem KpS.ofKeeps {n₀ B : Nat} {S : Nat → Prop} {X Y : World} (h : Keeps S X Y) (hn : n₀ ≤ X.heap.size) (hs : ∀ k, k < n₀ → ¬ S k) (hB : B < X.heap.size) (hsB : ¬ S B) : KpS n₀ B X Y := ⟨h.toBelow hn hs, h.block B hB hsB⟩
theorem kpS_b {n₀ B : Nat} {w : World} (hn : n₀ ≤ w.heap.size) (hB : B < w.heap.size) (W : World) (l : Nat) (o o' : Obj) (hl : w.heap.size ≤ l) (h : W.heap[l]? = some o) (h1 : o.isCells = false) (h2 : o.isWalk = false) : KpS n₀ B W (W.putObj l o') :=
 ⟨belowK_b hn W l o o' hl h h1 h2, World.putObj_heap_other (by omega)⟩

set_option maxRecDepth 100000 in
set_option maxHeartbeats 2000000 in
theorem steps1_in (F : Fence) (n : Nat) (hF : F.fn 88) (hro : F.round = none) (hn : 1 ≤ n) (l Bw Bs n₀ base b st g s : Nat) (v : Value) (ops : List Wop) (hops : WopsOk ops) (hmany : ops.length ≤ 1000) (hs : s < 4294967296) (J Jx : List (StpOf ops s) → World → Prop)
  (hY : ∀ pre x W, J pre W → pre.length < (wsteps ops s).length → YieldAt F (n - 1) Tryz.prog l #[x.1.val] W fun e W' =>
   (e = .returned (.bool true) ∧ J (pre ++ [x]) W' ∧ KpS n₀ Bs W W') ∨ (e = .returned (.bool false) ∧ Jx (pre ++ [x]) W'))
  (W : World) (hJ : AbidesFrom W.heap.size J) (hn₀ : n₀ ≤ W.heap.size) (hBw : W.cell? ⟨Bw, 0, none⟩ = some (.pointer (some ⟨b, 0, none⟩))) (hBs : W.cell? ⟨Bs, 0, none⟩ = some (.int .u32 (s : Int))) (hls : Bs < W.heap.size) (hw : ∃ w0 : World, WordsAt w0 base b st g v ops ∧ w0.heap.size ≤ n₀ ∧ Below n₀ w0 W) (h0 : J [] W) :
  CallsIn F n Tryz.prog 88 #[.func (.yield l) #[] #[], .pointer (some ⟨Bw, 0, none⟩), .pointer (some ⟨Bs, 0, none⟩)] W fun e W' => (∃ v, e = .returned v) ∧
   ((∃ ys, ys.map Subtype.val = wsteps ops s ∧ J ys W') ∨ (∃ pre, pre.map Subtype.val <+: wsteps ops s ∧ Jx pre W')) := by
 obtain ⟨w0, hw0, hz0, hb0⟩ := hw
 have HW := Lib.hid hw0; have HB0 := Lib.hid hb0
 obtain ⟨c0, c1, c2⟩ := (hw0.below hb0 hz0).cells
 obtain ⟨ao, ca, hv⟩ := hw0.len
 have HLB := Lib.hid (lt_of_heap hw0.blk)
 subst hv
 clear hw0 hb0
 refine callsIn_of_wp Tryz.func88 rfl hF ?_ hro
 simp only [Tryz.ntmps88, List.size_toArray, List.length_cons, List.length_nil, Nat.reduceAdd, Nat.reduceSub, Array.replicate_succ, Array.replicate_zero, List.push_toArray, List.append_toArray, List.nil_append, List.cons_append]
 gi_wp2
 gi_loopw [11] (fun i wr => ∃ k : Nat, k ≤ ops.length ∧ i = .int .i64 (k : Int) ∧ (∃ pre : List (StpOf ops s), pre.map Subtype.val = stepsFrom 0 (ops.take k) s ∧ J pre wr) ∧ KpS n₀ Bs W wr) (fun i _ => ops.length - (intOf i).toNat)
 case atStart => exact ⟨0, Nat.zero_le _, rfl, ⟨[], rfl, h0⟩, KpS.refl _ _ _⟩
 case round =>
  obtain ⟨k, hk, rfl, ⟨pre, hpre, hJp⟩, hnx⟩ := hrel
  by_cases hlt : k < ops.length
  ·obtain ⟨o, ho⟩ : ∃ o, ops[k]? = some o := ⟨_, List.getElem?_eq_getElem hlt⟩
   have hwr := HW.out.below (HB0.out.trans hnx.1) hz0
   obtain ⟨d0, d1, d2⟩ := hwr.cells
   obtain ⟨gg, cap, hv, hgl, p0, p1, p2, p3⟩ := hwr.opcell ho
   simp only [Value.slice.injEq] at hv
   obtain ⟨rfl, _, rfl⟩ := hv
   have q2 : wr.cell? ⟨Bs, 0, none⟩ = some (.int .u32 (s : Int)) := hnx.cell hBs
   have hn₀r : n₀ ≤ wr.heap.size := Nat.le_trans hn₀ hnx.1.size
   have hls' : Bs < wr.heap.size := Nat.lt_of_lt_of_le hls hnx.1.size
   obtain ⟨u1, u2, u3⟩ := hops o (List.mem_of_getElem? ho)
   have HTK := Lib.hid (stepsFrom_take (s := s) ho)
   have HPR := Lib.hid hpre
   have HNX := Lib.hid hnx
   cases hc : o.can s with
   | true =>
    have hb : (bits .and .u32 (s : Int) (o.pre : Int) == (o.pre : Int)) = true := by rw [can_bits hs u1, hc]
    have e1 := next_bits (o := o) hs u3 u2
    have hmem : (⟨k, o.cost, o.next s⟩ : Stp) ∈ wsteps ops s := stepsFrom_mem.2 ⟨k, o, ho, hc, by simp⟩
    have hJ' := hJ pre wr (wr.alloc (.cells #[.int .u32 (o.pre : Int), .int .u32 (o.add : Int), .int .u32 (o.del : Int), .int .i64 o.cost] 157)) none hJp (World.grownBy_alloc wr _ none) (fun r e => by cases e)
    have hlen : pre.length < (wsteps ops s).length := by
     have h1 := (stepsTo_prefix ops s (k + 1)).length_le
     rw [HTK.out, hc, if_pos rfl, List.length_append, ← HPR.out] at h1
     simp at h1; omega
    obtain ⟨sx, hsx⟩ : ∃ sx : StpOf ops s, sx.1 = ⟨k, o.cost, o.next s⟩ := ⟨⟨_, hmem⟩, rfl⟩
    obtain ⟨fn, tmps, assign, body, hy, hR⟩ := hY pre sx _ hJ' hlen
    rw [hsx] at hy
    simp only [Stp.val] at hy
    have HN : Hid ((pre ++ [sx]).map Subtype.val = stepsFrom 0 (ops.take (k + 1)) s) := by unfold Hid; rw [HTK.out, hc, if_pos rfl, List.map_append, HPR.out]; simp [hsx]
    have HSX := Lib.hid hsx
    have HC := Lib.hid hc
    have HR := Lib.hid hR
    clear hpre hnx hwr ho hc hmem hsx u1 u2 u3 hJ' hJp hlen hR
    gi_wp2
    refine HR.out.mono ?_
    rintro e W3 (⟨rfl, hJ3, hk3⟩ | ⟨rfl, hJx3⟩)
    ·have HJ3 := Lib.hid hJ3
     have HN3 := Lib.hid ((HNX.out.alloc hn₀r hls' (.cells #[.int .u32 (o.pre : Int), .int .u32 (o.add : Int), .int .u32 (o.del : Int), .int .i64 o.cost] 157)).trans hk3)
     clear hJ3 hk3
     gi_wp2
     go_roundw
     case rel => exact ⟨k + 1, by omega, by go_num, ⟨_, HN.out, HJ3.out⟩, HN3.out⟩
     case measure => simp [intOf]; omega
    ·have HJx3 := Lib.hid hJx3
     clear hJx3
     gi_wp2
     refine bodyPost_ret (results_none rfl _ _ _) rfl ?_
     exact ⟨⟨_, rfl⟩, .inr ⟨_, by rw [HN.out]; exact stepsTo_prefix ops s (k + 1), HJx3.out⟩⟩
   | false =>
    have hb : (bits .and .u32 (s : Int) (o.pre : Int) == (o.pre : Int)) = false := by rw [can_bits hs u1, hc]
    have HN : Hid (pre.map Subtype.val = stepsFrom 0 (ops.take (k + 1)) s) := by unfold Hid; rw [HTK.out, hc]; simpa using HPR.out
    have HJ' := Lib.hid (hJ pre wr (wr.alloc (.cells #[.int .u32 (o.pre : Int), .int .u32 (o.add : Int), .int .u32 (o.del : Int), .int .i64 o.cost] 157)) none hJp (World.grownBy_alloc wr _ none) (fun r e => by cases e))
    clear hpre hnx hwr ho hc u1 u2 u3 hJp
    gi_wp2
    refine ⟨fun _ h => (by cases h), ?_⟩
    gi_wp2
    go_roundw
    case rel => exact ⟨k + 1, by omega, by go_num, ⟨pre, HN.out, HJ'.out⟩, HNX.out.alloc hn₀r hls' _⟩
    case measure => simp [intOf]; omega
  ·obtain rfl : k = ops.length := by omega
   rw [List.take_length] at hpre
   gi_wp2
   go_end0
   exact ⟨⟨_, rfl⟩, .inl ⟨pre, hpre, hJp⟩⟩

/-- What Steps hands back gives the steps, in their order; or the first of them. -/
theorem steps_stops (F : Fence) (n : Nat) (hF : F.fn 88) (hro : F.round = none) (hn : 1 ≤ n) (Bw Bs n₀ base b st g s : Nat) (v : Value) (ops : List Wop) (hops : WopsOk ops) (hmany : ops.length ≤ 1000) (hs : s < 4294967296)
  (w : World) (hn₀ : n₀ ≤ w.heap.size) (hBw : w.cell? ⟨Bw, 0, none⟩ = some (.pointer (some ⟨b, 0, none⟩))) (hBs : w.cell? ⟨Bs, 0, none⟩ = some (.int .u32 (s : Int))) (hlw : Bw < w.heap.size) (hls : Bs < w.heap.size) (hw : ∃ w0 : World, WordsAt w0 base b st g v ops ∧ w0.heap.size ≤ n₀ ∧ Below n₀ w0 w) :
  SeqStopsK F n Tryz.prog 88 #[.pointer (some ⟨Bw, 0, none⟩), .pointer (some ⟨Bs, 0, none⟩)] (fun x : StpOf ops s => #[x.1.val]) (KpS n₀ Bs) (fun ys => ys.map Subtype.val = wsteps ops s) (fun pre => pre.map Subtype.val <+: wsteps ops s) (wsteps ops s).length w := by
 intro l J Jx W hW hJ _ hY h0
 obtain ⟨w0, h1, h2, h3⟩ := hw
 have hlt : n₀ ≤ W.heap.size := Nat.le_trans hn₀ hW.size
 have := steps1_in F n hF hro hn l Bw Bs n₀ base b st g s v ops hops hmany hs J Jx hY W hJ hlt ((hW.cell (p := ⟨Bw, 0, none⟩) hlw).trans hBw) ((hW.cell (p := ⟨Bs, 0, none⟩) hls).trans hBs) (Nat.lt_of_lt_of_le hls hW.size) ⟨w0, h1, h2, h3.trans (hW.mono hn₀)⟩ h0
 exact this

end Go.Proofs.YtdokakhgflljgaaGreat

namespace Go.Proofs.YtdokakhgflljgaaGreat

/-! ### plans -/
/-- The word behind a list of operators, if all of them can be applied. -/
def runOps (ops : List Wop) : Nat → List Nat → Option Nat
 | x, [] => some x
 | x, o :: r => match ops[o]? with
  | none => none
  | some op => if op.can x = true then runOps ops (op.next x) r else none

theorem runOps_append (ops : List Wop) (p q : List Nat) : ∀ x, runOps ops x (p ++ q) = (runOps ops x p).bind fun y => runOps ops y q := by
 induction p with
 | nil => intro x; rfl
 | cons o r ih =>
  intro x
  rw [List.cons_append, runOps, runOps]
  cases ops[o]? with
  | none => rfl
  | some op =>
   simp only
   split
   ·exact ih _
   ·rfl

theorem runOps_snoc {ops : List Wop} {p : List Nat} {o x z : Nat} (h : runOps ops x (p ++ [o]) = some z) : ∃ y op, runOps ops x p = some y ∧ ops[o]? = some op ∧ op.can y = true ∧ z = op.next y := by
 rw [runOps_append] at h
 cases hp : runOps ops x p with
 | none => rw [hp] at h; cases h
 | some y =>
  rw [hp] at h
  simp only [Option.bind_some, runOps] at h
  cases ho : ops[o]? with
  | none => rw [ho] at h; cases h
  | some op =>
   rw [ho] at h; simp only at h
   split at h
   ·rename_i hc; cases h; exact ⟨y, op, rfl, rfl, hc, rfl⟩
   ·cases h

theorem runOps_snoc' {ops : List Wop} {p : List Nat} {o x y : Nat} {op : Wop} (h : runOps ops x p = some y) (ho : ops[o]? = some op) (hc : op.can y = true) : runOps ops x (p ++ [o]) = some (op.next y) := by
 rw [runOps_append, h]; simp [runOps, ho, hc]

/-! ### the order of plans: by length, then element by element -/
def lle : List Nat → List Nat → Prop
 | [], _ => True
 | _ :: _, [] => False
 | a :: p, b :: q => a < b ∨ (a = b ∧ lle p q)
def sle (p q : List Nat) : Prop := p.length < q.length ∨ (p.length = q.length ∧ lle p q)

theorem lle_refl : ∀ p, lle p p
 | [] => trivial
 | _ :: p => .inr ⟨rfl, lle_refl p⟩
theorem lle_trans : ∀ {p q r : List Nat}, lle p q → lle q r → lle p r
 | [], _, _, _, _ => trivial
 | _ :: _, [], _, h, _ => h.elim
 | _ :: _, _ :: _, [], _, h => h.elim
 | a :: p, b :: q, c :: r, h, k => by
  rcases h with h | ⟨h, h'⟩
  ·rcases k with k | ⟨k, k'⟩
   ·exact .inl (by omega)
   ·exact .inl (by omega)
  ·rcases k with k | ⟨k, k'⟩
   ·exact .inl (by omega)
   ·exact .inr ⟨by omega, lle_trans h' k'⟩
theorem lle_antisymm : ∀ {p q : List Nat}, lle p q → lle q p → p = q
 | [], [], _, _ => rfl
 | [], _ :: _, _, h => h.elim
 | _ :: _, [], h, _ => h.elim
 | a :: p, b :: q, h, k => by
  rcases h with h | ⟨h, h'⟩
  ·rcases k with k | ⟨k, k'⟩ <;> omega
  ·rcases k with k | ⟨k, k'⟩
   ·omega
   ·rw [h, lle_antisymm h' k']
theorem lle_append : ∀ {p q : List Nat} (r s : List Nat), lle p q → p.length = q.length → p ≠ q → lle (p ++ r) (q ++ s)
 | [], [], _, _, _, _, h => absurd rfl h
 | [], _ :: _, _, _, _, h, _ => by cases h
 | _ :: _, [], _, _, h, _, _ => h.elim
 | a :: p, b :: q, r, s, h, hl, hne => by
  rcases h with h | ⟨h, h'⟩
  ·exact .inl h
  ·refine .inr ⟨h, lle_append r s h' (by simpa using hl) (fun e => hne (by rw [h, e]))⟩
theorem lle_same : ∀ (p : List Nat) {r s : List Nat}, lle r s → lle (p ++ r) (p ++ s)
 | [], _, _, h => h
 | _ :: p, _, _, h => .inr ⟨rfl, lle_same p h⟩

theorem sle_refl (p : List Nat) : sle p p := .inr ⟨rfl, lle_refl p⟩
theorem sle_nil (p : List Nat) : sle [] p := by
 cases p with
 | nil => exact sle_refl _
 | cons a p => exact .inl (by simp)
theorem sle_trans {p q r : List Nat} (h : sle p q) (k : sle q r) : sle p r := by
 rcases h with h | ⟨h, h'⟩
 ·rcases k with k | ⟨k, k'⟩
  ·exact .inl (by omega)
  ·exact .inl (by omega)
 ·rcases k with k | ⟨k, k'⟩
  ·exact .inl (by omega)
  ·exact .inr ⟨by omega, lle_trans h' k'⟩
theorem sle_antisymm {p q : List Nat} (h : sle p q) (k : sle q p) : p = q := by
 rcases h with h | ⟨h, h'⟩
 ·rcases k with k | ⟨k, k'⟩ <;> omega
 ·rcases k with k | ⟨k, k'⟩
  ·omega
  ·exact lle_antisymm h' k'
theorem sle_snoc_ne {p q : List Nat} (a b : Nat) (h : sle p q) (hne : p ≠ q) : sle (p ++ [a]) (q ++ [b]) := by
 rcases h with h | ⟨h, h'⟩
 ·exact .inl (by simp; omega)
 ·exact .inr ⟨by simp; omega, lle_append _ _ h' h hne⟩
theorem sle_snoc_same (p : List Nat) {a b : Nat} (h : a ≤ b) : sle (p ++ [a]) (p ++ [b]) := by
 refine .inr ⟨by simp, lle_same p ?_⟩
 rcases Nat.lt_or_ge a b with h' | h'
 ·exact .inl h'
 ·exact .inr ⟨by omega, trivial⟩
theorem sle_snoc {p q : List Nat} (a : Nat) (h : sle p q) : sle (p ++ [a]) (q ++ [a]) := by
 by_cases e : p = q
 ·rw [e]; exact sle_refl _
 ·exact sle_snoc_ne a a h e

/-! ### the least plan -/
def Best (ops : List Wop) (s : Nat) (acc : Nat → Bool) : Option (List Nat) → Prop
 | some p => (∃ y, runOps ops s p = some y ∧ acc y = true) ∧ ∀ q y, runOps ops s q = some y → acc y = true → sle p q
 | none => ∀ q y, runOps ops s q = some y → acc y = false

theorem Best.unique {ops : List Wop} {s : Nat} {acc : Nat → Bool} {r r' : Option (List Nat)} (h : Best ops s acc r) (h' : Best ops s acc r') : r = r' := by
 cases r with
 | none =>
  cases r' with
  | none => rfl
  | some q =>
   obtain ⟨⟨y, h1, h2⟩, _⟩ := h'
   have := h q y h1
   rw [this] at h2; cases h2
 | some p =>
  obtain ⟨⟨y, h1, h2⟩, h3⟩ := h
  cases r' with
  | none => have := h' p y h1; rw [this] at h2; cases h2
  | some q =>
   obtain ⟨⟨z, k1, k2⟩, k3⟩ := h'
   rw [sle_antisymm (h3 q z k1 k2) (k3 p y h1 h2)]

/-! ### the tree -/
structure Ent where
 to : Nat
 frm : Nat
 op : Nat
 path : List Nat

def Ent.of (e : Ent) (x : Stp) : Ent := ⟨x.to, e.to, x.op, e.path ++ [x.op]⟩
def frs (e : Ent) : List Nat → List Stp → List Ent
 | _, [] => []
 | seen, x :: r => if x.to ∈ seen then frs e seen r else e.of x :: frs e (seen ++ [x.to]) r
def keysT (T : List Ent) : List Nat := T.map Ent.to

theorem frs_keys (e : Ent) (xs : List Stp) : ∀ seen, keysT (frs e seen xs) = freshs seen (xs.map Stp.to) := by
 induction xs with
 | nil => intro seen; rfl
 | cons x r ih =>
  intro seen
  rw [frs, List.map_cons, freshs]
  split
  ·exact ih _
  ·rw [← ih]; rfl

theorem frs_snoc (e : Ent) (xs : List Stp) (x : Stp) : ∀ seen, frs e seen (xs ++ [x]) = frs e seen xs ++ (if x.to ∈ seen ++ keysT (frs e seen xs) then [] else [e.of x]) := by
 induction xs with
 | nil =>
  intro seen
  rw [List.nil_append, frs]
  by_cases h : x.to ∈ seen <;> simp [h, frs, keysT]
 | cons y r ih =>
  intro seen
  rw [List.cons_append, frs, frs]
  by_cases h : y.to ∈ seen
  ·rw [if_pos h, if_pos h, ih]
  ·rw [if_neg h, if_neg h, ih]
   simp only [keysT, List.append_assoc, List.cons_append, List.nil_append, List.map_cons, Ent.of]

theorem mem_frs {e f : Ent} {xs : List Stp} : ∀ {seen}, f ∈ frs e seen xs → ∃ x ∈ xs, f = e.of x := by
 induction xs with
 | nil => intro seen h; cases h
 | cons x r ih =>
  intro seen h
  rw [frs] at h
  split at h
  ·obtain ⟨y, h1, h2⟩ := ih h; exact ⟨y, by simp [h1], h2⟩
  ·rcases List.mem_cons.1 h with rfl | h
   ·exact ⟨x, by simp, rfl⟩
   ·obtain ⟨y, h1, h2⟩ := ih h; exact ⟨y, by simp [h1], h2⟩

theorem frs_sorted {e : Ent} {xs : List Stp} (hs : xs.Pairwise fun a b => a.op < b.op) : ∀ seen, (frs e seen xs).Pairwise fun a b => sle a.path b.path := by
 induction xs with
 | nil => intro seen; exact List.Pairwise.nil
 | cons x r ih =>
  intro seen
  rw [List.pairwise_cons] at hs
  rw [frs]
  split
  ·exact ih hs.2 _
  ·rw [List.pairwise_cons]
   refine ⟨fun f hf => ?_, ih hs.2 _⟩
   obtain ⟨y, h1, rfl⟩ := mem_frs hf
   exact sle_snoc_same _ (by have := hs.1 y h1; omega)

theorem frs_first {e : Ent} {xs : List Stp} (hs : xs.Pairwise fun a b => a.op < b.op) : ∀ {seen} {x : Stp}, x ∈ xs → x.to ∈ seen ∨ ∃ f ∈ frs e seen xs, f.to = x.to ∧ ∃ o, o ≤ x.op ∧ f.path = e.path ++ [o] := by
 induction xs with
 | nil => intro seen x h; cases h
 | cons y r ih =>
  intro seen x h
  rw [List.pairwise_cons] at hs
  rw [frs]
  by_cases hy : y.to ∈ seen
  ·rw [if_pos hy]
   rcases List.mem_cons.1 h with rfl | h
   ·exact .inl hy
   ·exact ih hs.2 h
  ·rw [if_neg hy]
   rcases List.mem_cons.1 h with rfl | h
   ·exact .inr ⟨e.of x, by simp, rfl, x.op, Nat.le_refl _, rfl⟩
   ·rcases ih hs.2 (seen := seen ++ [y.to]) h with h1 | ⟨f, h1, h2, h3⟩
    ·rcases List.mem_append.1 h1 with h1 | h1
     ·exact .inl h1
     ·simp at h1
      exact .inr ⟨e.of y, by simp, h1.symm, y.op, by have := hs.1 x h; omega, rfl⟩
    ·exact .inr ⟨f, by simp [h1], h2, h3⟩

theorem wsteps_sorted (ops : List Wop) (s : Nat) : (wsteps ops s).Pairwise fun a b => a.op < b.op := by
 unfold wsteps
 have : ∀ i, (stepsFrom i ops s).Pairwise fun a b => a.op < b.op := by
  induction ops with
  | nil => intro i; exact List.Pairwise.nil
  | cons o r ih =>
   intro i
   rw [stepsFrom]
   split
   ·rw [List.pairwise_cons]
    refine ⟨fun y hy => ?_, ih _⟩
    obtain ⟨k, o', _, _, rfl⟩ := stepsFrom_mem.1 hy
    show i < i + 1 + k
    omega
   ·exact ih _
 exact this 0
theorem wsteps_mem {ops : List Wop} {s : Nat} {x : Stp} : x ∈ wsteps ops s ↔ ∃ o, ops[x.op]? = some o ∧ o.can s = true ∧ x.cost = o.cost ∧ x.to = o.next s := by
 unfold wsteps
 rw [stepsFrom_mem]
 constructor
 ·rintro ⟨k, o, h1, h2, rfl⟩; exact ⟨o, by simpa using h1, h2, rfl, rfl⟩
 ·rintro ⟨o, h1, h2, h3, h4⟩
  refine ⟨x.op, o, h1, h2, ?_⟩
  cases x; simp at *; exact ⟨h3, h4⟩

def tree (ops : List Wop) (s : Nat) : Nat → List Ent
 | 0 => [⟨s, s, 0, []⟩]
 | i + 1 => match (tree ops s i)[i]? with
  | none => tree ops s i
  | some e => tree ops s i ++ frs e (keysT (tree ops s i)) (wsteps ops e.to)

theorem tree_step {ops : List Wop} {s i : Nat} {e : Ent} (h : (tree ops s i)[i]? = some e) : tree ops s (i + 1) = tree ops s i ++ frs e (keysT (tree ops s i)) (wsteps ops e.to) := by
 rw [tree, h]

theorem tree_prefix (ops : List Wop) (s i : Nat) : ∀ k, tree ops s i <+: tree ops s (i + k)
 | 0 => List.prefix_refl _
 | k + 1 => by
  refine (tree_prefix ops s i k).trans ?_
  rw [← Nat.add_assoc, tree]
  split
  ·exact List.prefix_refl _
  ·exact List.prefix_append _ _

structure TreeOk (ops : List Wop) (s i : Nat) (T : List Ent) : Prop where
 nodup : (keysT T).Nodup
 head : T[0]? = some ⟨s, s, 0, []⟩
 run : ∀ e ∈ T, runOps ops s e.path = some e.to
 sorted : T.Pairwise fun a b => sle a.path b.path
 parent : ∀ (j : Nat) e, T[j]? = some e → 0 < j → ∃ (k : Nat) (f : Ent), k < j ∧ k < i ∧ T[k]? = some f ∧ e.frm = f.to ∧ e.path = f.path ++ [e.op] ∧ e.op < ops.length
 closed : ∀ (j : Nat) e, j < i → T[j]? = some e → ∀ x ∈ wsteps ops e.to, ∃ f ∈ T, f.to = x.to ∧ sle f.path (e.path ++ [x.op])
 reach : ∀ e ∈ T, Reach ops s e.to

theorem TreeOk.same {ops : List Wop} {s i : Nat} {T : List Ent} (h : TreeOk ops s i T) {e f : Ent} (he : e ∈ T) (hf : f ∈ T) (hef : e.path = f.path) : e.to = f.to := by
 have h1 := h.run e he
 have h2 := h.run f hf
 rw [hef, h2] at h1
 exact (Option.some.inj h1).symm

theorem pair_of {T : List Ent} {R : Ent → Ent → Prop} (h : T.Pairwise R) {j k : Nat} {e f : Ent} (hjk : j < k) (he : T[j]? = some e) (hf : T[k]? = some f) : R e f := by
 obtain ⟨h1, rfl⟩ := List.getElem?_eq_some_iff.1 he
 obtain ⟨h2, rfl⟩ := List.getElem?_eq_some_iff.1 hf
 exact List.pairwise_iff_getElem.1 h j k h1 h2 hjk

theorem TreeOk.inj {ops : List Wop} {s i : Nat} {T : List Ent} (h : TreeOk ops s i T) {j k : Nat} {e f : Ent} (he : T[j]? = some e) (hf : T[k]? = some f) (hef : e.to = f.to) : j = k := by
 have h1 : (keysT T)[j]? = some e.to := by unfold keysT; rw [List.getElem?_map, he]; rfl
 have h2 : (keysT T)[k]? = some f.to := by unfold keysT; rw [List.getElem?_map, hf]; rfl
 obtain ⟨l1, g1⟩ := List.getElem?_eq_some_iff.1 h1
 obtain ⟨l2, g2⟩ := List.getElem?_eq_some_iff.1 h2
 exact (List.getElem_inj h.nodup).1 (by rw [g1, g2, hef])

/-- What lies in the tree is no greater than what the entry at i adds. -/
theorem TreeOk.under {ops : List Wop} {s i : Nat} {T : List Ent} (h : TreeOk ops s i T) {e : Ent} (he : T[i]? = some e) {f : Ent} (hf : f ∈ T) (o : Nat) : sle f.path (e.path ++ [o]) := by
 obtain ⟨j, hj⟩ := List.mem_iff_getElem?.1 hf
 rcases Nat.eq_zero_or_pos j with rfl | hpos
 ·rw [h.head] at hj; cases hj; exact sle_nil _
 ·obtain ⟨k, g, hk, hki, hg, _, hp, _⟩ := h.parent j f hj hpos
  rw [hp]
  refine sle_snoc_ne _ _ (pair_of h.sorted hki hg he) (fun e' => ?_)
  have := h.inj hg he (h.same (List.mem_of_getElem? hg) (List.mem_of_getElem? he) e')
  omega

theorem tree_ok (ops : List Wop) (s : Nat) : ∀ i, TreeOk ops s i (tree ops s i)
 | 0 => by
  refine ⟨by simp [tree, keysT], rfl, fun e he => ?_, by simp [tree], fun j e hj h0 => ?_, fun j e hj => by omega, fun e he => ?_⟩
  ·simp [tree] at he; subst he; rfl
  ·cases j with
   | zero => omega
   | succ j => simp [tree] at hj
  ·simp [tree] at he; subst he; exact .refl
 | i + 1 => by
  have ok := tree_ok ops s i
  rw [tree]
  cases hx : (tree ops s i)[i]? with
  | none =>
   refine ⟨ok.nodup, ok.head, ok.run, ok.sorted, fun j e hj h0 => ?_, fun j e hj he => ?_, ok.reach⟩
   ·obtain ⟨k, f, h1, h2, h3⟩ := ok.parent j e hj h0
    exact ⟨k, f, h1, by omega, h3⟩
   ·have he' : (tree ops s i)[j]? = some e := he
    have h1 := (List.getElem?_eq_some_iff.1 he').1
    have h2 := List.getElem?_eq_none_iff.1 hx
    exact ok.closed j e (by omega) he'
  | some e =>
   simp only
   have hil : i < (tree ops s i).length := (List.getElem?_eq_some_iff.1 hx).1
   have hem := List.mem_of_getElem? hx
   generalize hT : tree ops s i = T at *
   refine ⟨?_, ?_, fun f hf => ?_, ?_, fun j f hj h0 => ?_, fun j f hj hf x hxm => ?_, fun f hf => ?_⟩
   ·have : keysT (T ++ frs e (keysT T) (wsteps ops e.to)) = keysT T ++ freshs (keysT T) ((wsteps ops e.to).map Stp.to) := by rw [← frs_keys e]; simp [keysT]
    rw [this]
    exact nodup_freshs ok.nodup
   ·rw [List.getElem?_append_left (by omega)]; exact ok.head
   ·rcases List.mem_append.1 hf with hf | hf
    ·exact ok.run f hf
    ·obtain ⟨x, h1, rfl⟩ := mem_frs hf
     obtain ⟨o, k1, k2, k3, k4⟩ := wsteps_mem.1 h1
     show runOps ops s (e.path ++ [x.op]) = some x.to
     rw [k4]
     exact runOps_snoc' (ok.run e hem) k1 k2
   ·rw [List.pairwise_append]
    refine ⟨ok.sorted, frs_sorted (wsteps_sorted _ _) _, fun f hf g hg => ?_⟩
    obtain ⟨x, h1, rfl⟩ := mem_frs hg
    exact ok.under hx hf x.op
   ·by_cases hjl : j < T.length
    ·rw [List.getElem?_append_left hjl] at hj
     obtain ⟨k, g, h1, h2, h3, h4⟩ := ok.parent j f hj h0
     exact ⟨k, g, h1, by omega, by rw [List.getElem?_append_left (by have := (List.getElem?_eq_some_iff.1 h3).1; omega)]; exact h3, h4⟩
    ·rw [List.getElem?_append_right (by omega)] at hj
     obtain ⟨x, h1, rfl⟩ := mem_frs (List.mem_of_getElem? hj)
     obtain ⟨o, k1, _⟩ := wsteps_mem.1 h1
     exact ⟨i, e, by omega, by omega, by rw [List.getElem?_append_left hil]; exact hx, rfl, rfl, (List.getElem?_eq_some_iff.1 k1).1⟩
   ·by_cases hji : j < i
    ·rw [List.getElem?_append_left (by omega)] at hf
     obtain ⟨g, h1, h2⟩ := ok.closed j f hji hf x hxm
     exact ⟨g, List.mem_append_left _ h1, h2⟩
    ·have : j = i := by omega
     subst this
     rw [List.getElem?_append_left hil, hx] at hf
     cases hf
     rcases frs_first (e := e) (wsteps_sorted ops e.to) (seen := keysT T) hxm with h1 | ⟨g, h1, h2, o, h3, h4⟩
     ·unfold keysT at h1
      obtain ⟨g, h2, h3⟩ := List.mem_map.1 h1
      exact ⟨g, List.mem_append_left _ h2, h3, ok.under hx h2 x.op⟩
     ·refine ⟨g, List.mem_append_right _ h1, h2, ?_⟩
      rw [h4]
      exact sle_snoc_same _ h3
   ·rcases List.mem_append.1 hf with hf | hf
    ·exact ok.reach f hf
    ·obtain ⟨x, h1, rfl⟩ := mem_frs hf
     refine .step (ok.reach e hem) ?_
     rw [← wsteps_nexts]
     exact List.mem_map.2 ⟨x, h1, rfl⟩

/-- Where all has been taken, all that can be reached lies in the tree. -/
theorem TreeOk.least {ops : List Wop} {s i : Nat} {T : List Ent} (h : TreeOk ops s i T) (hi : T.length ≤ i) (q : List Nat) : ∀ y, runOps ops s q = some y → ∃ f ∈ T, f.to = y ∧ sle f.path q := by
 suffices H : ∀ n (q : List Nat), q.length = n → ∀ y, runOps ops s q = some y → ∃ f ∈ T, f.to = y ∧ sle f.path q from H _ q rfl
 intro n
 induction n with
 | zero =>
  intro q hq y hy
  have : q = [] := List.length_eq_zero_iff.1 hq
  subst this
  simp [runOps] at hy
  subst hy
  exact ⟨_, List.mem_of_getElem? h.head, rfl, sle_refl _⟩
 | succ n ih =>
  intro q hq z hz
  have hne : q ≠ [] := by intro e; subst e; cases hq
  obtain ⟨p, o, rfl⟩ : ∃ p o, q = p ++ [o] := ⟨q.dropLast, q.getLast hne, (List.dropLast_concat_getLast hne).symm⟩
  obtain ⟨y, op, h1, h2, h3, rfl⟩ := runOps_snoc hz
  obtain ⟨f, hf, rfl, hp⟩ := ih p (by simpa using hq) y h1
  obtain ⟨j, hj⟩ := List.mem_iff_getElem?.1 hf
  have hjl := (List.getElem?_eq_some_iff.1 hj).1
  obtain ⟨g, k1, k2, k3⟩ := h.closed j f (by omega) hj ⟨o, op.cost, op.next f.to⟩ (wsteps_mem.2 ⟨op, h2, h3, rfl, rfl⟩)
  exact ⟨g, k1, k2, sle_trans k3 (sle_snoc _ hp)⟩

theorem tree_few {ops : List Wop} {s : Nat} {l : List Nat} (h : reached ops s = some l) (i : Nat) : (tree ops s i).length ≤ l.length := by
 have ok := tree_ok ops s i
 have := nodup_sub_length ok.nodup (b := l) (fun x hx => by
  unfold keysT at hx
  obtain ⟨e, he, rfl⟩ := List.mem_map.1 hx
  exact ((reached_some h).2.2.2 e.to).2 (ok.reach e he))
 unfold keysT at this
 rwa [List.length_map] at this

/-- The first accepted entry. -/
theorem tree_found {ops : List Wop} {s i : Nat} {l : List Nat} (h : reached ops s = some l) {acc : Nat → Bool} {e : Ent} (he : (tree ops s i)[i]? = some e) (ha : acc e.to = true)
  (hb : ∀ (j : Nat) f, j < i → (tree ops s i)[j]? = some f → acc f.to = false) : Best ops s acc (some e.path) := by
 refine ⟨⟨e.to, (tree_ok ops s i).run e (List.mem_of_getElem? he), ha⟩, fun q y hq hy => ?_⟩
 have hl := (List.getElem?_eq_some_iff.1 he).1
 have hle := tree_few h i
 have hle2 := tree_few h (i + l.length)
 have ok := tree_ok ops s (i + l.length)
 obtain ⟨f, hf, rfl, hp⟩ := ok.least (by omega) q y hq
 obtain ⟨j, hj⟩ := List.mem_iff_getElem?.1 hf
 obtain ⟨r, hr⟩ := tree_prefix ops s i l.length
 have get : ∀ k, k < (tree ops s i).length → (tree ops s (i + l.length))[k]? = (tree ops s i)[k]? := by
  intro k hk
  rw [← hr, List.getElem?_append_left hk]
 rcases Nat.lt_trichotomy j i with h1 | h1 | h1
 ·have := hb j f h1 (by rw [← get j (by omega)]; exact hj)
  rw [this] at hy; cases hy
 ·subst h1
  rw [get j hl, he] at hj
  cases hj; exact hp
 ·exact sle_trans (pair_of ok.sorted h1 (by rw [get i hl]; exact he) hj) hp

theorem tree_none {ops : List Wop} {s i : Nat} {acc : Nat → Bool} (hi : (tree ops s i).length ≤ i) (hb : ∀ f ∈ tree ops s i, acc f.to = false) : Best ops s acc none := by
 intro q y hq
 obtain ⟨f, hf, rfl, _⟩ := (tree_ok ops s i).least hi q y hq
 exact hb f hf

end Go.Proofs.YtdokakhgflljgaaGreat

namespace Go.Proofs.YtdokakhgflljgaaGreat

structure Arc where
 frm : Nat
 to : Nat
 op : Nat
 cost : Int

theorem nodup_ix {L : List Nat} (h : L.Nodup) {i j x : Nat} (hi : L[i]? = some x) (hj : L[j]? = some x) : i = j := by
 obtain ⟨l1, g1⟩ := List.getElem?_eq_some_iff.1 hi
 obtain ⟨l2, g2⟩ := List.getElem?_eq_some_iff.1 hj
 exact (List.getElem_inj h).1 (by rw [g1, g2])

/-! ### the arcs -/
def hits (L : List Nat) (i j : Nat) (c : Int) (y : Nat) : Nat → List Arc
 | 0 => []
 | k + 1 => hits L i j c y k ++ (if L[k]? = some y then [⟨i, k, j, c⟩] else [])
def opArcs (ops : List Wop) (L : List Nat) (i x : Nat) : Nat → List Arc
 | 0 => []
 | j + 1 => opArcs ops L i x j ++ (match ops[j]? with
  | some o => if o.can x = true then hits L i j o.cost (o.next x) L.length else []
  | none => [])
def arcsTo (ops : List Wop) (L : List Nat) : Nat → List Arc
 | 0 => []
 | i + 1 => arcsTo ops L i ++ (match L[i]? with
  | some x => opArcs ops L i x ops.length
  | none => [])
def arcs (ops : List Wop) (L : List Nat) : List Arc := arcsTo ops L L.length

theorem hits_len (L : List Nat) (i j : Nat) (c : Int) (y : Nat) : ∀ k, (hits L i j c y k).length ≤ k
 | 0 => Nat.le_refl _
 | k + 1 => by
  have := hits_len L i j c y k
  rw [hits, List.length_append]
  split <;> simp <;> omega
theorem opArcs_len (ops : List Wop) (L : List Nat) (i x : Nat) : ∀ j, (opArcs ops L i x j).length ≤ j * L.length
 | 0 => by simp [opArcs]
 | j + 1 => by
  have := opArcs_len ops L i x j
  rw [opArcs, List.length_append, Nat.succ_mul]
  split
  ·split
   ·have := hits_len L i j ‹Wop›.cost (‹Wop›.next x) L.length
    omega
   ·simp; omega
  ·simp; omega
theorem arcsTo_len (ops : List Wop) (L : List Nat) : ∀ i, (arcsTo ops L i).length ≤ i * (ops.length * L.length)
 | 0 => by simp [arcsTo]
 | i + 1 => by
  have := arcsTo_len ops L i
  rw [arcsTo, List.length_append, Nat.succ_mul]
  split
  ·have := opArcs_len ops L i ‹Nat› ops.length
   omega
  ·simp; omega

theorem mem_hits {L : List Nat} {i j : Nat} {c : Int} {y : Nat} {a : Arc} : ∀ {k}, a ∈ hits L i j c y k ↔ a.frm = i ∧ a.op = j ∧ a.cost = c ∧ a.to < k ∧ L[a.to]? = some y
 | 0 => by simp [hits]
 | k + 1 => by
  rw [hits, List.mem_append, mem_hits]
  constructor
  ·rintro (⟨h1, h2, h3, h4, h5⟩ | h)
   ·exact ⟨h1, h2, h3, by omega, h5⟩
   ·split at h
    ·simp at h; subst h; exact ⟨rfl, rfl, rfl, by simp, by assumption⟩
    ·cases h
  ·rintro ⟨h1, h2, h3, h4, h5⟩
   by_cases hk : a.to = k
   ·right
    rw [hk] at h5
    rw [if_pos h5]
    cases a; simp at *; exact ⟨h1, hk, h2, h3⟩
   ·exact .inl ⟨h1, h2, h3, by omega, h5⟩
theorem mem_opArcs {ops : List Wop} {L : List Nat} {i x : Nat} {a : Arc} : ∀ {j}, a ∈ opArcs ops L i x j ↔ a.frm = i ∧ a.op < j ∧ ∃ o, ops[a.op]? = some o ∧ o.can x = true ∧ a.cost = o.cost ∧ L[a.to]? = some (o.next x)
 | 0 => by simp [opArcs]
 | j + 1 => by
  rw [opArcs, List.mem_append, mem_opArcs]
  constructor
  ·rintro (⟨h1, h2, h3⟩ | h)
   ·exact ⟨h1, by omega, h3⟩
   ·cases ho : ops[j]? with
    | none => rw [ho] at h; cases h
    | some o =>
     rw [ho] at h; simp only at h
     split at h
     ·rename_i hc
      obtain ⟨h1, h2, h3, h4, h5⟩ := mem_hits.1 h
      exact ⟨h1, by omega, o, by rw [h2]; exact ho, hc, h3, h5⟩
     ·cases h
  ·rintro ⟨h1, h2, o, h3, h4, h5, h6⟩
   by_cases hj : a.op = j
   ·right
    rw [← hj, h3]; simp only
    rw [if_pos h4]
    exact mem_hits.2 ⟨h1, rfl, h5, (List.getElem?_eq_some_iff.1 h6).1, h6⟩
   ·exact .inl ⟨h1, by omega, o, h3, h4, h5, h6⟩
theorem mem_arcsTo {ops : List Wop} {L : List Nat} {a : Arc} : ∀ {i}, a ∈ arcsTo ops L i ↔ a.frm < i ∧ ∃ x o, L[a.frm]? = some x ∧ ops[a.op]? = some o ∧ o.can x = true ∧ a.cost = o.cost ∧ L[a.to]? = some (o.next x)
 | 0 => by simp [arcsTo]
 | i + 1 => by
  rw [arcsTo, List.mem_append, mem_arcsTo]
  constructor
  ·rintro (⟨h1, h2⟩ | h)
   ·exact ⟨by omega, h2⟩
   ·cases hx : L[i]? with
    | none => rw [hx] at h; cases h
    | some x =>
     rw [hx] at h; simp only at h
     obtain ⟨h1, h2, o, h3⟩ := mem_opArcs.1 h
     exact ⟨by omega, x, o, by rw [h1]; exact hx, h3⟩
  ·rintro ⟨h1, x, o, h2, h3, h4⟩
   by_cases hi : a.frm = i
   ·right
    rw [← hi, h2]; simp only
    exact mem_opArcs.2 ⟨rfl, (List.getElem?_eq_some_iff.1 h3).1, o, h3, h4⟩
   ·exact .inl ⟨by omega, x, o, h2, h3, h4⟩
theorem mem_arcs {ops : List Wop} {L : List Nat} {a : Arc} : a ∈ arcs ops L ↔ ∃ x o, L[a.frm]? = some x ∧ ops[a.op]? = some o ∧ o.can x = true ∧ a.cost = o.cost ∧ L[a.to]? = some (o.next x) := by
 unfold arcs
 rw [mem_arcsTo]
 constructor
 ·rintro ⟨_, h⟩; exact h
 ·rintro ⟨x, o, h1, h2⟩; exact ⟨(List.getElem?_eq_some_iff.1 h1).1, x, o, h1, h2⟩
theorem arcs_lt {ops : List Wop} {L : List Nat} {a : Arc} (h : a ∈ arcs ops L) : a.frm < L.length ∧ a.to < L.length ∧ a.op < ops.length := by
 obtain ⟨x, o, h1, h2, _, _, h3⟩ := mem_arcs.1 h
 exact ⟨(List.getElem?_eq_some_iff.1 h1).1, (List.getElem?_eq_some_iff.1 h3).1, (List.getElem?_eq_some_iff.1 h2).1⟩
/-! ### the steps to go -/
/-- The number of known entries. -/
def known (d : List Int) : Nat := (d.filter fun x => decide (0 ≤ x)).length
def stable (d : List Int) (a : Arc) : Prop := ∀ y, d[a.to]? = some y → 0 ≤ y → ∃ x, d[a.frm]? = some x ∧ 0 ≤ x ∧ x ≤ y + 1
/-- How far from done: an unknown entry weighs most. -/
def weight (n : Nat) (d : List Int) : Nat := (d.map fun x => if 0 ≤ x then x.toNat else n + 1).sum

structure GoInv (A : List Arc) (acc : List Bool) (d : List Int) : Prop where
 len : d.length = acc.length
 lo : ∀ x ∈ d, -1 ≤ x
 hi : ∀ x ∈ d, x ≤ known d
 zero : ∀ i : Nat, d[i]? = some 0 ↔ acc[i]? = some true
 down : ∀ (i : Nat) (x : Int), d[i]? = some x → 0 < x → ∃ a ∈ A, a.frm = i ∧ ∃ y, d[a.to]? = some y ∧ 0 ≤ y ∧ y ≤ x - 1

theorem known_le (d : List Int) : known d ≤ d.length := List.length_filter_le _ _

theorem known_set {d : List Int} {i : Nat} {x z : Int} (hi : d[i]? = some x) (hz : 0 ≤ z) : known (d.set i z) = known d + (if 0 ≤ x then 0 else 1) := by
 induction d generalizing i with
 | nil => simp at hi
 | cons y r ih =>
  cases i with
  | zero =>
   simp at hi; subst hi
   unfold known
   rw [List.set_cons_zero, List.filter_cons, List.filter_cons, if_pos (by simpa using hz)]
   by_cases hy : 0 ≤ y
   ·rw [if_pos (by simpa using hy), if_pos hy]; simp
   ·rw [if_neg (by simpa using hy), if_neg hy]; simp
  | succ i =>
   simp only [List.getElem?_cons_succ] at hi
   have := ih hi
   unfold known at this ⊢
   rw [List.set_cons_succ, List.filter_cons, List.filter_cons]
   by_cases hy : 0 ≤ y
   ·rw [if_pos (by simpa using hy), if_pos (by simpa using hy), List.length_cons, List.length_cons, this]; omega
   ·rw [if_neg (by simpa using hy), if_neg (by simpa using hy), this]
theorem weight_set {n : Nat} {d : List Int} {i : Nat} {x z : Int} (hi : d[i]? = some x) (hz : 0 ≤ z) (hzn : z ≤ n) (hx : x < 0 ∨ z < x) : weight n (d.set i z) < weight n d := by
 induction d generalizing i with
 | nil => simp at hi
 | cons y r ih =>
  cases i with
  | zero =>
   simp at hi; subst hi
   unfold weight
   simp only [List.set_cons_zero, List.map_cons, List.sum_cons]
   rw [if_pos hz]
   split <;> omega
  | succ i =>
   simp only [List.getElem?_cons_succ] at hi
   have := ih hi
   unfold weight at this ⊢
   simp only [List.set_cons_succ, List.map_cons, List.sum_cons]
   omega

theorem getElem?_setS {α : Type} (d : List α) (i j : Nat) (z : α) : (d.set i z)[j]? = if i = j ∧ i < d.length then some z else d[j]? := by
 rw [List.getElem?_set]
 by_cases h : i = j
 ·subst h
  by_cases hl : i < d.length
  ·simp [hl]
  ·simp [hl]
 ·simp [h]

theorem GoInv.step {A : List Arc} {acc : List Bool} {d : List Int} (h : GoInv A acc d) {a : Arc} (ha : a ∈ A) {x y : Int} (hx : d[a.frm]? = some x) (hy : d[a.to]? = some y) (hy0 : 0 ≤ y) (hxy : x < 0 ∨ y + 1 < x) :
  GoInv A acc (d.set a.frm (y + 1)) ∧ weight d.length (d.set a.frm (y + 1)) < weight d.length d := by
 have hfl := (List.getElem?_eq_some_iff.1 hx).1
 have hkn := known_set hx (show (0 : Int) ≤ y + 1 by omega)
 have hyk := h.hi y (List.mem_of_getElem? hy)
 have hxk := h.hi x (List.mem_of_getElem? hx)
 have hbnd : y + 1 ≤ known (d.set a.frm (y + 1)) := by
  rw [hkn]; split
  ·omega
  ·omega
 have hne : a.to ≠ a.frm := by
  intro e
  rw [e, hx] at hy; cases hy
  omega
 have hkl := known_le (d.set a.frm (y + 1))
 rw [List.length_set] at hkl
 refine ⟨⟨by rw [List.length_set]; exact h.len, fun z hz => ?_, fun z hz => ?_, fun i => ?_, fun i z hz h0 => ?_⟩, weight_set hx (by omega) (by omega) hxy⟩
 ·rcases List.mem_or_eq_of_mem_set hz with hz | rfl
  ·exact h.lo z hz
  ·omega
 ·rcases List.mem_or_eq_of_mem_set hz with hz | rfl
  ·have := h.hi z hz
   rw [hkn]; split <;> omega
  ·exact hbnd
 ·rw [getElem?_setS]
  by_cases hi : a.frm = i
  ·subst hi
   rw [if_pos ⟨rfl, hfl⟩]
   have hz := h.zero a.frm
   rw [hx] at hz
   constructor
   ·intro e; simp only [Option.some.injEq] at e; omega
   ·intro e
    have := hz.2 e
    simp only [Option.some.injEq] at this; omega
  ·rw [if_neg (by simp [hi])]; exact h.zero i
 ·rw [getElem?_setS] at hz
  by_cases hi : a.frm = i
  ·subst hi
   rw [if_pos ⟨rfl, hfl⟩] at hz; cases hz
   refine ⟨a, ha, rfl, y, ?_, hy0, by omega⟩
   rw [getElem?_setS, if_neg (by intro e; exact hne e.1.symm)]; exact hy
  ·rw [if_neg (by simp [hi])] at hz
   obtain ⟨b, hb, h1, u, h2, h3, h4⟩ := h.down i z hz h0
   refine ⟨b, hb, h1, ?_⟩
   by_cases hbt : a.frm = b.to
   ·rw [← hbt, hx] at h2; cases h2
    refine ⟨y + 1, ?_, by omega, by omega⟩
    rw [getElem?_setS, if_pos ⟨hbt, hfl⟩]
   ·refine ⟨u, ?_, h3, h4⟩
    rw [getElem?_setS, if_neg (by simp [hbt])]; exact h2

def goStart (acc : List Bool) : List Int := acc.map fun b => if b then 0 else -1
theorem GoInv.start (A : List Arc) (acc : List Bool) : GoInv A acc (goStart acc) := by
 unfold goStart
 refine ⟨by simp, fun x hx => ?_, fun x hx => ?_, fun i => ?_, fun i x hx h0 => ?_⟩
 ·obtain ⟨b, _, rfl⟩ := List.mem_map.1 hx; cases b <;> simp
 ·obtain ⟨b, _, rfl⟩ := List.mem_map.1 hx; cases b <;> simp <;> omega
 ·rw [List.getElem?_map]
  cases hb : acc[i]? with
  | none => simp
  | some b => cases b <;> simp
 ·rw [List.getElem?_map] at hx
  cases hb : acc[i]? with
  | none => rw [hb] at hx; cases hx
  | some b => rw [hb] at hx; cases b <;> simp at hx <;> omega

structure GoOk (A : List Arc) (acc : List Bool) (d : List Int) : Prop extends GoInv A acc d where
 relax : ∀ a ∈ A, stable d a

theorem GoOk.next {A : List Arc} {acc : List Bool} {d : List Int} (h : GoOk A acc d) {i : Nat} {x : Int} (hx : d[i]? = some x) (h0 : 0 < x) : ∃ a ∈ A, a.frm = i ∧ d[a.to]? = some (x - 1) := by
 obtain ⟨a, ha, h1, y, h2, h3, h4⟩ := h.down i x hx h0
 obtain ⟨x', h5, h6, h7⟩ := h.relax a ha y h2 h3
 rw [h1, hx] at h5; cases h5
 exact ⟨a, ha, h1, by rw [h2]; congr 1; omega⟩

/-! ### the greedy way down -/
inductive Greedy (A : List Arc) (d : List Int) : Nat → List Nat → Prop
 | nil {f : Nat} : d[f]? = some 0 → Greedy A d f []
 | cons {a : Arc} {v : Int} {l : List Nat} : a ∈ A → d[a.frm]? = some v → 0 < v → d[a.to]? = some (v - 1) → (∀ b ∈ A, b.frm = a.frm → d[b.to]? = some (v - 1) → a.op ≤ b.op) → Greedy A d a.to l → Greedy A d a.frm (a.op :: l)

theorem Greedy.length {A : List Arc} {d : List Int} {f : Nat} {l : List Nat} (h : Greedy A d f l) : d[f]? = some (l.length : Int) := by
 induction h with
 | nil h => exact h
 | cons ha h1 h2 h3 h4 _ ih =>
  rw [h3] at ih
  rw [h1]
  simp only [Option.some.injEq] at ih ⊢
  simp only [List.length_cons]; omega

/-- The list is closed under the steps. -/
def Shut (ops : List Wop) (L : List Nat) : Prop := L.Nodup ∧ ∀ x ∈ L, ∀ o ∈ ops, o.can x = true → o.next x ∈ L

theorem shut_reached {ops : List Wop} {s : Nat} {L : List Nat} (h : reached ops s = some L) : Shut ops L := by
 obtain ⟨h1, _, _, h4⟩ := reached_some h
 refine ⟨h1, fun x hx o ho hc => (h4 _).2 (.step ((h4 x).1 hx) ?_)⟩
 unfold nexts
 exact List.mem_map.2 ⟨o, List.mem_filter.2 ⟨ho, hc⟩, rfl⟩

theorem go_low {ops : List Wop} {L : List Nat} (hs : Shut ops L) {p : Nat → Bool} {d : List Int} (h : GoOk (arcs ops L) (L.map p) d) : ∀ (q : List Nat) {f x y : Nat}, L[f]? = some x → runOps ops x q = some y → p y = true → ∃ v, d[f]? = some v ∧ 0 ≤ v ∧ v ≤ q.length
 | [], f, x, y, hf, hr, hp => by
  simp [runOps] at hr; subst hr
  exact ⟨0, (h.zero f).2 (by rw [List.getElem?_map, hf]; simp [hp]), by omega, by simp⟩
 | o :: q, f, x, y, hf, hr, hp => by
  rw [runOps] at hr
  cases ho : ops[o]? with
  | none => rw [ho] at hr; cases hr
  | some op =>
   rw [ho] at hr; simp only at hr
   split at hr
   ·rename_i hc
    have hm := hs.2 x (List.mem_of_getElem? hf) op (List.mem_of_getElem? ho) hc
    obtain ⟨k, hk⟩ := List.mem_iff_getElem?.1 hm
    obtain ⟨v, h1, h2, h3⟩ := go_low hs h q hk hr hp
    obtain ⟨u, h4, h5, h6⟩ := h.relax ⟨f, k, o, op.cost⟩ (mem_arcs.2 ⟨x, op, hf, ho, hc, rfl, hk⟩) v h1 h2
    exact ⟨u, h4, h5, by simp only [List.length_cons]; omega⟩
   ·cases hr

theorem go_none {ops : List Wop} {L : List Nat} (hs : Shut ops L) {p : Nat → Bool} {d : List Int} (h : GoOk (arcs ops L) (L.map p) d) {f x : Nat} (hf : L[f]? = some x) {v : Int} (hv : d[f]? = some v) (hneg : v < 0) : Best ops x p none := by
 intro q y hq
 cases hp : p y with
 | false => rfl
 | true =>
  obtain ⟨u, h1, h2, _⟩ := go_low hs h q hf hq hp
  rw [hv] at h1; cases h1; omega

theorem go_best {ops : List Wop} {L : List Nat} (hs : Shut ops L) {p : Nat → Bool} {d : List Int} (h : GoOk (arcs ops L) (L.map p) d) {f : Nat} {l : List Nat} (hg : Greedy (arcs ops L) d f l) :
  ∀ {x : Nat}, L[f]? = some x → Best ops x p (some l) := by
 induction hg with
 | nil h0 =>
  intro x hf
  have := (h.zero _).1 h0
  rw [List.getElem?_map, hf] at this
  simp at this
  exact ⟨⟨x, rfl, this⟩, fun q y _ _ => sle_nil q⟩
 | @cons a v l ha h1 h2 h3 h4 hg ih =>
  intro x hf
  obtain ⟨x', o, e1, e2, e3, e4, e5⟩ := mem_arcs.1 ha
  rw [hf] at e1; cases e1
  obtain ⟨⟨y, k1, k2⟩, k3⟩ := ih e5
  have hlen := Greedy.length hg
  rw [h3] at hlen
  simp only [Option.some.injEq] at hlen
  refine ⟨⟨y, by rw [runOps, e2]; simp only; rw [if_pos e3]; exact k1, k2⟩, fun q z hq hz => ?_⟩
  obtain ⟨u, g1, g2, g3⟩ := go_low hs h q hf hq hz
  rw [h1] at g1; cases g1
  by_cases hlt : l.length + 1 < q.length
  ·exact .inl (by simp only [List.length_cons]; exact hlt)
  ·cases q with
   | nil => simp at g3; omega
   | cons b q =>
    simp only [List.length_cons] at hlt g3
    have hql : q.length = l.length := by omega
    rw [runOps] at hq
    cases hb : ops[b]? with
    | none => rw [hb] at hq; cases hq
    | some ob =>
     rw [hb] at hq; simp only at hq
     split at hq
     ·rename_i hc
      obtain ⟨k, hk⟩ := List.mem_iff_getElem?.1 (hs.2 x (List.mem_of_getElem? hf) ob (List.mem_of_getElem? hb) hc)
      obtain ⟨u, f1, f2, f3⟩ := go_low hs h q hk hq hz
      have hb2 : (⟨a.frm, k, b, ob.cost⟩ : Arc) ∈ arcs ops L := mem_arcs.2 ⟨x, ob, hf, hb, hc, rfl, hk⟩
      obtain ⟨u', f4, f5, f6⟩ := h.relax _ hb2 u f1 f2
      have f4' : d[a.frm]? = some u' := f4
      rw [h1] at f4'; cases f4'
      have hu : u = v - 1 := by omega
      subst hu
      have hle := h4 _ hb2 rfl f1
      have hle' : a.op ≤ b := hle
      refine .inr ⟨by simp only [List.length_cons]; omega, ?_⟩
      rcases Nat.lt_or_ge a.op b with hab | hab
      ·exact .inl hab
      ·have hab' : a.op = b := by omega
       refine .inr ⟨hab', ?_⟩
       rw [← hab', e2] at hb; cases hb
       rcases k3 q z hq hz with hs | hs
       ·omega
       ·exact hs.2
     ·cases hq

end Go.Proofs.YtdokakhgflljgaaGreat

namespace Go.Proofs.YtdokakhgflljgaaGreat
open Go.RowKit

/-- A slice of slices of ints. -/
def Lists (w : World) (v : Value) (ls : List (List Int)) : Prop :=
 ∃ ao cap, v = .slice ao ls.length cap ∧ ls.length ≤ maxLen ∧ (0 < ls.length → ∃ b off, ao = some ⟨b, off, none⟩ ∧ ∀ i l, ls[i]? = some l → ∃ u, w.cell? ⟨b, off + i, none⟩ = some u ∧ Ints w u l)

theorem Lists.keeps0 {w w' : World} {v : Value} {ls : List (List Int)} (h : Lists w v ls) (hk : Keeps (fun _ => False) w w') : Lists w' v ls := by
 obtain ⟨ao, cap, hv, hm, hc⟩ := h
 refine ⟨ao, cap, hv, hm, fun h0 => ?_⟩
 obtain ⟨b, off, ha, hx⟩ := hc h0
 refine ⟨b, off, ha, fun i l hl => ?_⟩
 obtain ⟨u, h1, h2⟩ := hx i l hl
 exact ⟨u, hk.cell h1 (fun h => h), h2.keeps0 hk⟩

theorem Lists.form {w : World} {v : Value} {ls : List (List Int)} (h : Lists w v ls) : ∃ ao cap, v = .slice ao ls.length cap ∧ ls.length ≤ 9223372036854775807 := by
 obtain ⟨ao, cap, hv, hm, _⟩ := h
 unfold maxLen at hm
 exact ⟨ao, cap, hv, by omega⟩

theorem Lists.cell {w : World} {v : Value} {ls : List (List Int)} (h : Lists w v ls) {ao : Option Addr} {n cap : Nat} (hv : v = .slice ao n cap) (hn : 0 < ls.length) :
  ∃ b off, ao = some ⟨b, off, none⟩ ∧ ∀ i l, ls[i]? = some l → ∃ u, w.cell? ⟨b, off + i, none⟩ = some u ∧ Ints w u l := by
 obtain ⟨ao', cap', hv', hm, hc⟩ := h
 rw [hv'] at hv
 simp only [Value.slice.injEq] at hv
 obtain ⟨rfl, _, rfl⟩ := hv
 exact hc hn

theorem Rows.lists {W : World} {base : Nat} {v vw : Value} {L : List Nat} {vs : List Value} (h : Rows W base v vw L vs) : Lists W v (L.map facts) := by
 obtain ⟨ao, cap, hv, hm, hc⟩ := Sl.of_own h.out
 refine ⟨ao, cap, by rw [List.length_map]; exact hv, by rw [List.length_map]; exact hm.1, fun h0 => ?_⟩
 rw [List.length_map] at h0
 obtain ⟨b, off, ha, hx⟩ := hc h0
 refine ⟨b, off, ha, fun i l hl => ?_⟩
 rw [List.getElem?_map] at hl
 cases hy : L[i]? with
 | none => rw [hy] at hl; cases hl
 | some y =>
  rw [hy] at hl; cases hl
  obtain ⟨u, h1, h2, _⟩ := h.st i y hy
  exact ⟨u, hx i u h1, h2⟩

theorem ownsRow_formS {w : World} {base : Nat} {e : TypeId} {size : Nat} {v : Value} {n : Nat} {xs : List Value} (h : w.ownsRow base e size v n xs) : ∃ ao cap, v = .slice ao n cap := by
 rcases h.2 with ⟨hv, h0⟩ | ⟨g, cap, cur, hv, _⟩
 ·exact ⟨none, 0, by rw [hv, h0]⟩
 ·exact ⟨_, cap, hv⟩

/-! ### Place -/
/-! ### StateOk -/
/-! ### Reached -/
theorem reached_any (w : World) (vi vg vo : Value) (t : Tsk) (h : TaskAt w vi vg vo t) (ok : t.Ok) :
  Calls Tryz.prog 13 #[.agg #[.int .i64 t.n, vi, vg, vo]] w (FromPost (wordsOf t.ops) (wd t.init) w) := by
 obtain ⟨ai, ci, h1, _⟩ := h.init.form
 obtain ⟨ag, cg, h2, _⟩ := h.goal.form
 obtain ⟨ao, co, h3, hmo⟩ := h.ops.form
 subst h1 h2 h3
 have K1 := (Keeps.refl (fun _ => False) w).alloc (.cells #[.int .i64 t.n, .slice ai t.init.length ci, .slice ag t.goal.length cg, .slice ao t.ops.length co] 25)
 have HT := Lib.hid (h.keeps0 K1)
 have HB := (Four.new w (.int .i64 t.n) (.slice ai t.init.length ci) (.slice ag t.goal.length cg) (.slice ao t.ops.length co) 25)
 have HK := Lib.hid K1; have OK := Lib.hid ok
 clear h K1 ok
 go_enter Tryz.func13, Tryz.ntmps13
 go_upto_region 1 with fail
 generalize (w.alloc (.cells #[.int .i64 t.n, .slice ai t.init.length ci, .slice ag t.goal.length cg, .slice ao t.ops.length co] 25)) = w1 at HB HT HK ⊢
 have hbx := HB.lt
 obtain ⟨d0, d1, d2, d3⟩ := HB
 go_wp2_with fail
 refine (reachedFrom_any _ _ _ _ _ t t.init HT.out OK.out HT.out.init OK.out.init).mono ?_; rintro e w2 ⟨hk, hr⟩
 have K2 := Lib.hid (HK.out.trans hk)
 have hs1 := HK.out.size
 clear hk
 rcases hr with ⟨hn, rfl⟩ | ⟨l, hn, v, vw, vs, rfl, hr⟩
 ·have HN := Lib.hid hn
  clear hn
  go_wp2_with fail
  go_ret2
  exact ⟨K2.out, .inl ⟨HN.out, rfl⟩⟩
 ·have HN := Lib.hid hn; have HR := Lib.hid hr
  obtain ⟨av, cv, hav⟩ := ownsRow_form1 hr.out
  subst hav
  clear hn hr
  go_wp2_with fail
  go_ret2
  exact ⟨K2.out, .inr ⟨l, HN.out, _, vw, vs, rfl, ownsRow_mono HR.out.out hs1, ownsRow_mono HR.out.words hs1, HR.out.st⟩⟩

end Go.Proofs.YtdokakhgflljgaaGreat

namespace Go.Proofs.YtdokakhgflljgaaGreat
open Go.RowKit

def arcCells (A : List Arc) : List Value := A.flatMap fun a => [.int .i64 (a.frm : Int), .int .i64 (a.to : Int), .int .i64 (a.op : Int), .int .i64 a.cost]
theorem arcCells_append (a b : List Arc) : arcCells (a ++ b) = arcCells a ++ arcCells b := by unfold arcCells; exact List.flatMap_append
theorem arcCells_get {A : List Arc} {i : Nat} {a : Arc} (h : A[i]? = some a) : (arcCells A)[i * 4]? = some (.int .i64 (a.frm : Int)) ∧ (arcCells A)[i * 4 + 1]? = some (.int .i64 (a.to : Int)) ∧ (arcCells A)[i * 4 + 2]? = some (.int .i64 (a.op : Int)) ∧ (arcCells A)[i * 4 + 3]? = some (.int .i64 a.cost) := by
 induction A generalizing i with
 | nil => simp at h
 | cons o r ih =>
  have e : arcCells (o :: r) = .int .i64 (o.frm : Int) :: .int .i64 (o.to : Int) :: .int .i64 (o.op : Int) :: .int .i64 o.cost :: arcCells r := rfl
  rw [e]
  cases i with
  | zero => simp at h; subst h; exact ⟨rfl, rfl, rfl, rfl⟩
  | succ i =>
   obtain ⟨h1, h2, h3, h4⟩ := ih (by simpa using h)
   rw [show (i + 1) * 4 = i * 4 + 1 + 1 + 1 + 1 by omega]
   refine ⟨?_, ?_, ?_, ?_⟩
   ·simpa using h1
   ·rw [show i * 4 + 1 + 1 + 1 + 1 + 1 = i * 4 + 1 + 1 + 1 + 1 + 1 from rfl]; simpa using h2
   ·simpa using h3
   ·simpa using h4

/-- A slice of arcs in a row of one's own. -/
def OwnArcs (B : Nat) (w : World) (v : Value) (A : List Arc) : Prop := w.ownsRow B 75 4 v A.length (arcCells A)

theorem OwnArcs.snoc {B n : Nat} {w4 : World} {V : Value} {A : List Arc} {a : Arc} (hn : A.length = n) (hown : w4.ownsRow B 75 4 V (n + 1) (arcCells A ++ [.int .i64 (a.frm : Int), .int .i64 (a.to : Int), .int .i64 (a.op : Int), .int .i64 a.cost])) : OwnArcs B w4 V (A ++ [a]) := by
 unfold OwnArcs
 rw [List.length_append, arcCells_append, hn]
 exact hown

theorem Tryz.info_arc : (Tryz.prog.info? 75).map (fun i => (i.zero, i.size, i.bytes)) = some (some (.agg #[.int .i64 0, .int .i64 0, .int .i64 0, .int .i64 0]), 4, 32) := by kernel_rfl

def part (ops : List Wop) (L : List Nat) (p x j : Nat) : List Arc := arcsTo ops L p ++ opArcs ops L p x j
def part2 (ops : List Wop) (L : List Nat) (p x j : Nat) (c : Int) (y k : Nat) : List Arc := part ops L p x j ++ hits L p j c y k
theorem part_zero (ops : List Wop) (L : List Nat) (p x : Nat) : part ops L p x 0 = arcsTo ops L p := by unfold part; rw [opArcs, List.append_nil]
theorem part_step {ops : List Wop} {L : List Nat} {p x j : Nat} {o : Wop} (ho : ops[j]? = some o) : part ops L p x (j + 1) = if o.can x = true then part2 ops L p x j o.cost (o.next x) L.length else part ops L p x j := by
 unfold part part2 part
 rw [opArcs, ho]; simp only
 split
 ·rw [List.append_assoc]
 ·rw [List.append_nil]
theorem part_all {ops : List Wop} {L : List Nat} {p x n : Nat} (hx : L[p]? = some x) (hn : ops.length = n) : part ops L p x n = arcsTo ops L (p + 1) := by
 unfold part; rw [arcsTo, hx]; simp only; rw [hn]
theorem part2_zero (ops : List Wop) (L : List Nat) (p x j : Nat) (c : Int) (y : Nat) : part2 ops L p x j c y 0 = part ops L p x j := by unfold part2; rw [hits, List.append_nil]
theorem part2_step {ops : List Wop} {L : List Nat} {p x j : Nat} {c : Int} {y z k : Nat} (hz : L[k]? = some z) : part2 ops L p x j c y (k + 1) = part2 ops L p x j c y k ++ (if z = y then [⟨p, k, j, c⟩] else []) := by
 unfold part2; rw [hits, hz]; simp [List.append_assoc]

theorem part2_le (ops : List Wop) (L : List Nat) (hL : L.length ≤ 2000) (hops : ops.length ≤ 40) {i j k : Nat} (hi : i ≤ L.length) (hj : j ≤ ops.length) (hk : k ≤ L.length) (x : Nat) (c : Int) (y : Nat) :
  (part2 ops L i x j c y k).length ≤ 200000000 := by
 have h1 := arcsTo_len ops L i
 have h2 := opArcs_len ops L i x j
 have h3 := hits_len L i j c y k
 have h4 : ops.length * L.length ≤ 40 * 2000 := Nat.mul_le_mul hops hL
 have h5 : i * (ops.length * L.length) ≤ 2000 * (40 * 2000) := Nat.mul_le_mul (by omega) h4
 have h6 : j * L.length ≤ 40 * 2000 := Nat.mul_le_mul (by omega) hL
 unfold part2 part
 simp only [List.length_append]
 omega

set_option maxRecDepth 100000 in
set_option maxHeartbeats 4000000 in
theorem arcs_any (w : World) (vi vg vo vl : Value) (t : Tsk) (L : List Nat) (h : TaskAt w vi vg vo t) (ok : t.Ok) (hl : Lists w vl (L.map facts)) (hg : ∀ x ∈ L, Good t.n x) (hfew : L.length ≤ 2000) :
  Calls Tryz.prog 15 #[.agg #[.int .i64 t.n, vi, vg, vo], vl] w fun e w' => ∃ v, e = .returned v ∧ OwnArcs w.heap.size w' v (arcs (wordsOf t.ops) L) ∧ Keeps (fun _ => False) w w' := by
 obtain ⟨i0, hi0, hz0, hz1, hz2⟩ := info_parts Tryz.info3
 obtain ⟨j0, hj0, jz0, jz1, jz2⟩ := info_parts Tryz.info_arc
 obtain ⟨ai, ci, h1, _⟩ := h.init.form
 obtain ⟨ag, cg, h2, _⟩ := h.goal.form
 obtain ⟨ao, co, h3, hmo⟩ := h.ops.form
 obtain ⟨al, cl, h4, _⟩ := hl.form
 have hcl := hl.cell h4
 rw [List.length_map] at h4 hcl
 subst h1 h2 h3 h4
 have hn32 : t.n ≤ 32 := by have := ok.n1; omega
 have hoc := h.ops.cell rfl
 have HB := Lib.hid (Four.new w (.int .i64 t.n) (.slice ai t.init.length ci) (.slice ag t.goal.length cg) (.slice ao t.ops.length co) 25)
 have K1 := (Keeps.refl (fun _ => False) w).alloc (.cells #[.int .i64 t.n, .slice ai t.init.length ci, .slice ag t.goal.length cg, .slice ao t.ops.length co] 25)
 have HT := Lib.hid (h.keeps0 K1); have HCL := Lib.hid hcl; have HOC := Lib.hid hoc
 have HK := Lib.hid K1; have OK := Lib.hid ok; have HG := Lib.hid hg
 have hops : (wordsOf t.ops).length = t.ops.length := by unfold wordsOf; rw [List.length_map]
 have HOPS := Lib.hid hops
 have hfo := ok.few
 have HLE := Lib.hid (show ∀ i j k : Nat, i ≤ L.length → j ≤ t.ops.length → k ≤ L.length → ∀ (x : Nat) (c : Int) (y : Nat), (part2 (wordsOf t.ops) L i x j c y k).length ≤ 200000000 from fun i j k hi hj hk x c y => part2_le (wordsOf t.ops) L hfew (by rw [hops]; exact hfo) hi (by rw [hops]; exact hj) hk x c y)
 clear h hl hcl hoc K1 ok hg hops
 go_enter Tryz.func15, Tryz.ntmps15
 go_upto_region 1 with fail
 generalize (w.alloc (.cells #[.int .i64 t.n, .slice ai t.init.length ci, .slice ag t.goal.length cg, .slice ao t.ops.length co] 25)) = w1 at HB HT HK ⊢
 have hbx := HB.out.lt
 go_wp2_with fail
 go_loopw [5, 6] (fun v5 i6 wr => ∃ i : Nat, i ≤ L.length ∧ i6 = .int .i64 (i : Int) ∧ wr.ownsRow w1.heap.size 3 1 v5 i ((L.take i).map fun x : Nat => Value.int .i64 (x : Int)) ∧ Keeps (fun _ => False) w1 wr) (fun _ i6 _ => L.length - (intOf i6).toNat)
 case atStart => exact ⟨0, Nat.zero_le _, rfl, World.ownsRow_nil _ _ _ _, Keeps.refl _ _⟩
 case round =>
  obtain ⟨i, hi, rfl, hown, hkw⟩ := hrel
  obtain ⟨av, cv, hav⟩ := ownsRow_form1 hown
  subst hav
  have HO := Lib.hid hown; have KW := Lib.hid hkw
  have hsw := hkw.size
  have hsz := HK.out.size
  clear hown hkw
  by_cases hlt : i < L.length
  ·obtain ⟨bl, ol, rfl, hx'⟩ := HCL.out (by omega)
   obtain ⟨x, hx⟩ : ∃ x, L[i]? = some x := ⟨_, List.getElem?_eq_getElem hlt⟩
   obtain ⟨u, hu, hiu⟩ := hx' i (facts x) (by rw [List.getElem?_map, hx]; rfl)
   have hu2 := (HK.out.trans KW.out).cell hu (fun h => h)
   have HIU := Lib.hid (hiu.keeps0 (HK.out.trans KW.out))
   have HX := Lib.hid hx
   have HGX := Lib.hid (HG.out x (List.mem_of_getElem? hx))
   have HTK := Lib.hid (take_getS hx)
   obtain ⟨au, cu, hfu, _⟩ := hiu.form
   subst hfu
   clear hx' hx hu hiu
   go_wp2_with fail
   refine (rword_any _ _ _ HIU.out (isSet_mono HGX.out.1 (by omega))).mono ?_; rintro e w3 ⟨rfl, rfl⟩
   rw [HGX.out.2]
   go_wp2_with (at_builtin; refine wpList_append_d rfl _ _ _ rfl w1.heap.size 3 i0 _ 1 8 Tryz.underlying22 hi0 hz0 hz1 hz2 rfl (by omega) _ i ((L.take i).map fun x : Nat => Value.int .i64 (x : Int)) (by rfl) (World.ownsRow.alloc HO.out (.cells #[.int .i64 (x : Int)] 3)) ⟨wr.heap.size, 0, none⟩ 1 1 [.int .i64 (x : Int)] (by rfl) (by rfl) ?hnews ?hone (by omega) (by unfold maxLen; omega) (by omega) (by simp; omega) (wr.heap.size + 1) (by simp) ?_)
   case hnews => exact World.news_of_block (cs := #[.int .i64 (x : Int)]) (t := 3) (fr := (0, 0)) (heap_alloc_new _ _)
   case hone => simp [Value.oneCell']
   intro gg cap2 w4 hown hgrow hat hlt4 hd4
   have HN := Lib.hid (show w4.ownsRow w1.heap.size 3 1 (.slice (some ⟨gg, 0, none⟩) (i + 1) cap2) (i + 1) ((L.take (i + 1)).map fun x : Nat => Value.int .i64 (x : Int)) by
    rw [HTK.out, List.map_append, List.map_take]; exact hown)
   have HKN := Lib.hid (own_grown HO.out KW.out ((Keeps.refl _ wr).alloc (.cells #[.int .i64 (x : Int)] 3)) hgrow)
   clear hown hgrow hat hd4
   go_wp2_with fail
   go_roundw
   case rel => exact ⟨i + 1, by omega, by go_num, HN.out, HKN.out⟩
   case measure => simp [intOf]; omega
  ·have hie : i = L.length := by omega
   obtain ⟨w2, rfl⟩ : ∃ w2, w2 = wr := ⟨_, rfl⟩
   have HWD := Lib.hid (show Ints w2 (.slice av i cv) (L.map fun x : Nat => (x : Int)) by
    have h := Sl.of_own HO.out
    rw [List.take_of_length_le (by omega)] at h
    unfold Ints
    rw [List.length_map, List.map_map]
    rw [← hie]
    exact h)
   have HCW := Lib.hid (HWD.out.cell rfl)
   subst hie
   have HK2 := Lib.hid (HK.out.trans KW.out)
   have HT2 := Lib.hid (HT.out.keeps0 KW.out)
   have HB2 := Lib.hid (HB.out.keeps0 KW.out)
   clear hlt hbx
   go_wp2_with fail
   go_loopw [7, 8] (fun v7 i8 wq => ∃ p : Nat, p ≤ L.length ∧ i8 = .int .i64 (p : Int) ∧ OwnArcs w2.heap.size wq v7 (arcsTo (wordsOf t.ops) L p) ∧ Keeps (fun _ => False) w2 wq) (fun _ i8 _ => L.length - (intOf i8).toNat)
   case atStart => exact ⟨0, Nat.zero_le _, rfl, World.ownsRow_nil _ _ _ _, Keeps.refl _ _⟩
   case round =>
    obtain ⟨p, hp, rfl, hown, hkq⟩ := hrel
    obtain ⟨a7, c7, h7⟩ := ownsRow_formS hown
    subst h7
    have HO2 := Lib.hid hown; have KQ := Lib.hid hkq
    clear hown hkq
    by_cases hlt : p < L.length
    ·obtain ⟨bl, ol, rfl, hx'⟩ := HCL.out (by omega)
     obtain ⟨x, hx⟩ : ∃ x, L[p]? = some x := ⟨_, List.getElem?_eq_getElem hlt⟩
     obtain ⟨u, hu, hiu⟩ := hx' p (facts x) (by rw [List.getElem?_map, hx]; rfl)
     have HU := Lib.hid (HK2.out.cell hu (fun h => h))
     have HIU := Lib.hid (hiu.keeps0 HK2.out)
     have HX := Lib.hid hx
     have HGX := Lib.hid (HG.out x (List.mem_of_getElem? hx))
     have HTO := Lib.hid (part_all (x := x) hx HOPS.out)
     obtain ⟨au, cu, hfu, _⟩ := hiu.form
     subst hfu
     clear hx' hx hu hiu
     have hbr := (HB2.out.keeps0 KQ.out).lt
     obtain ⟨d0, d1, d2, d3⟩ := HB2.out.keeps0 KQ.out
     go_upto_region 11 with fail
     clear d0 d1 d2 d3 hbr
     go_loopw [7, 9] (fun v7 i9 wq => ∃ j : Nat, j ≤ t.ops.length ∧ i9 = .int .i64 (j : Int) ∧ OwnArcs w2.heap.size wq v7 (part (wordsOf t.ops) L p x j) ∧ Keeps (fun _ => False) w2 wq) (fun _ i9 _ => t.ops.length - (intOf i9).toNat)
     case atStart => exact ⟨0, Nat.zero_le _, rfl, by rw [part_zero]; exact HO2.out, KQ.out⟩
     case round =>
      obtain ⟨j, hj, rfl, hown, hkq⟩ := hrel
      obtain ⟨a7, c7, h7⟩ := ownsRow_formS hown
      subst h7
      have HO3 := Lib.hid hown; have KR := Lib.hid hkq
      have hbq := (HB2.out.keeps0 hkq).lt
      obtain ⟨q0, q1, q2, q3⟩ := HB2.out.keeps0 hkq
      have hcu := hkq.cell HU.out (fun h => h)
      clear hown hkq HO2 KQ
      by_cases hjl : j < t.ops.length
      ·obtain ⟨o, ho⟩ : ∃ o, t.ops[j]? = some o := ⟨_, List.getElem?_eq_getElem hjl⟩
       have HOO := Lib.hid ho
       have hok := OK.out.ops o (List.mem_of_getElem? ho)
       obtain ⟨hap, haf, hgn⟩ := good_next (by omega : t.n ≤ 32) hok HGX.out
       have HAP := Lib.hid hap; have HAF := Lib.hid haf; have HGN := Lib.hid hgn
       have hwo : (wordsOf t.ops)[j]? = some o.word := by unfold wordsOf; rw [List.getElem?_map, ho]; rfl
       have HNT := Lib.hid (show part (wordsOf t.ops) L p x (j + 1) = if o.word.can x = true then part2 (wordsOf t.ops) L p x j o.cost (o.word.next x) L.length else part (wordsOf t.ops) L p x j from part_step hwo)
       have HTQ := Lib.hid (HT2.out.keeps0 KR.out)
       have HIQ := Lib.hid (show Ints wr (.slice au (facts x).length cu) (facts x) from HIU.out.keeps0 KR.out)
       obtain ⟨bo, oo, rfl, hoc⟩ := HOC.out (by omega)
       obtain ⟨va, vb, vc, c0, c1, c2, c3, _⟩ := hoc j o ho
       have HC3 := Lib.hid (HK2.out.cell c3 (fun h => h))
       clear ho hok hap haf hgn hwo hoc c0 c1 c2 c3
       go_upto_region 13 with fail
       go_still_tail 6, (by kernel_rfl)
       change wpList _ _ _ _ _ wr.drew
       have KD := (Keeps.refl (fun _ => False) wr).drew
       have HTD := Lib.hid (HTQ.out.keeps0 KD); have HID := Lib.hid (show Ints wr.drew (.slice au (facts x).length cu) (facts x) from HIQ.out.keeps0 KD)
       have HRD := Lib.hid (show OwnArcs _ _ _ _ from KD.ownsRow HO3.out (fun _ _ h => h)); have KDD := Lib.hid (KR.out.trans KD)
       clear KD hcu q0 q1 q2 q3 HTQ HIQ HO3 KR
       generalize wr.drew = w4 at HTD HID HRD KDD ⊢
       go_wp2_with fail
       refine (applies_any _ _ _ _ _ t (facts x) j o HTD.out HID.out HOO.out).mono ?_; rintro e w5 ⟨rfl, hk5⟩
       rw [HAP.out]
       have HR5 := Lib.hid (show OwnArcs _ _ _ _ from hk5.ownsRow HRD.out (fun _ _ h => h)); have HT5 := Lib.hid (HTD.out.keeps0 hk5); have HI5 := Lib.hid (show Ints w5 (.slice au (facts x).length cu) (facts x) from HID.out.keeps0 hk5); have K5 := Lib.hid (KDD.out.trans hk5)
       clear hk5 HRD HTD HID KDD
       cases hcan : o.word.can x with
       | false =>
        have HSQ := Lib.hid (show part (wordsOf t.ops) L p x (j + 1) = part (wordsOf t.ops) L p x j by rw [HNT.out, hcan]; simp)
        clear hcan
        go_wp2_with fail
        go_roundw
        case rel => exact ⟨j + 1, by omega, by go_num, by rw [HSQ.out]; exact HR5.out, K5.out⟩
        case measure => simp [intOf]; omega
       | true =>
        have HSQ := Lib.hid (show part (wordsOf t.ops) L p x (j + 1) = part2 (wordsOf t.ops) L p x j o.cost (o.word.next x) L.length by rw [HNT.out, hcan]; simp)
        clear hcan
        have hb5 := (HB2.out.keeps0 K5.out).lt
        obtain ⟨q0, q1, q2, q3⟩ := HB2.out.keeps0 K5.out
        have hcu5 := K5.out.cell HU.out (fun h => h)
        go_upto_region 14 with fail
        go_still_tail 6, (by kernel_rfl)
        change wpList _ _ _ _ _ w5.drew
        have KD := (Keeps.refl (fun _ => False) w5).drew
        have HTD := Lib.hid (HT5.out.keeps0 KD); have HID := Lib.hid (show Ints w5.drew (.slice au (facts x).length cu) (facts x) from HI5.out.keeps0 KD)
        have HRD := Lib.hid (show OwnArcs _ _ _ _ from KD.ownsRow HR5.out (fun _ _ h => h)); have KDD := Lib.hid (K5.out.trans KD)
        clear KD hcu5 q0 q1 q2 q3 HT5 HI5 HR5 K5 hb5
        generalize w5.drew = w6 at HTD HID HRD KDD ⊢
        go_wp2_with fail
        refine (after_any _ _ _ _ _ t (facts x) j o HTD.out HID.out HOO.out OK.out.n0 (by have := OK.out.n1; omega)).mono ?_; rintro e w7 ⟨vn, rfl, hown7, hk7⟩
        rw [HAF.out] at hown7
        have HI7 := Lib.hid (show Ints w7 vn (facts (o.word.next x)) from Sl.of_own hown7 |> fun h => by simpa [Ints] using h)
        obtain ⟨an, cn, hvn⟩ := ownsRow_form1 hown7
        subst hvn
        have HR7 := Lib.hid (show OwnArcs _ _ _ _ from hk7.ownsRow HRD.out (fun _ _ h => h)); have K7 := Lib.hid (KDD.out.trans hk7)
        clear hown7 hk7 HTD HID HRD KDD
        go_wp2_with fail
        refine (rword_any _ _ _ HI7.out (isSet_mono HGN.out.1 (by have := OK.out.n1; omega))).mono ?_; rintro e w8 ⟨rfl, rfl⟩
        rw [HGN.out.2]
        go_upto_region 16 with fail
        go_loopw [7, 11] (fun v7 i11 wq => ∃ k : Nat, k ≤ L.length ∧ i11 = .int .i64 (k : Int) ∧ OwnArcs w2.heap.size wq v7 (part2 (wordsOf t.ops) L p x j o.cost (o.word.next x) k) ∧ Keeps (fun _ => False) w2 wq) (fun _ i11 _ => L.length - (intOf i11).toNat)
        case atStart => exact ⟨0, Nat.zero_le _, rfl, by rw [part2_zero]; exact HR7.out, K7.out⟩
        case round =>
         obtain ⟨k, hk, rfl, hown, hkq⟩ := hrel
         obtain ⟨a7, c7, h7⟩ := ownsRow_formS hown
         subst h7
         have HO4 := Lib.hid hown; have K4 := Lib.hid hkq
         clear hown hkq HR7 K7 HI7
         by_cases hkl : k < L.length
         ·obtain ⟨y, hy⟩ : ∃ y, L[k]? = some y := ⟨_, List.getElem?_eq_getElem hkl⟩
          obtain ⟨bw, ow, rfl, hcw⟩ := HCW.out (by rw [List.length_map]; omega)
          have hwc := K4.out.cell (hcw k (y : Int) (by rw [List.getElem?_map, hy]; rfl)) (fun h => h)
          have HH := Lib.hid (part2_step (ops := wordsOf t.ops) (L := L) (p := p) (x := x) (j := j) (c := o.cost) (y := o.word.next x) hy)
          have hbd := HLE.out p j k (Nat.le_of_lt hlt) (Nat.le_of_lt hjl) (Nat.le_of_lt hkl) x o.cost (o.word.next x)
          clear hcw hy
          by_cases hyz : y = o.word.next x
          ·have hq : (((y : Nat) : Int) == ((o.word.next x : Nat) : Int)) = true := by rw [hyz]; simp
           have HHT := Lib.hid (show part2 (wordsOf t.ops) L p x j o.cost (o.word.next x) (k + 1) = part2 (wordsOf t.ops) L p x j o.cost (o.word.next x) k ++ [⟨p, k, j, o.cost⟩] by rw [HH.out, if_pos hyz])
           clear hyz
           have hbq := (HB2.out.keeps0 K4.out).lt
           obtain ⟨q0, q1, q2, q3⟩ := HB2.out.keeps0 K4.out
           have hc3 := K4.out.cell HC3.out (fun h => h)
           have hsz := K4.out.size
           go_wp2_with (at_builtin; refine wpList_append_d rfl _ _ _ rfl w2.heap.size 75 j0 _ 4 32 Tryz.underlying42 hj0 jz0 jz1 jz2 rfl (by omega) _ (part2 (wordsOf t.ops) L p x j o.cost (o.word.next x) k).length (arcCells (part2 (wordsOf t.ops) L p x j o.cost (o.word.next x) k)) (by rfl) (World.ownsRow.alloc HO4.out (.cells #[.int .i64 (p : Int), .int .i64 (k : Int), .int .i64 (j : Int), .int .i64 o.cost] 75)) ⟨wr.heap.size, 0, none⟩ 1 1 [.int .i64 (p : Int), .int .i64 (k : Int), .int .i64 (j : Int), .int .i64 o.cost] (by rfl) (by rfl) ?hnews ?hone (by omega) (by unfold maxLen; omega) (by omega) (by simp; omega) (wr.heap.size + 1) (by simp) ?_)
           case hnews => exact World.news_of_block (cs := #[.int .i64 (p : Int), .int .i64 (k : Int), .int .i64 (j : Int), .int .i64 o.cost]) (t := 75) (fr := (0, 0)) (heap_alloc_new _ _)
           case hone => simp [Value.oneCell']
           intro gg cap2 w9 hown hgrow hat hlt9 hd9
           have HN := Lib.hid (show OwnArcs w2.heap.size w9 (.slice (some ⟨gg, 0, none⟩) ((part2 (wordsOf t.ops) L p x j o.cost (o.word.next x) k).length + 1) cap2) (part2 (wordsOf t.ops) L p x j o.cost (o.word.next x) (k + 1)) by
            rw [HHT.out]
            exact OwnArcs.snoc (a := ⟨p, k, j, o.cost⟩) rfl hown)
           have HKN := Lib.hid (own_grown HO4.out K4.out ((Keeps.refl _ wr).alloc (.cells #[.int .i64 (p : Int), .int .i64 (k : Int), .int .i64 (j : Int), .int .i64 o.cost] 75)) hgrow)
           clear hown hgrow hat hd9 hbd
           go_wp2_with fail
           go_roundw
           case rel => exact ⟨k + 1, by omega, by go_num, HN.out, HKN.out⟩
           case measure => simp [intOf]; omega
          ·have hq : (((y : Nat) : Int) == ((o.word.next x : Nat) : Int)) = false := by simp; omega
           have HHT := Lib.hid (show part2 (wordsOf t.ops) L p x j o.cost (o.word.next x) (k + 1) = part2 (wordsOf t.ops) L p x j o.cost (o.word.next x) k by rw [HH.out, if_neg hyz, List.append_nil])
           clear hyz hbd
           go_wp2_with fail
           go_roundw
           case rel => exact ⟨k + 1, by omega, by go_num, by rw [HHT.out]; exact HO4.out, K4.out⟩
           case measure => simp [intOf]; omega
         ·have hke : k = L.length := by omega
          have HN := Lib.hid (show OwnArcs w2.heap.size wr (.slice a7 (part2 (wordsOf t.ops) L p x j o.cost (o.word.next x) k).length c7) (part (wordsOf t.ops) L p x (j + 1)) by rw [HSQ.out, ← hke]; exact HO4.out)
          clear hke
          go_wp2_with fail
          go_roundw
          case rel => exact ⟨j + 1, by omega, by go_num, HN.out, K4.out⟩
          case measure => simp [intOf]; omega
      ·have hje : j = t.ops.length := by omega
       have HN := Lib.hid (show OwnArcs w2.heap.size wr (.slice a7 (part (wordsOf t.ops) L p x j).length c7) (arcsTo (wordsOf t.ops) L (p + 1)) by rw [← HTO.out, ← hje]; exact HO3.out)
       clear hje
       go_wp2_with fail
       go_roundw
       case rel => exact ⟨p + 1, by omega, by go_num, HN.out, KR.out⟩
       case measure => simp [intOf]; omega
    ·have HN := Lib.hid (show OwnArcs w2.heap.size wr (.slice a7 (arcsTo (wordsOf t.ops) L p).length c7) (arcs (wordsOf t.ops) L) by
      have hpe : p = L.length := by omega
      unfold arcs; rw [← hpe]; exact HO2.out)
     go_wp2_with fail
     go_ret
     exact ⟨_, rfl, ownsRow_mono HN.out HK2.out.size, HK2.out.trans KQ.out⟩

end Go.Proofs.YtdokakhgflljgaaGreat
