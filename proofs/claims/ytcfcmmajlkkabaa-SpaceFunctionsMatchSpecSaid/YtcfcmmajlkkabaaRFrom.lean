/- The reference's ReachedFrom: the breadth-first list of states. -/
import Derived.Test.YtcfcmmajlkkabaaRAfter
import Derived.Test.YtcfcmmajlkkabaaTaskA
import Derived.Test.YtcfcmmajlkkabaaOf
namespace Go.Proofs.Ytcfcmmajlkkabaa
open Go.RowKit

theorem Try.info22 : (Try.prog.info? 22).map (fun i => (i.zero, i.size, i.bytes)) = some (some (.slice none 0 0), 1, 24) := by kernel_rfl

theorem Ints.keepsS {S : Nat → Prop} {w w' : World} {v : Value} {l : List Int} (h : Ints w v l) (hk : Keeps S w w') (hs : 0 < l.length → ∀ k, v.ownBlock = some k → ¬ S k) : Ints w' v l := by
  obtain ⟨ao, cap, hv, hm, h⟩ := h
  refine ⟨ao, cap, hv, hm, fun hn => ?_⟩
  obtain ⟨b, off, ha, hc⟩ := h hn
  exact ⟨b, off, ha, fun j x hj => hk.cell (hc j x hj) (hs hn b (by rw [hv, ha]; rfl))⟩
theorem Ints.lt {w : World} {v : Value} {l : List Int} (h : Ints w v l) (h0 : 0 < l.length) (k : Nat) (hk : v.ownBlock = some k) : k < w.heap.size := by
  obtain ⟨ao, cap, hv, hm, h⟩ := h
  obtain ⟨b, off, ha, hc⟩ := h h0
  rw [hv, ha] at hk
  simp [Value.ownBlock] at hk
  subst hk
  have := World.block_lt_of_cell? w _ (hc 0 _ (by rw [List.getElem?_map, List.getElem?_eq_getElem h0]; rfl))
  simpa using this

/-- The rows of ReachedFrom: the states and their words. -/
structure Rows (W : World) (base : Nat) (v vw : Value) (L : List Nat) (vs : List Value) : Prop where
  out : W.ownsRow base 22 1 v L.length vs
  words : W.ownsRow base 3 1 vw L.length (L.map fun x : Nat => Value.int .i64 (x : Int))
  st : ∀ (i : Nat) (x : Nat), L[i]? = some x → ∃ u, vs[i]? = some u ∧ Ints W u (facts x) ∧ (0 < (facts x).length → ∀ k, u.ownBlock = some k → v.ownBlock ≠ some k ∧ vw.ownBlock ≠ some k)

theorem Rows.apart {W : World} {base : Nat} {v vw : Value} {L : List Nat} {vs : List Value} (h : Rows W base v vw L vs) (k : Nat) (hk : v.ownBlock = some k) : vw.ownBlock ≠ some k := by
  intro e
  rcases h.out.2 with ⟨rfl, _⟩ | ⟨g, cap, cur, rfl, _, hg, _⟩
  · simp [Value.ownBlock] at hk
  · rcases h.words.2 with ⟨rfl, _⟩ | ⟨g', cap', cur', rfl, _, hg', _⟩
    · simp [Value.ownBlock] at e
    · simp [Value.ownBlock] at hk e
      subst hk; subst e
      rw [hg] at hg'; simp at hg'

theorem Rows.keeps0 {W W' : World} {base : Nat} {v vw : Value} {L : List Nat} {vs : List Value} (h : Rows W base v vw L vs) (hk : Keeps (fun _ => False) W W') : Rows W' base v vw L vs :=
  ⟨hk.ownsRow h.out (fun _ _ h => h), hk.ownsRow h.words (fun _ _ h => h), fun i x hx => by
    obtain ⟨u, h1, h2, h3⟩ := h.st i x hx
    exact ⟨u, h1, h2.keeps0 hk, h3⟩⟩

/-- The rows with one state more. -/
theorem Rows.snoc {W7 W8 W9 : World} {base : Nat} {v vw vo' vw' vn : Value} {Q : List Nat} {vs : List Value} {y : Nat} (h : Rows W7 base v vw Q vs) (hn : Ints W7 vn (facts y))
    (hnb : ∀ k, vn.ownBlock = some k → v.ownBlock ≠ some k ∧ vw.ownBlock ≠ some k) (hnl : ∀ k, vn.ownBlock = some k → k < W7.heap.size)
    (K78 : Keeps (fun k => v.ownBlock = some k) W7 W8) (ho : W8.ownsRow base 22 1 vo' (Q.length + 1) (vs ++ [vn])) (hg : ∀ k, vo'.ownBlock = some k → v.ownBlock = some k ∨ W7.heap.size ≤ k)
    (K89 : Keeps (fun k => vw.ownBlock = some k) W8 W9) (hw : W9.ownsRow base 3 1 vw' (Q.length + 1) (Q.map (fun x : Nat => Value.int .i64 (x : Int)) ++ [.int .i64 (y : Int)])) (hg2 : ∀ k, vw'.ownBlock = some k → vw.ownBlock = some k ∨ W8.heap.size ≤ k) :
    Rows W9 base vo' vw' (Q ++ [y]) (vs ++ [vn]) := by
  have hlv : ∀ k, v.ownBlock = some k → k < W7.heap.size := fun k hk => (World.ownsRow.lt h.out k hk).2
  have hlw : ∀ k, vw.ownBlock = some k → k < W7.heap.size := fun k hk => (World.ownsRow.lt h.words k hk).2
  have hsz := K78.size
  refine ⟨?_, ?_, fun i x hx => ?_⟩
  · rw [List.length_append]
    refine K89.ownsRow ho (fun k hk e => ?_)
    rcases hg k hk with h1 | h1
    · exact h.apart k h1 e
    · have := hlw k e; omega
  · rw [List.length_append, List.map_append]; exact hw
  · by_cases hlt : i < Q.length
    · rw [List.getElem?_append_left hlt] at hx
      obtain ⟨u, h1, h2, h3⟩ := h.st i x hx
      have hlv2 : i < vs.length := (List.getElem?_eq_some_iff.1 h1).1
      refine ⟨u, by rw [List.getElem?_append_left hlv2]; exact h1, ?_, ?_⟩
      · exact (h2.keepsS K78 (fun h0 k hk e => (h3 h0 k hk).1 e)).keepsS K89 (fun h0 k hk e => (h3 h0 k hk).2 e)
      · intro h0 k hk
        have hl := Ints.lt h2 h0 k hk
        refine ⟨fun e => ?_, fun e => ?_⟩
        · rcases hg k e with h4 | h4
          · exact (h3 h0 k hk).1 h4
          · omega
        · rcases hg2 k e with h4 | h4
          · exact (h3 h0 k hk).2 h4
          · omega
    · have hvl : vs.length = Q.length := by simpa using h.out.1
      have hil := (List.getElem?_eq_some_iff.1 hx).1
      have hi : i = Q.length := by simp at hil; omega
      subst hi
      rw [List.getElem?_append_right (Nat.le_refl _)] at hx
      simp at hx; subst hx
      refine ⟨vn, by rw [← hvl, List.getElem?_append_right (Nat.le_refl _)]; simp, ?_, ?_⟩
      · exact (hn.keepsS K78 (fun _ k hk e => (hnb k hk).1 e)).keepsS K89 (fun _ k hk e => (hnb k hk).2 e)
      · intro h0 k hk
        have hl := hnl k hk
        refine ⟨fun e => ?_, fun e => ?_⟩
        · rcases hg k e with h4 | h4
          · exact (hnb k hk).1 h4
          · omega
        · rcases hg2 k e with h4 | h4
          · exact (hnb k hk).2 h4
          · omega

/-- A word is that of a set of facts below n. -/
def Good (n : Int) (x : Nat) : Prop := isSetB (facts x) n = true ∧ wd (facts x) = x

theorem good_wd {n : Int} (hn : n ≤ 32) {s : List Int} (hs : isSetB s n = true) : Good n (wd s) := by
  unfold Good
  rw [facts_wd (isSet_mono hs hn)]
  exact ⟨hs, rfl⟩
theorem good_next {n : Int} (hn : n ≤ 32) {o : Opr} (ho : o.Ok n) {x : Nat} (hx : Good n x) : appL o (facts x) = o.word.can x ∧ aftL n o (facts x) = facts (o.word.next x) ∧ Good n (o.word.next x) := by
  have h1 := appL_word ho hx.1
  have h2 := wd_aftL hn ho hx.1
  rw [hx.2] at h1 h2
  have h3 := isSet_aftL n o (facts x)
  refine ⟨h1, ?_, ?_⟩
  · rw [← h2, facts_wd (isSet_mono h3 hn)]
  · rw [← h2]; exact good_wd hn h3

theorem nexts_take {ops : List Wop} {j : Nat} {o : Wop} (h : ops[j]? = some o) (x : Nat) : nexts (ops.take (j + 1)) x = nexts (ops.take j) x ++ (if o.can x = true then [o.next x] else []) := by
  unfold nexts
  rw [take_getS h, List.filter_append, List.map_append]
  cases hc : o.can x <;> simp [hc]

theorem freshs_append (xs ys : List Nat) : ∀ seen, freshs seen (xs ++ ys) = freshs seen xs ++ freshs (seen ++ freshs seen xs) ys := by
  induction xs with
  | nil => intro seen; simp [freshs]
  | cons x r ih =>
    intro seen
    rw [List.cons_append, freshs, freshs]
    split
    · exact ih _
    · rw [ih]; simp

theorem nexts_split (ops : List Wop) (j x : Nat) : nexts ops x = nexts (ops.take j) x ++ nexts (ops.drop j) x := by
  unfold nexts
  rw [← List.map_append, ← List.filter_append, List.take_append_drop]

/-- What ReachedFrom hands back. -/
def FromPost (ops : List Wop) (s : Nat) (w : World) (e : Ending) (w' : World) : Prop := Keeps (fun _ => False) w w' ∧
  ((reached ops s = none ∧ e = .returned (.tuple #[.slice none 0 0, .bool false])) ∨
   (∃ l, reached ops s = some l ∧ ∃ v vw vs, e = .returned (.tuple #[v, .bool true]) ∧ Rows w' w.heap.size v vw l vs))

set_option maxRecDepth 100000 in
set_option maxHeartbeats 4000000 in
theorem reachedFrom_any (w : World) (vi vg vo va : Value) (t : Tsk) (s : List Int) (h : TaskAt w vi vg vo t) (ok : t.Ok) (hs : Ints w va s) (hset : isSetB s t.n = true) :
    Calls Try.prog 61 #[.agg #[.int .i64 t.n, vi, vg, vo], va] w (FromPost (wordsOf t.ops) (wd s) w) := by
  obtain ⟨i0, hi0, hz0, hz1, hz2⟩ := info_parts Try.info3
  obtain ⟨j0, hj0, jz0, jz1, jz2⟩ := info_parts Try.info22
  obtain ⟨ai, ci, h1, _⟩ := h.init.form
  obtain ⟨ag, cg, h2, _⟩ := h.goal.form
  obtain ⟨ao, co, h3, hmo⟩ := h.ops.form
  obtain ⟨aa, cs, h4, _⟩ := hs.form
  subst h1 h2 h3 h4
  have hn32 : t.n ≤ 32 := by have := ok.n1; omega
  have hs32 := isSet_mono hset hn32
  have HB := Lib.hid (Four.new w (.int .i64 t.n) (.slice ai t.init.length ci) (.slice ag t.goal.length cg) (.slice ao t.ops.length co) 25)
  have K1 := (Keeps.refl (fun _ => False) w).alloc (.cells #[.int .i64 t.n, .slice ai t.init.length ci, .slice ag t.goal.length cg, .slice ao t.ops.length co] 25)
  have HT := Lib.hid (h.keeps0 K1); have HSS := Lib.hid (show Ints _ (.slice aa s.length cs) s from hs.keeps0 K1)
  have HK := Lib.hid K1; have OK := Lib.hid ok; have SET := Lib.hid hset; have S32 := Lib.hid hs32
  clear h hs K1 ok hset hs32
  go_enter Try.func61, Try.ntmps61
  go_upto_region 1 with fail
  generalize (w.alloc (.cells #[.int .i64 t.n, .slice ai t.init.length ci, .slice ag t.goal.length cg, .slice ao t.ops.length co] 25)) = w1 at HB HT HSS HK ⊢
  have hbx := HB.out.lt
  have KA := (Keeps.refl (fun _ => False) w1).alloc (.cells #[.slice aa s.length cs] 22)
  have HB2 := Lib.hid (HB.out.keeps0 KA); have HT2 := Lib.hid (HT.out.keeps0 KA); have HS2 := Lib.hid (show Ints _ (.slice aa s.length cs) s from HSS.out.keeps0 KA)
  have HR2 := Lib.hid (heap_alloc_new w1 (.cells #[.slice aa s.length cs] 22))
  have HK2 := Lib.hid (HK.out.trans KA)
  clear KA
  go_wp2_with fail
  refine (rword_any _ _ s HS2.out S32.out).mono ?_; rintro e w2 ⟨rfl, rfl⟩
  go_wp2_with fail
  have hbx' := HB2.out.lt
  have HR3 := Lib.hid (show Rows ((w1.alloc (.cells #[.slice aa s.length cs] 22)).alloc (.cells #[.int .i64 ((wd s : Nat) : Int)] 3)) w1.heap.size (.slice (some ⟨w1.heap.size, 0, none⟩) 1 1) (.slice (some ⟨w1.heap.size + 1, 0, none⟩) 1 1) [wd s] [.slice aa s.length cs] by
    have n2 := heap_alloc_new (w1.alloc (.cells #[.slice aa s.length cs] 22)) (.cells #[.int .i64 ((wd s : Nat) : Int)] 3)
    rw [World.size_alloc] at n2
    have k2 := (Keeps.refl (fun _ => False) (w1.alloc (.cells #[.slice aa s.length cs] 22))).alloc (.cells #[.int .i64 ((wd s : Nat) : Int)] 3)
    refine ⟨⟨by simp, .inr ⟨w1.heap.size, 1, _, rfl, Nat.le_refl _, k2.heap HR2.out (fun h => h), by simp, by unfold maxLen; omega, by simp, by simp⟩⟩, ⟨by simp, .inr ⟨w1.heap.size + 1, 1, _, rfl, by omega, n2, by simp, by unfold maxLen; omega, by simp, by simp⟩⟩, fun i x hx => ?_⟩
    cases i with
    | zero =>
      simp at hx; subst hx
      refine ⟨_, rfl, ?_, fun h0 k hk => ?_⟩
      · rw [facts_wd S32.out]; exact HS2.out.keeps0 k2
      · rw [facts_wd S32.out] at h0
        have := Ints.lt HSS.out h0 k hk
        simp [Value.ownBlock]; omega
    | succ i => simp at hx)
  have HK3 := Lib.hid (show Keeps (fun _ => False) w1 ((w1.alloc (.cells #[.slice aa s.length cs] 22)).alloc (.cells #[.int .i64 ((wd s : Nat) : Int)] 3)) from ((Keeps.refl _ _).alloc _).alloc _)
  generalize ((w1.alloc (.cells #[.slice aa s.length cs] 22)).alloc (.cells #[.int .i64 ((wd s : Nat) : Int)] 3)) = w2 at HR3 HK3 ⊢
  clear HB2 HT2 HS2 HR2 HK2 hbx' hbx
  go_loopw [6, 7, 8] (fun v6 v7 i8 wr => ∃ (i : Nat) (L : List Nat) (vs : List Value), bfs (wordsOf t.ops) (wd s) i = some L ∧ i ≤ L.length ∧ (∀ x ∈ L, Good t.n x) ∧ i8 = .int .i64 (i : Int) ∧ Rows wr w1.heap.size v6 v7 L vs ∧ Keeps (fun _ => False) w1 wr) (fun _ _ i8 _ => 2001 - (intOf i8).toNat)
  case atStart => exact ⟨0, [wd s], _, rfl, by simp, by intro x hx; simp at hx; subst hx; exact good_wd (by have := OK.out.n1; omega) SET.out, rfl, HR3.out, HK3.out⟩
  case round =>
    obtain ⟨i, L, vs, hb, hil, hg, rfl, hr, hkw⟩ := hrel
    have hfew := (bfs_ok hb).few
    have HBF := Lib.hid hb; have HG := Lib.hid hg; have HR := Lib.hid hr; have KW := Lib.hid hkw
    have hbr := (HB.out.keeps0 hkw).lt
    obtain ⟨d0, d1, d2, d3⟩ := HB.out.keeps0 hkw
    obtain ⟨av, cv, hav⟩ := ownsRow_form1 hr.out
    obtain ⟨aw, cw, haw⟩ := ownsRow_form1 hr.words
    subst hav haw
    clear hb hg hr hkw
    by_cases hlt : i < L.length
    · obtain ⟨x, hx⟩ : ∃ x, L[i]? = some x := ⟨_, List.getElem?_eq_getElem hlt⟩
      have HX := Lib.hid hx
      clear hx
      have hx32 : Good t.n x := HG.out x (List.mem_of_getElem? HX.out)
      have HGX := Lib.hid hx32
      clear hx32
      go_upto_region 7 with fail
      go_loopw [6, 7, 9] (fun v6 v7 i9 wq => ∃ (j : Nat) (vs : List Value), j ≤ t.ops.length ∧ i9 = .int .i64 (j : Int) ∧ (L ++ freshs L (nexts ((wordsOf t.ops).take j) x)).length ≤ 2000 ∧ Rows wq w1.heap.size v6 v7 (L ++ freshs L (nexts ((wordsOf t.ops).take j) x)) vs ∧ Keeps (fun _ => False) w1 wq) (fun _ _ i9 _ => t.ops.length - (intOf i9).toNat)
      case atStart => exact ⟨0, vs, by omega, rfl, by simpa [nexts, freshs] using hfew, by simpa [nexts, freshs] using HR.out, KW.out⟩
      case round =>
        obtain ⟨j, vs2, hj, rfl, hfew2, hr2, hkq⟩ := hrel
        generalize hQ : L ++ freshs L (nexts ((wordsOf t.ops).take j) x) = Q at hfew2 hr2
        have HQ := Lib.hid hQ; have HR2 := Lib.hid hr2; have KQ := Lib.hid hkq
        have hbq := (HB.out.keeps0 hkq).lt
        obtain ⟨q0, q1, q2, q3⟩ := HB.out.keeps0 hkq
        obtain ⟨av2, cv2, hav2⟩ := ownsRow_form1 hr2.out
        obtain ⟨aw2, cw2, haw2⟩ := ownsRow_form1 hr2.words
        subst hav2 haw2
        clear hQ hr2 hkq d0 d1 d2 d3 hbr
        by_cases hjl : j < t.ops.length
        · obtain ⟨o, ho⟩ : ∃ o, t.ops[j]? = some o := ⟨_, List.getElem?_eq_getElem hjl⟩
          have HOO := Lib.hid ho
          have hok := OK.out.ops o (List.mem_of_getElem? ho)
          obtain ⟨hap, haf, hgn⟩ := good_next (by have := OK.out.n1; omega : t.n ≤ 32) hok HGX.out
          have HAP := Lib.hid hap; have HAF := Lib.hid haf; have HGN := Lib.hid hgn
          have hwo : (wordsOf t.ops)[j]? = some o.word := by unfold wordsOf; rw [List.getElem?_map, ho]; rfl
          have HNT := Lib.hid (nexts_take hwo x)
          clear ho hok hap haf hgn hwo
          have hQi : Q[i]? = some x := by rw [← HQ.out, List.getElem?_append_left hlt]; exact HX.out
          have hQl : i < Q.length := (List.getElem?_eq_some_iff.1 hQi).1
          obtain ⟨u, hu, hiu, hua⟩ := HR2.out.st i x hQi
          obtain ⟨gq, capq, hvq, hg1, hg2⟩ := HR2.out.out.form (by omega)
          simp only [Value.slice.injEq] at hvq
          obtain ⟨rfl, _, rfl⟩ := hvq
          have hcu : wr.cell? ⟨gq, i, none⟩ = some u := by
            have := World.ownsRow.cells HR2.out.out (g := gq) rfl i u hu
            have hadd : (⟨gq, 0, none⟩ : Addr).add i = ⟨gq, i, none⟩ := by unfold Addr.add; split <;> simp_all
            rwa [hadd] at this
          obtain ⟨au, cu, hfu, _⟩ := hiu.form
          have HIU := Lib.hid hiu; have HUA := Lib.hid hua; have HTQ := Lib.hid (HT.out.keeps0 KQ.out)
          subst hfu
          clear hQi hu hiu hua
          go_upto_region 9 with fail
          go_still_tail 6, (by kernel_rfl)
          change wpList _ _ _ _ _ wr.drew
          have KD := (Keeps.refl (fun _ => False) wr).drew
          have HTD := Lib.hid (HTQ.out.keeps0 KD); have HID := Lib.hid (show Ints wr.drew (.slice au (facts x).length cu) (facts x) from HIU.out.keeps0 KD)
          have HRD := Lib.hid (HR2.out.keeps0 KD); have KDD := Lib.hid (KQ.out.trans KD)
          have hcu2 := KD.cell hcu (fun h => h)
          clear KD hcu q0 q1 q2 q3 HTQ HIU HR2 KQ
          generalize wr.drew = w4 at HTD HID HRD KDD hcu2 ⊢
          go_wp2_with fail
          refine (applies_any _ _ _ _ _ t (facts x) j o HTD.out HID.out HOO.out).mono ?_; rintro e w5 ⟨rfl, hk5⟩
          rw [HAP.out]
          have HR5 := Lib.hid (HRD.out.keeps0 hk5); have HT5 := Lib.hid (HTD.out.keeps0 hk5); have HI5 := Lib.hid (show Ints w5 (.slice au (facts x).length cu) (facts x) from HID.out.keeps0 hk5); have K5 := Lib.hid (KDD.out.trans hk5)
          have hcu5 := hk5.cell hcu2 (fun h => h)
          clear hk5 HRD HTD HID KDD hcu2
          cases hcan : o.word.can x with
          | false =>
            have HSQ := Lib.hid (show L ++ freshs L (nexts ((wordsOf t.ops).take (j + 1)) x) = Q by rw [HNT.out, hcan]; simpa using HQ.out)
            clear hcan
            go_wp2_with fail
            go_roundw
            case rel => exact ⟨j + 1, vs2, by omega, by go_num, by rw [HSQ.out]; exact hfew2, by rw [HSQ.out]; exact HR5.out, K5.out⟩
            case measure => simp [intOf]; omega
          | true =>
            have HCAN := Lib.hid hcan
            clear hcan
            have hb5 := (HB.out.keeps0 K5.out).lt
            obtain ⟨q0, q1, q2, q3⟩ := HB.out.keeps0 K5.out
            go_upto_region 10 with fail
            go_still_tail 6, (by kernel_rfl)
            change wpList _ _ _ _ _ w5.drew
            have KD := (Keeps.refl (fun _ => False) w5).drew
            have HTD := Lib.hid (HT5.out.keeps0 KD); have HID := Lib.hid (show Ints w5.drew (.slice au (facts x).length cu) (facts x) from HI5.out.keeps0 KD)
            have hcu6 := KD.cell hcu5 (fun h => h)
            have HRD := Lib.hid (HR5.out.keeps0 KD); have KDD := Lib.hid (K5.out.trans KD)
            clear KD hcu5 q0 q1 q2 q3 HT5 HI5 HR5 K5 hb5
            generalize w5.drew = w6 at HTD HID HRD KDD hcu6 ⊢
            go_wp2_with fail
            refine (after_any _ _ _ _ _ t (facts x) j o HTD.out HID.out HOO.out OK.out.n0 (by have := OK.out.n1; omega)).mono ?_; rintro e w7 ⟨vn, rfl, hown7, hk7⟩
            rw [HAF.out] at hown7
            have HI7 := Lib.hid (show Ints w7 vn (facts (o.word.next x)) from Sl.of_own hown7 |> fun h => by simpa [Ints] using h)
            have HLO := Lib.hid (fun k hk => World.ownsRow.lt hown7 k hk)
            obtain ⟨an, cn, hvn⟩ := ownsRow_form1 hown7
            subst hvn
            have HR7 := Lib.hid (HRD.out.keeps0 hk7); have K7 := Lib.hid (KDD.out.trans hk7)
            have hs6 := hk7.size
            clear hown7 hk7 HTD HID KDD hcu6
            go_wp2_with fail
            refine (rword_any _ _ _ HI7.out (isSet_mono HGN.out.1 (by have := OK.out.n1; omega))).mono ?_; rintro e w8 ⟨rfl, rfl⟩
            rw [HGN.out.2]
            go_wp2_with fail
            have HW7 := Lib.hid (show Ints w7 (.slice aw2 Q.length cw2) (Q.map fun y : Nat => (y : Int)) by
              have h := Sl.of_own HR7.out.words
              unfold Ints
              rw [List.length_map, List.map_map]
              exact h)
            refine (has_any _ _ _ _ HW7.out).mono ?_; rintro e w8 ⟨rfl, rfl⟩
            have hsnoc := freshs_snoc (nexts ((wordsOf t.ops).take j) x) (o.word.next x) L
            rw [HQ.out] at hsnoc
            by_cases hmem : o.word.next x ∈ Q
            · have HD : Hid (decide (((o.word.next x : Nat) : Int) ∈ Q.map fun y : Nat => (y : Int)) = true) := by
                unfold Hid; rw [decide_eq_true_eq]; exact List.mem_map.2 ⟨_, hmem, rfl⟩
              have HSQ := Lib.hid (show L ++ freshs L (nexts ((wordsOf t.ops).take (j + 1)) x) = Q by
                rw [HNT.out, HCAN.out, if_pos rfl, hsnoc, if_pos hmem, List.append_nil]; exact HQ.out)
              rw [HD.out]
              clear hsnoc hmem
              go_wp2_with fail
              go_roundw
              case rel => exact ⟨j + 1, vs2, by omega, by go_num, by rw [HSQ.out]; exact hfew2, by rw [HSQ.out]; exact HR7.out, K7.out⟩
              case measure => simp [intOf]; omega
            · have HD : Hid (decide (((o.word.next x : Nat) : Int) ∈ Q.map fun y : Nat => (y : Int)) = false) := by
                unfold Hid; rw [decide_eq_false_iff_not]; intro h; obtain ⟨y, hy, e⟩ := List.mem_map.1 h; have : y = o.word.next x := by omega
                exact hmem (this ▸ hy)
              rw [HD.out]
              have hsn2 : L ++ freshs L (nexts ((wordsOf t.ops).take (j + 1)) x) = Q ++ [o.word.next x] := by
                rw [HNT.out, HCAN.out, if_pos rfl, hsnoc, if_neg hmem, ← List.append_assoc, HQ.out]
              by_cases h2000 : Q.length = 2000
              · have HNO := Lib.hid (show reached (wordsOf t.ops) (wd s) = none by
                  refine reached_of_none (i := i + 1) ?_ (by omega)
                  rw [bfs_step HBF.out HX.out, if_neg ?_]
                  rw [nexts_split (wordsOf t.ops) (j + 1) x, freshs_append, ← List.append_assoc, hsn2]
                  simp only [List.length_append, List.length_singleton]
                  omega)
                have hq : ((Q.length : Int) == 2000) = true := by rw [h2000]; rfl
                clear hsnoc hmem hsn2
                go_wp2_with fail
                refine bodyPost_ret (v := .tuple #[.slice none 0 0, .bool false]) (by simp [results, Try.results61, go_sem]) rfl ?_
                exact ⟨HK.out.trans K7.out, .inl ⟨HNO.out, rfl⟩⟩
              · have HSQ := Lib.hid hsn2
                have hq : ((Q.length : Int) == 2000) = false := by simp; omega
                have hq2 : Q.length < 2000 := by omega
                have hs7 := K7.out.size
                have HNB := Lib.hid (show ∀ k, (Value.slice an (facts (o.word.next x)).length cn).ownBlock = some k → (Value.slice (some ⟨gq, 0, none⟩) Q.length cv2).ownBlock ≠ some k ∧ (Value.slice aw2 Q.length cw2).ownBlock ≠ some k from fun k hk => by
                  have h1 := (HLO.out k hk).1
                  refine ⟨fun e => ?_, fun e => ?_⟩
                  · have := (World.ownsRow.lt HRD.out.out k e).2; omega
                  · have := (World.ownsRow.lt HRD.out.words k e).2; omega)
                clear hsnoc hmem hsn2 h2000
                go_wp2_with (at_builtin; refine wpList_append_d rfl _ _ _ rfl w1.heap.size 22 j0 _ 1 24 Try.underlying33 hj0 jz0 jz1 jz2 rfl (by omega) _ Q.length vs2 (by rfl) (World.ownsRow.alloc HR7.out.out (.cells #[.slice an (facts (o.word.next x)).length cn] 22)) ⟨w7.heap.size, 0, none⟩ 1 1 [.slice an (facts (o.word.next x)).length cn] (by rfl) (by rfl) ?hnews ?hone (by omega) (by unfold maxLen; omega) (by omega) (by simp; omega) (w7.heap.size + 1) (by simp) ?_)
                case hnews => exact World.news_of_block (cs := #[.slice an (facts (o.word.next x)).length cn]) (t := 22) (fr := (0, 0)) (heap_alloc_new _ _)
                case hone => simp [Value.oneCell']
                intro gg cap2 w8 hown hgrow hat hlt4 hd4
                have hk8 : Keeps (fun k => (Value.slice (some ⟨gq, 0, none⟩) Q.length cv2).ownBlock = some k) w7 w8 := ((Keeps.refl _ w7).alloc _).grown hgrow (fun k hk => .inl hk)
                have HOW := Lib.hid hown; have K78 := Lib.hid hk8
                have HG1 := Lib.hid (show ∀ k, (Value.slice (some ⟨gg, 0, none⟩) (Q.length + 1) cap2).ownBlock = some k → (Value.slice (some ⟨gq, 0, none⟩) Q.length cv2).ownBlock = some k ∨ w7.heap.size ≤ k from fun k hk => by
                  simp [Value.ownBlock] at hk
                  subst hk
                  rcases hat with h | h
                  · exact .inl h
                  · exact .inr (by omega))
                have HI8 := Lib.hid (HI7.out.keepsS hk8 (fun _ k hk e => (HNB.out k hk).1 e))
                have HW8 := Lib.hid (hk8.ownsRow HR7.out.words (fun k hk e => HR7.out.apart k e hk))
                have hs8 := hk8.size
                clear hown hgrow hat hd4 hk8
                go_wp2_with fail
                refine (rword_any _ _ _ HI8.out (isSet_mono HGN.out.1 (by have := OK.out.n1; omega))).mono ?_; rintro e w9 ⟨rfl, rfl⟩
                rw [HGN.out.2]
                go_wp2_with (at_builtin; refine wpList_append_d rfl _ _ _ rfl w1.heap.size 3 i0 _ 1 8 Try.underlying22 hi0 hz0 hz1 hz2 rfl (by omega) _ Q.length (Q.map fun x : Nat => Value.int .i64 (x : Int)) (by rfl) (World.ownsRow.alloc HW8.out (.cells #[.int .i64 ((o.word.next x : Nat) : Int)] 3)) ⟨w8.heap.size, 0, none⟩ 1 1 [.int .i64 ((o.word.next x : Nat) : Int)] (by rfl) (by rfl) ?hnews2 ?hone2 (by omega) (by unfold maxLen; omega) (by omega) (by simp; omega) (w8.heap.size + 1) (by simp) ?_)
                case hnews2 => exact World.news_of_block (cs := #[.int .i64 ((o.word.next x : Nat) : Int)]) (t := 3) (fr := (0, 0)) (heap_alloc_new _ _)
                case hone2 => simp [Value.oneCell']
                intro gw cap3 w9 hown hgrow hat hlt5 hd4
                have hk9 : Keeps (fun k => (Value.slice aw2 Q.length cw2).ownBlock = some k) w8 w9 := ((Keeps.refl _ w8).alloc _).grown hgrow (fun k hk => .inl hk)
                have HR9 := Lib.hid (HR7.out.snoc HI7.out HNB.out (fun k hk => (HLO.out k hk).2) K78.out HOW.out HG1.out hk9 hown (fun k hk => by
                  simp [Value.ownBlock] at hk
                  subst hk
                  rcases hat with h | h
                  · exact .inl h
                  · exact .inr (by omega)))
                have K9 := Lib.hid ((K7.out.trans' K78.out (fun k hk => .inr (World.ownsRow.lt HR7.out.out k hk).1)).trans' hk9 (fun k hk => .inr (World.ownsRow.lt HR7.out.words k hk).1))
                clear hown hgrow hat hd4 hk9
                go_wp2_with fail
                go_roundw
                case rel => exact ⟨j + 1, vs2 ++ [.slice an (facts (o.word.next x)).length cn], by omega, by go_num, by rw [HSQ.out, List.length_append, List.length_singleton]; omega, by rw [HSQ.out]; exact HR9.out, K9.out⟩
                case measure => simp [intOf]; omega
        · have HBN := Lib.hid (show bfs (wordsOf t.ops) (wd s) (i + 1) = some Q by
            have hje : (wordsOf t.ops).take j = wordsOf t.ops := List.take_of_length_le (by unfold wordsOf; rw [List.length_map]; omega)
            have hq := HQ.out
            rw [hje] at hq
            rw [bfs_step HBF.out HX.out, hq, if_pos hfew2])
          have HGQ := Lib.hid (show ∀ y ∈ Q, Good t.n y by
            intro y hy
            rw [← HQ.out] at hy
            rcases mem_freshs.1 hy with hy | hy
            · exact HG.out y hy
            · unfold nexts at hy
              obtain ⟨wo, hwo, rfl⟩ := List.mem_map.1 hy
              have hm := List.mem_of_mem_take (List.mem_filter.1 hwo).1
              unfold wordsOf at hm
              obtain ⟨o, ho, rfl⟩ := List.mem_map.1 hm
              exact (good_next (by have := OK.out.n1; omega) (OK.out.ops o ho) HGX.out).2.2)
          have hlq : i + 1 ≤ Q.length := by rw [← HQ.out, List.length_append]; omega
          go_wp2_with fail
          go_roundw
          case rel => exact ⟨i + 1, Q, vs2, HBN.out, hlq, HGQ.out, by go_num, HR2.out, KQ.out⟩
          case measure => simp [intOf]; omega
    · have HE := Lib.hid (reached_of_end HBF.out (by omega : i = L.length))
      go_wp2_with fail
      refine bodyPost_ret (v := .tuple #[.slice av L.length cv, .bool true]) (by simp [results, Try.results61, go_sem]) rfl ?_
      refine ⟨HK.out.trans KW.out, .inr ⟨L, HE.out, _, .slice aw L.length cw, vs, rfl, ?_⟩⟩
      exact ⟨ownsRow_mono HR.out.out HK.out.size, ownsRow_mono HR.out.words HK.out.size, HR.out.st⟩

end Go.Proofs.Ytcfcmmajlkkabaa
