/- relaxplan: the walks of Plan's closures: achieve (which calls itself), and the look at the levels. relaxplan: the walk of Plan. astar.Value at the kind Plan; and what Value says at every kind. Heuristics in plain Lean: those of Max and Pairs fall by no more than an operator costs; those of all kinds are finite where there is a plan. relaxplan: what has no level is never reached, in plain Lean. astar.Values at every kind; what is said of the values. greedy.Plan. astar.Checked at any Bool. No condition beyond what each theorem says. -/
import Derived.Test.YtdokakhgflljgaaGreatM13
import Derived.Test.YtdokakhgflljgaaGreatM12
import Derived.Test.YtdokakhgflljgaaGreatM11
import Derived.Test.YtdokakhgflljgaaGreatM10
import Derived.Test.YtdokakhgflljgaaGreatM9
import Derived.Test.YtdokakhgflljgaaGreatM6

namespace Go.Proofs.YtdokakhgflljgaaGreat
open Go.RowKit Go.Shelf

set_option maxRecDepth 100000 in
set_option maxHeartbeats 2000000 in
theorem below_any (W : World) (b8 g n : Nat) (v : List Int) (x : Int) (h8 : W.cell? ⟨b8, 0, none⟩ = some (.slice (some ⟨g, 0, none⟩) n n)) (hv : IArr W g v) (hl : v.length = n) (hx : 0 ≤ x ∧ x < (n : Int)) :
  Calls Tryz.prog 98 #[.int .i64 x, .pointer (some ⟨b8, 0, none⟩)] W fun e W' => e = .returned (.bool (decide (getV v x < 0))) ∧ Keeps (fun _ => False) W W' := by
 obtain ⟨j, rfl⟩ := Int.eq_ofNat_of_zero_le hx.1
 have hg := hv.get (j := j) (by omega)
 have hgl := hv.lt
 have hb8 : b8 < W.heap.size := World.block_lt_of_cell? W _ h8
 have hxn := hx.2
 clear hv hx
 generalize getV v (j : Int) = y at hg ⊢
 go_enter Tryz.func98, Tryz.ntmps98
 go_wp2_with fail
 go_ret
 exact ⟨rfl, Keeps.refl _ _⟩

/-- What achieve is given: the boxes of its variables, and the supporters. -/
structure AchW (wb w0 : World) (b2 b9 b10 b11 b12 gs gd n m : Nat) (vi vg vo : Value) (t : Tsk) (sup : List Int) : Prop where
 task : TaskAt wb vi vg vo t
 low : ∀ W, Keeps (fun b => b = gd ∨ b = b10) w0 W → Keeps (fun _ => False) wb W
 x2 : Four w0 b2 (.int .i64 t.n) vi vg vo
 x9 : w0.heap[b9]? = some (.cells #[.slice (some ⟨gs, 0, none⟩) n n] 22 (0, 0))
 x11 : w0.heap[b11]? = some (.cells #[.slice (some ⟨gd, 0, none⟩) m m] 44 (0, 0))
 x12 : w0.heap[b12]? = some (.cells #[.func (.func 99) #[] #[.pointer (some ⟨b9, 0, none⟩), .pointer (some ⟨b11, 0, none⟩), .pointer (some ⟨b2, 0, none⟩), .pointer (some ⟨b12, 0, none⟩), .pointer (some ⟨b10, 0, none⟩)]] 172 (0, 0))
 sup : IArr w0 gs sup
 l10 : b10 < w0.heap.size
 ld : gd < w0.heap.size
 n2 : b2 ≠ gd ∧ b2 ≠ b10
 n9 : b9 ≠ gd ∧ b9 ≠ b10
 n11 : b11 ≠ gd ∧ b11 ≠ b10
 n12 : b12 ≠ gd ∧ b12 ≠ b10
 ns : gs ≠ gd ∧ gs ≠ b10
 nd : gd ≠ b10
/-- The steps so far, and the done ones, in memory. -/
def AchAt (w0 : World) (gd b10 : Nat) (st : List Bool × List Int) (W : World) : Prop :=
 BArr W gd st.1 ∧ (∃ vp, W.heap[b10]? = some (.cells #[vp] 22 (0, 0)) ∧ W.ownsRow w0.heap.size 3 1 vp st.2.length (st.2.map (Value.int .i64))) ∧ Keeps (fun b => b = gd ∨ b = b10) w0 W

theorem opPre_at {ops : List Opr} {i : Nat} {o : Opr} (h : ops[i]? = some o) : opPre ops (i : Int) = o.pre := by
 unfold opPre; rw [Int.toNat_natCast, h]; rfl

set_option maxRecDepth 100000 in
set_option maxHeartbeats 8000000 in
theorem achieve_any {wb w0 : World} {b2 b9 b10 b11 b12 gs gd n m : Nat} {vi vg vo : Value} {t : Tsk} {sup : List Int} (hw : AchW wb w0 b2 b9 b10 b11 b12 gs gd n m vi vg vo t sup) (ok : t.Ok) (hn : AchNeed sup t.ops) (hl : sup.length = n) (hm : t.ops.length = m) :
  ∀ (k : Nat) (p : Int) (st : List Bool × List Int) (W : World), 0 ≤ p → p < (n : Int) → st.1.length = m → (∀ i ∈ st.2, 0 ≤ i ∧ i < (m : Int)) → offs st.1 + st.2.length ≤ m → offs st.1 < k → AchAt w0 gd b10 st W →
  Calls Tryz.prog 99 #[.int .i64 p, .pointer (some ⟨b9, 0, none⟩), .pointer (some ⟨b11, 0, none⟩), .pointer (some ⟨b2, 0, none⟩), .pointer (some ⟨b12, 0, none⟩), .pointer (some ⟨b10, 0, none⟩)] W fun e w' =>
   e = .returned (.tuple #[]) ∧ AchAt w0 gd b10 (ach sup t.ops k p st) w' := by
 obtain ⟨ai, ci, h1, _⟩ := hw.task.init.form
 obtain ⟨ag, cg, h2, _⟩ := hw.task.goal.form
 obtain ⟨ao, co, h3, hmo⟩ := hw.task.ops.form
 subst h1 h2 h3
 obtain ⟨i0, hi0, hz0, hz1, hz2⟩ := info_parts Tryz.info3
 have HW := Lib.hid hw; have OK := Lib.hid ok; have HN := Lib.hid hn
 have hm40 : m ≤ 40 := by have := ok.few; omega
 clear hw ok hn
 intro k
 induction k with
 | zero => intro p st W _ _ _ _ _ h; exact absurd h (by omega)
 | succ k ih =>
  intro p st W hp0 hpn hsl hso hmore hk hat
  have IH := Lib.hid ih; clear ih
  obtain ⟨hbd, ⟨vp, hbp, hrow⟩, hkw⟩ := hat
  obtain ⟨j, rfl⟩ := Int.eq_ofNat_of_zero_le hp0
  have hsa : IArr W gs sup := HW.out.sup.keeps hkw (fun e => by have := HW.out.ns; rcases e with e | e <;> omega)
  have hg := hsa.get (j := j) (by omega)
  have hgl := hsa.lt
  have hin := HN.out.inn (j : Int) hp0 (by omega)
  have c9 := Boxed.cell (hkw.heap HW.out.x9 (fun e => by have := HW.out.n9; rcases e with e | e <;> omega))
  have l9 := lt_of_heap (hkw.heap HW.out.x9 (fun e => by have := HW.out.n9; rcases e with e | e <;> omega))
  have HBD := Lib.hid hbd; have HBP := Lib.hid hbp; have HROW := Lib.hid hrow; have HKW := Lib.hid hkw; have HSO := Lib.hid hso
  clear hbd hbp hrow hkw hso hsa
  obtain ⟨y, hy⟩ : ∃ y, getV sup (j : Int) = y := ⟨_, rfl⟩
  have HY := Lib.hid hy
  rw [hy] at hg hin
  clear hy
  go_enter Tryz.func99, Tryz.ntmps99
  by_cases hneg : y < 0
  ·have hd : decide (y < 0) = true := by simpa using hneg
   have HR := Lib.hid (show ach sup t.ops (k + 1) (j : Int) st = st from ach_skip (by rw [HY.out]; exact .inl hneg))
   clear hneg
   go_wp2_with fail
   refine bodyPost_ret (results_none rfl _ _ _) rfl ?_
   exact ⟨rfl, by rw [HR.out]; exact ⟨HBD.out, ⟨_, HBP.out, HROW.out⟩, HKW.out⟩⟩
  ·have hd : decide (y < 0) = false := by simpa using hneg
   obtain ⟨i, rfl⟩ := Int.eq_ofNat_of_zero_le (show 0 ≤ y by omega)
   have hil : i < m := by omega
   have c11 := Boxed.cell (HKW.out.heap HW.out.x11 (fun e => by have := HW.out.n11; rcases e with e | e <;> omega))
   have l11 := lt_of_heap (HKW.out.heap HW.out.x11 (fun e => by have := HW.out.n11; rcases e with e | e <;> omega))
   have hgb := HBD.out.get (j := i) (by omega)
   have hbl := HBD.out.lt
   have him : (i : Int) < (m : Int) := by omega
   cases hb : getB st.1 (i : Int) with
   | true =>
    rw [hb] at hgb
    have HR := Lib.hid (show ach sup t.ops (k + 1) (j : Int) st = st from ach_skip (by rw [HY.out]; exact .inr hb))
    clear hneg hb
    go_wp2_with fail
    refine bodyPost_ret (results_none rfl _ _ _) rfl ?_
    exact ⟨rfl, by rw [HR.out]; exact ⟨HBD.out, ⟨_, HBP.out, HROW.out⟩, HKW.out⟩⟩
   | false =>
    rw [hb] at hgb
    obtain ⟨o, ho⟩ : ∃ o, t.ops[i]? = some o := ⟨_, List.getElem?_eq_getElem (by omega)⟩
    have HR := Lib.hid (show ach sup t.ops (k + 1) (j : Int) st = ((achs sup t.ops k (st.1.set i true, st.2) o.pre).1, (achs sup t.ops k (st.1.set i true, st.2) o.pre).2 ++ [(i : Int)]) by
     have h := ach_go (sup := sup) (ops := t.ops) (k := k) (p := (j : Int)) (st := st) (by rw [HY.out, hb]; simp)
     rw [HY.out, opPre_at ho, Int.toNat_natCast] at h; exact h)
    have hoff := offs_set st.1 i (getB_false (q := (i : Int)) (by rw [Int.toNat_natCast]; omega) hb)
    have HA0 := Lib.hid (show ∀ jj, AchI m (st.1.set i true, st.2) (achs sup t.ops k (st.1.set i true, st.2) (o.pre.take jj)) from fun jj => by
     have h := achs_ok HN.out k (o.pre.take jj) (st.1.set i true, st.2) (fun q hq => HN.out.pre o (List.mem_of_getElem? ho) q (List.mem_of_mem_take hq)) (by simp only; rw [List.length_set]; omega) (by rw [hm]; exact HSO.out)
     rw [hm] at h; exact h)
    have hfz := HBD.out.frozen i
    have hs1 : AchAt w0 gd b10 (st.1.set i true, st.2) (W.setCell ⟨gd, i, none⟩ (.bool true)) := ⟨HBD.out.set i true, ⟨vp, (keeps_set W gd i (.bool true)).heap HBP.out (fun e => by have := HW.out.nd; omega), (keeps_set W gd i (.bool true)).ownsRow HROW.out (fun k hk e => by have h1 := (World.ownsRow.lt HROW.out k hk).1; have h2 := HW.out.ld; have h3 : k = gd := e; omega)⟩, HKW.out.trans ((keeps_set W gd i (.bool true)).mono (fun _ _ h => .inl h))⟩
    have HS1 := Lib.hid hs1
    have HPRE := Lib.hid (show ∀ q ∈ o.pre, 0 ≤ q ∧ q < (n : Int) from fun q hq => by have := HN.out.pre o (List.mem_of_getElem? ho) q hq; omega)
    have HOM := Lib.hid ho
    clear hneg hb hs1 ho
    go_upto_region 3 with fail
    generalize W.setCell ⟨gd, i, none⟩ (.bool true) = w1 at HS1 ⊢
    clear c9 l9 c11 l11 hg hgl hgb hbl hfz
    have KW1 := Lib.hid (HW.out.low w1 HS1.out.2.2)
    obtain ⟨d0, d1, d2, d3⟩ := HW.out.x2.keepsB HS1.out.2.2 (fun e => by have := HW.out.n2; rcases e with e | e <;> omega)
    have hbx := (HW.out.x2.keepsB HS1.out.2.2 (fun e => by have := HW.out.n2; rcases e with e | e <;> omega)).lt
    obtain ⟨bo, oo, rfl, hcell⟩ := HW.out.task.ops.cell rfl (by omega)
    obtain ⟨va, vb, vd, p0', p1', p2', p3', i1, i2, i3⟩ := hcell i o HOM.out
    have p0 := KW1.out.cell p0' (fun h => h)
    obtain ⟨a1, k1, f1, _⟩ := i1.form
    subst f1
    have I1 := Lib.hid i1
    have HST := Lib.hid hoff
    have himo : (i : Int) < ((t.ops.length : Nat) : Int) := by omega
    clear p0' p1' p2' p3' hcell i1 i2 i3 hoff
    go_wp2_with fail
    clear p0 d0 d1 d2 d3 hbx
    go_loopw [32] (fun v32 wr => ∃ jj : Nat, v32 = .int .i64 (jj : Int) ∧ jj ≤ o.pre.length ∧ AchAt w0 gd b10 (achs sup t.ops k (st.1.set i true, st.2) (o.pre.take jj)) wr) (fun v32 _ => o.pre.length - (intOf v32).toNat)
    case atStart => exact ⟨0, rfl, Nat.zero_le _, HS1.out⟩
    case round =>
     obtain ⟨jj, rfl, hjj, hat⟩ := hrel
     have HAT := Lib.hid hat; clear hat
     by_cases hjl : jj < o.pre.length
     ·have KW2 := Lib.hid (HW.out.low wr HAT.out.2.2)
      obtain ⟨b1, o1, rfl, hca⟩ := (I1.out.keeps0 KW2.out).cell rfl (by omega)
      obtain ⟨q, hq⟩ : ∃ q, o.pre[jj]? = some q := ⟨_, List.getElem?_eq_getElem hjl⟩
      have hqb := HPRE.out q (List.mem_of_getElem? hq)
      have hc2 := hca jj _ hq
      have HTK := Lib.hid (show achs sup t.ops k (st.1.set i true, st.2) (o.pre.take (jj + 1)) = ach sup t.ops k q (achs sup t.ops k (st.1.set i true, st.2) (o.pre.take jj)) by rw [take_getS hq, achs_snoc])
      have hA := HA0.out jj
      have c12 := Boxed.cell (HAT.out.2.2.heap HW.out.x12 (fun e => by have := HW.out.n12; rcases e with e | e <;> omega))
      have l12 := lt_of_heap (HAT.out.2.2.heap HW.out.x12 (fun e => by have := HW.out.n12; rcases e with e | e <;> omega))
      have HCALL := Lib.hid (IH.out q (achs sup t.ops k (st.1.set i true, st.2) (o.pre.take jj)) wr hqb.1 hqb.2 hA.len hA.ops (by have h1 := hA.more; have h2 := HST.out; simp only at h1; omega) (by have h1 := hA.fewer; have h2 := HST.out; simp only at h1; omega) HAT.out)
      clear hca hq hA
      go_wp2_with fail
      refine HCALL.out.mono ?_; rintro e w2 ⟨rfl, hat2⟩
      have HAT2 := Lib.hid hat2; clear hat2 c12 l12 hc2
      go_wp2_with fail
      go_roundw
      case rel => exact ⟨jj + 1, by go_num, by omega, by rw [HTK.out]; exact HAT2.out⟩
      case measure => simp [intOf]; omega
     ·have hA := HA0.out jj
      rw [List.take_of_length_le (by omega)] at HAT hA
      have HAI := Lib.hid hA; clear hA
      generalize achs sup t.ops k (st.1.set i true, st.2) o.pre = st2 at HAT HAI HR
      obtain ⟨hbd, ⟨vq, hbq, hrow⟩, hkr⟩ := HAT.out
      obtain ⟨ao3, cap3, hv3⟩ := ownsRow_form1 hrow
      subst hv3
      have hl2 : st2.2.length ≤ 40 := by have h1 := HAI.out.more; have h2 := HST.out; simp only at h1; omega
      have c10 := Boxed.cell hbq
      have z10 := Boxed.frozen hbq
      have l10 := lt_of_heap hbq
      have HBD2 := Lib.hid hbd; have HBQ := Lib.hid hbq; have HRO := Lib.hid hrow; have HKR := Lib.hid hkr
      have hs3 := hkr.size
      clear hbd hbq hrow hkr
      go_wp2_with (at_builtin; go_loud (refine wpList_append_lies _ rfl _ _ _ rfl w0.heap.size 3 i0 _ 1 8 Tryz.underlying22 hi0 hz0 hz1 hz2 rfl (by omega) _ st2.2.length _ (by rfl) (HRO.out.alloc _) ⟨wr.heap.size, 0, none⟩ 1 1 [.int .i64 (i : Int)] (by rfl) (by rfl) ?hnews ?hone (by omega) (by unfold maxLen; omega) (by omega) (by simp; omega) (wr.heap.size + 1) (by simp) ?_))
      case hnews => exact World.news_of_block (cs := #[.int .i64 (i : Int)]) (t := 3) (fr := (0, 0)) (heap_alloc_new _ _)
      case hone => simp [Value.oneCell']
      intro g2 cap2 w6 hown2 hgrow hat hlt3
      have k6 := ((Keeps.refl (fun b => (Value.slice ao3 st2.2.length cap3).ownBlock = some b) wr).alloc (.cells #[.int .i64 (i : Int)] 3)).grown hgrow (fun k hk => .inl hk)
      have hl10 := HW.out.l10
      have kk := HKR.out.trans' k6 (fun i hi => .inr (HRO.out.lt i hi).1)
      have hb6 := k6.heap HBQ.out (fun e => by have := (HRO.out.lt b10 e).1; omega)
      have c6 := Boxed.cell hb6
      have z6 := Boxed.frozen hb6
      have l6 := lt_of_heap hb6
      have HFIN := Lib.hid (show AchAt w0 gd b10 (st2.1, st2.2 ++ [(i : Int)]) (w6.setCell ⟨b10, 0, none⟩ (.slice (some ⟨g2, 0, none⟩) (st2.2.length + 1) cap2)) from
       ⟨(HBD2.out.keeps k6 (fun e => by have h1 := (HRO.out.lt gd e).1; have h2 := HW.out.ld; omega)).keeps (keeps_set _ _ _ _) (fun e => HW.out.nd e),
         ⟨_, Boxed.set _ hb6, (keeps_set w6 b10 0 _).ownsRow (by
        rw [show (st2.1, st2.2 ++ [(i : Int)]).2.length = st2.2.length + 1 by simp, show (st2.1, st2.2 ++ [(i : Int)]).2.map (Value.int .i64) = st2.2.map (Value.int .i64) ++ [.int .i64 (i : Int)] by simp]
        exact hown2) (fun k hk e => by have h1 := (World.ownsRow.lt hown2 k hk).1; have h3 : k = b10 := e; omega)⟩,
         kk.trans ((keeps_set _ _ _ _).mono (fun _ _ h => .inr h))⟩)
      clear hown2 hgrow hat k6 kk hb6 c10 z10 l10
      go_wp2_with fail
      refine bodyPost_end (results_none rfl _ _ _) rfl ?_
      exact ⟨rfl, by rw [HR.out]; exact HFIN.out⟩

end Go.Proofs.YtdokakhgflljgaaGreat

namespace Go.Proofs.YtdokakhgflljgaaGreat
open Go.RowKit Go.Shelf

theorem store_func {P : Program} {w : World} (a : Addr) (m : Mode) (fn : Fn) (first captured : Array Value) : (store a (.func fn first captured) m).run P w = stored P w a (.func fn first captured) m := run_store P w a _ m rfl
attribute [local go_sem] store_func

theorem achs_take {sup : List Int} {ops : List Opr} (k : Nat) (st : List Bool × List Int) {ps : List Int} {j : Nat} {p : Int} (h : ps[j]? = some p) : achs sup ops k st (ps.take (j + 1)) = ach sup ops k p (achs sup ops k st (ps.take j)) := by
 rw [take_getS h, achs_snoc]

theorem keep_set {w : World} {B k i : Nat} {x v : Value} (h : w.cell? ⟨k, i, none⟩ = some v) (hne : k ≠ B) : (w.setCell ⟨B, 0, none⟩ x).cell? ⟨k, i, none⟩ = some v := (keeps_set w B 0 x).cell h hne
theorem keep_alloc {w : World} {o : Obj} {k i : Nat} {v : Value} (h : w.cell? ⟨k, i, none⟩ = some v) : (w.alloc o).cell? ⟨k, i, none⟩ = some v := ((Keeps.refl (fun _ => False) w).alloc o).cell h (fun h => h)
theorem box_set {w : World} {B k : Nat} {T : TypeId} {x v : Value} (h : Boxed w k T v) (hne : k ≠ B) : Boxed (w.setCell ⟨B, 0, none⟩ x) k T v := (keeps_set w B 0 x).heap h hne
theorem box_alloc {w : World} {o : Obj} {k : Nat} {T : TypeId} {v : Value} (h : Boxed w k T v) : Boxed (w.alloc o) k T v := ((Keeps.refl (fun _ => False) w).alloc o).heap h (fun h => h)
theorem box_new {w : World} {k : Nat} {T : TypeId} {v : Value} (h : w.heap.size = k) : Boxed (w.alloc (.cells #[v] T)) k T v := by subst h; exact heap_alloc_new w _
theorem iarr_set {w : World} {B g : Nat} {l : List Int} {x : Value} (h : IArr w g l) (hne : g ≠ B) : IArr (w.setCell ⟨B, 0, none⟩ x) g l := h.keeps (keeps_set w B 0 x) hne
theorem iarr_alloc {w : World} {o : Obj} {g : Nat} {l : List Int} (h : IArr w g l) : IArr (w.alloc o) g l := h.keeps ((Keeps.refl (fun _ => False) w).alloc o) (fun h => h)
theorem keeps_set_new {w0 w : World} {B : Nat} {x : Value} (h : Keeps (fun _ => False) w0 w) (hB : w0.heap.size ≤ B) : Keeps (fun _ => False) w0 (w.setCell ⟨B, 0, none⟩ x) := h.trans' (keeps_set w B 0 x) (fun i hi => .inr (by have : i = B := hi; omega))
theorem one_new {w wa : World} {o : Obj} (h : Keeps (fun _ => False) (w.alloc o) wa) : wa.heap[w.heap.size]? = some o ∧ w.heap.size < wa.heap.size := by
 have h1 := h.heap (heap_alloc_new w o) (fun h => h)
 exact ⟨h1, lt_of_heap h1⟩
theorem two_new {w wa : World} {o o2 : Obj} (h : Keeps (fun _ => False) ((w.alloc o).alloc o2) wa) : wa.heap[w.heap.size]? = some o ∧ wa.heap[w.heap.size + 1]? = some o2 ∧ w.heap.size + 1 < wa.heap.size := by
 have h1 := h.heap (((Keeps.refl (fun _ => False) _).alloc _).heap (heap_alloc_new w o) (fun h => h)) (fun h => h)
 have h2 := heap_alloc_new (w.alloc o) o2
 rw [World.size_alloc] at h2
 have h3 := h.heap h2 (fun h => h)
 exact ⟨h1, h3, lt_of_heap h3⟩
theorem one_newD {w wa : World} {o : Obj} {g : Nat} (h : Keeps (fun _ => False) (w.alloc o).drew wa) (hg : (w.alloc o).drew.heap.size ≤ g) : wa.heap[w.heap.size]? = some o ∧ w.heap.size < wa.heap.size ∧ w.heap.size + 1 ≤ g := by
 have h2 : (w.alloc o).heap.size ≤ g := hg
 rw [World.size_alloc] at h2
 have h1 := one_new (w := w.drew) (o := o) h
 exact ⟨h1.1, h1.2, h2⟩
theorem two_newD {w wa : World} {o o2 : Obj} {g : Nat} (h : Keeps (fun _ => False) ((w.alloc o).alloc o2).drew wa) (hg : ((w.alloc o).alloc o2).drew.heap.size ≤ g) : wa.heap[w.heap.size]? = some o ∧ wa.heap[w.heap.size + 1]? = some o2 ∧ w.heap.size + 1 < wa.heap.size ∧ w.heap.size + 2 ≤ g := by
 have h2 : ((w.alloc o).alloc o2).heap.size ≤ g := hg
 rw [World.size_alloc, World.size_alloc] at h2
 have h1 := two_new (w := w.drew) (o := o) (o2 := o2) h
 exact ⟨h1.1, h1.2.1, h1.2.2, h2⟩
theorem nil_box {w : World} {b : Nat} {v : Value} {T : TypeId} (h : w.heap[b]? = some (.cells #[v] T)) : w.cell? ⟨b, 0, none⟩ = some v ∧ w.frozen? ⟨b, 0, none⟩ = false ∧ b < w.heap.size := ⟨Boxed.cell h, Boxed.frozen h, lt_of_heap h⟩

set_option maxRecDepth 100000 in
set_option maxHeartbeats 8000000 in
theorem rplan_any (w : World) (vi vg vo vs : Value) (t : Tsk) (x : Nat) (h : TaskAt w vi vg vo t) (ok : t.Ok) (hg : Good t.n x) (hs : Ints w vs (facts x)) :
  Calls Tryz.prog 78 #[.agg #[.int .i64 t.n, vi, vg, vo], vs] w fun e w' => ∃ vx, e = .returned (.tuple #[vx, .bool (relOk t (facts x)), fltV 0 0]) ∧ (relOk t (facts x) = true → Ints w' vx (relP t (facts x))) ∧ Keeps (fun _ => False) w w' := by
 obtain ⟨ai, ci, h1, _⟩ := h.init.form
 obtain ⟨ag, cg, h2, _⟩ := h.goal.form
 obtain ⟨ao, co, h3, hmo⟩ := h.ops.form
 subst h1 h2 h3
 obtain ⟨aa, cs, h4, _⟩ := hs.form
 subst h4
 have HE := Lib.hid (show stateFault t (facts x) = (0, 0) by unfold stateFault; rw [if_pos (taskFault_zero.2 ok), if_pos hg.1])
 have HSB := Lib.hid (isSet_iff.1 hg.1).1
 have HGB := Lib.hid (isSet_iff.1 ok.goal).1
 have HN0 := Lib.hid ok.n0
 have K1 := (Keeps.refl (fun _ => False) w).alloc (.cells #[.int .i64 t.n, .slice ai t.init.length ci, .slice ag t.goal.length cg, .slice ao t.ops.length co] 25)
 have KA2 := K1.alloc (.cells #[.int .i64 0, .int .i64 0] 31)
 have HT := Lib.hid (h.keeps0 KA2)
 have HB := Lib.hid ((Four.new w (.int .i64 t.n) (.slice ai t.init.length ci) (.slice ag t.goal.length cg) (.slice ao t.ops.length co) 25).keeps0 ((Keeps.refl _ _).alloc (.cells #[.int .i64 0, .int .i64 0] 31)))
 have HF : Flt w ((w.alloc (.cells #[.int .i64 t.n, .slice ai t.init.length ci, .slice ag t.goal.length cg, .slice ao t.ops.length co] 25)).alloc (.cells #[.int .i64 0, .int .i64 0] 31)) (w.heap.size + 1) 31 :=
  ⟨by have := heap_alloc_new (w.alloc (.cells #[.int .i64 t.n, .slice ai t.init.length ci, .slice ag t.goal.length cg, .slice ao t.ops.length co] 25)) (.cells #[.int .i64 0, .int .i64 0] 31); rwa [World.size_alloc] at this, by omega, KA2⟩
 replace HF := Lib.hid HF
 have HS := Lib.hid (show Ints _ (.slice aa (facts x).length cs) (facts x) from hs.keeps0 KA2)
 have OK := Lib.hid ok
 have hfew := ok.few
 have hn24 : t.n ≤ 24 := ok.n1
 have hen := enters_of (P := Tryz.prog) Tryz.func98 (by kernel_rfl) rfl
 have HEN := Lib.hid hen
 clear h hs ok hg K1 KA2 hen
 generalize facts x = s at HE HSB HS ⊢
 go_enter Tryz.func78, Tryz.ntmps78
 go_upto_region 1 with fail
 generalize ((w.alloc (.cells #[.int .i64 t.n, .slice ai t.init.length ci, .slice ag t.goal.length cg, .slice ao t.ops.length co] 25)).alloc (.cells #[.int .i64 0, .int .i64 0] 31)) = w1 at HT HB HF HS ⊢
 obtain ⟨d0, d1, d2, d3⟩ := HB.out
 have hbx := HB.out.lt
 go_wp2_with fail
 refine (stateFault_any _ _ _ _ _ t s HT.out HS.out).mono ?_; rintro e w2 ⟨rfl, hk⟩
 rw [HE.out]
 have KA := hk.trans ((Keeps.refl (fun _ => False) w2).alloc (.cells #[.int .i64 0, .int .i64 0] 31))
 have HT3 := Lib.hid (HT.out.keeps0 KA); have HB3 := Lib.hid (HB.out.keeps0 KA); have HF3 := Lib.hid (HF.out.keeps0 KA); have HS3 := Lib.hid (HS.out.keeps0 KA)
 have F0 := Lib.hid (heap_alloc_new w2 (.cells #[.int .i64 0, .int .i64 0] 31))
 clear d0 d1 d2 d3 hbx hk KA HT HB HF HS
 go_upto_region 2 with fail
 generalize (w2.alloc (.cells #[.int .i64 0, .int .i64 0] 31)) = w3 at HT3 HB3 HF3 HS3 F0 ⊢
 generalize w2.heap.size = b7 at F0 ⊢
 obtain ⟨f0, f1, y0, y1, fl⟩ := pair_cells F0.out
 clear y0 y1
 obtain ⟨d0, d1, d2, d3⟩ := HB3.out
 have hbx := HB3.out.lt
 have HB3x := hbx
 go_upto_region 4 with fail
 clear f0 f1 fl d0 d1 d2 d3 hbx
 have KD := (Keeps.refl (fun _ => False) w3).drew
 have HT4 := Lib.hid (HT3.out.keeps0 KD); have HB4 := Lib.hid (HB3.out.keeps0 KD); have HF4 := Lib.hid (HF3.out.keeps0 KD); have HS4 := Lib.hid (HS3.out.keeps0 KD)
 clear KD HT3 HB3 HF3 HS3 F0
 obtain ⟨d0, d1, d2, d3⟩ := HB4.out
 have hbx := HB4.out.lt
 have hw2 : w.heap.size < w3.heap.size := HB3x
 have hdr : w3.drew.heap.size = w3.heap.size := rfl
 go_cut [8, 9] from 15 (fun v8 v9 wc => ∃ b8 b9 gl gs : Nat, v8 = .pointer (some ⟨b8, 0, none⟩) ∧ v9 = .pointer (some ⟨b9, 0, none⟩) ∧ Boxed wc b8 22 (.slice (some ⟨gl, 0, none⟩) t.n.toNat t.n.toNat) ∧ Boxed wc b9 22 (.slice (some ⟨gs, 0, none⟩) t.n.toNat t.n.toNat) ∧ IArr wc gl (levelsV t s) ∧ IArr wc gs (supV t s) ∧ Keeps (fun _ => False) w3.drew wc)
 case first =>
  go_region_held3 (fun w' => w'.cell? ⟨w.heap.size, 0, none⟩ = some (.int .i64 t.n) ∧ w'.cell? ⟨w.heap.size, 1, none⟩ = some (.slice ai t.init.length ci) ∧ w'.cell? ⟨w.heap.size, 2, none⟩ = some (.slice ag t.goal.length cg) ∧ w'.cell? ⟨w.heap.size, 3, none⟩ = some (.slice ao t.ops.length co))
   (first | (go_keep; done) | ((try dsimp only); (repeat' apply And.intro) <;> (first | (go_keep; done) | (repeat first | assumption | refine keep_set ?_ (by omega) | refine keep_alloc ?_))))
   (first
    | (go_at_call 95; (refine (levels_any _ _ _ _ _ t s (HT4.out.keeps0 (by first | exact Keeps.refl _ _ | exact (Keeps.refl _ _).alloc _ | exact ((Keeps.refl _ _).alloc _).alloc _)) OK.out (HS4.out.keeps0 (by first | exact Keeps.refl _ _ | exact (Keeps.refl _ _).alloc _ | exact ((Keeps.refl _ _).alloc _).alloc _)) HSB.out).mono ?_; rintro en wa ⟨gl, rfl, hia, hga, hka⟩; have HIA := Lib.hid hia; have KWA : Keeps (fun _ => False) w3.drew wa := (by first | exact hka | exact ((Keeps.refl _ _).alloc _).trans hka | exact (((Keeps.refl _ _).alloc _).alloc _).trans hka); have hla := hia.lt; (first | (have XX := two_newD (w := w3) (o := (.cells #[.slice none 0 0] 22)) (o2 := (.cells #[.slice none 0 0] 22)) hka hga; obtain ⟨X1, X2, X3, X4⟩ := XX; have XK : True := trivial; obtain ⟨x1, x2, x3⟩ := nil_box X1; obtain ⟨x4, x5, x6⟩ := nil_box X2) | (have XX := one_newD (w := w3) (o := (.cells #[.slice none 0 0] 22)) hka hga; obtain ⟨X1, X3, X4⟩ := XX; obtain ⟨x1, x2, x3⟩ := nil_box X1) | skip); obtain ⟨a0, a1, a2, a3⟩ := HB4.out.keeps0 KWA; have abx := (HB4.out.keeps0 KWA).lt; clear hia hka))
    | (go_at_call 96; (refine (supporters_any _ _ _ _ _ t s (HT4.out.keeps0 (by first | exact KWA | exact KWA.alloc _ | exact (KWA.alloc _).alloc _)) OK.out (HS4.out.keeps0 (by first | exact KWA | exact KWA.alloc _ | exact (KWA.alloc _).alloc _)) HSB.out).mono ?_; rintro en wb ⟨gs, rfl, hib, hgb, hkb⟩; have HIB := Lib.hid hib; have hlb := hib.lt; have KAB : Keeps (fun _ => False) wa wb := (by first | exact hkb | exact ((Keeps.refl _ _).alloc _).trans hkb | exact (((Keeps.refl _ _).alloc _).alloc _).trans hkb); have KWB : Keeps (fun _ => False) w3.drew wb := KWA.trans KAB; have HIA2 := Lib.hid (HIA.out.keeps KAB (fun h => h)); have hsz := KAB.size; (try simp only [World.size_alloc] at hgb); (try (have Y1 := KAB.heap X1 (fun h => h); obtain ⟨y1, y2, y3⟩ := nil_box Y1)); (try (have Y2 := KAB.heap X2 (fun h => h); obtain ⟨y4, y5, y6⟩ := nil_box Y2)); (first | (have ZZ := two_new (w := wa) (o := (.cells #[.slice none 0 0] 22)) (o2 := (.cells #[.slice none 0 0] 22)) hkb; obtain ⟨Z1, Z2, Z3⟩ := ZZ; obtain ⟨z1, z2, z3⟩ := nil_box Z1; obtain ⟨z4, z5, z6⟩ := nil_box Z2) | (have ZZ := one_new (w := wa) (o := (.cells #[.slice none 0 0] 22)) hkb; obtain ⟨Z1, Z3⟩ := ZZ; obtain ⟨z1, z2, z3⟩ := nil_box Z1) | skip); obtain ⟨e0, e1, e2, e3⟩ := HB4.out.keeps0 KWB; have ebx := (HB4.out.keeps0 KWB).lt; clear hib hkb))
    )
  all_goals go_wp2_with fail
  all_goals go_meet
  all_goals
   clear a0 a1 a2 a3 e0 e1 e2 e3
   refine ⟨_, _, gl, gs, rfl, rfl, ?_, ?_, ?_, ?_, ?_⟩
   ·repeat first | exact Y1 | exact Y2 | exact Z1 | exact Z2 | exact box_new (by first | rfl | simp) | exact Boxed.set (v := .slice none 0 0) _ (by first | exact Y1 | exact Y2 | exact Z1 | exact Z2) | refine Boxed.set (v := .slice none 0 0) _ ?_ | refine box_set ?_ (by omega) | refine box_alloc ?_
   ·repeat first | exact Y1 | exact Y2 | exact Z1 | exact Z2 | exact box_new (by first | rfl | simp) | exact Boxed.set (v := .slice none 0 0) _ (by first | exact Y1 | exact Y2 | exact Z1 | exact Z2) | refine Boxed.set (v := .slice none 0 0) _ ?_ | refine box_set ?_ (by omega) | refine box_alloc ?_
   ·repeat first | exact HIA2.out | refine iarr_set ?_ (by omega) | refine iarr_alloc ?_
   ·repeat first | exact HIB.out | refine iarr_set ?_ (by omega) | refine iarr_alloc ?_
   ·repeat first | exact KWB | refine keeps_set_new ?_ (by omega) | refine Keeps.alloc ?_ _
 case rest =>
  obtain ⟨b8, b9, gl, gs, rfl, rfl, hx8, hx9, hil, his, hkc⟩ := hcut
  have HT5 := Lib.hid (HT4.out.keeps0 hkc); have HB5 := Lib.hid (HB4.out.keeps0 hkc); have HF5 := Lib.hid (HF4.out.keeps0 hkc)
  have HX8 := Lib.hid hx8; have HX9 := Lib.hid hx9; have HIL := Lib.hid hil; have HIS := Lib.hid his
  clear d0 d1 d2 d3 hbx hx8 hx9 hil his hkc HT4 HB4 HF4 HS4 hw2 hdr HB3x
  obtain ⟨d0, d1, d2, d3⟩ := HB5.out
  have hbx := HB5.out.lt
  have HN := Lib.hid (show ((t.n.toNat : Nat) : Int) = t.n by have := HN0.out; omega)
  generalize t.n.toNat = n at HX8 HX9 HN
  go_wp2_with fail
  refine (containsF1_any 98 b8 (fun p => decide (getV (levelsV t s) p < 0)) HEN.out _ _ t.goal HT5.out.goal (fun W p hk hp => below_any W b8 gl n (levelsV t s) p (Boxed.cell (hk.heap HX8.out (fun h => h))) (HIL.out.keeps hk (fun h => h)) (by have := (levelsV_ok t s).1; have := HN.out; omega) (by have := HGB.out p hp; have := HN.out; omega))).mono ?_
  rintro e w5 ⟨rfl, hk5⟩
  have HT6 := Lib.hid (HT5.out.keeps0 hk5); have HB6 := Lib.hid (HB5.out.keeps0 hk5); have HF6 := Lib.hid (HF5.out.keeps0 hk5)
  have HX9' := Lib.hid (show Boxed w5 b9 _ _ from hk5.heap HX9.out (fun h => h)); have HIS' := Lib.hid (HIS.out.keeps hk5 (fun h => h))
  clear d0 d1 d2 d3 hbx hk5 HT5 HB5 HF5 HX8 HX9 HIL HIS
  cases hany : t.goal.any (fun p => decide (getV (levelsV t s) p < 0)) with
  | true =>
   have HR := Lib.hid (show relOk t s = false by unfold relOk; rw [hany]; rfl)
   clear hany
   obtain ⟨c0, c1, z0, z1, hF⟩ := HF6.out.cells
   have HST := Lib.hid (HF6.out.set (.int .i64 0) (.int .i64 0))
   go_wp2_with fail
   refine bodyPost_ret (results_tmp2_cell _ _ (w.heap.size + 1) 31 #[.int .i64 0, .int .i64 0] (0, 0) _ rfl rfl HST.out.1 Tryz.underlying31 rfl (by kernel_rfl)) rfl ?_
   exact ⟨_, by rw [HR.out]; rfl, (fun h => by rw [HR.out] at h; cases h), HST.out.2⟩
  | false =>
   have HR := Lib.hid (show relOk t s = true by unfold relOk; rw [hany]; rfl)
   clear hany
   go_upto_region 8 with fail
   have K6 := (Keeps.refl (fun _ => False) w5).alloc (.cells #[.slice none 0 0] 22)
   have HX10 := Lib.hid (show Boxed (w5.alloc (.cells #[.slice none 0 0] 22)) w5.heap.size 22 (.slice none 0 0) from box_new rfl)
   have HZ6 := Lib.hid (show (w5.alloc (.cells #[.slice none 0 0] 22)).heap.size = w5.heap.size + 1 from World.size_alloc ..)
   have HK6 := Lib.hid K6
   have HB7 := Lib.hid (HB6.out.keeps0 K6)
   obtain ⟨b10, hb10⟩ : ∃ b10, w5.heap.size = b10 := ⟨_, rfl⟩
   rw [hb10] at HX10 HZ6 ⊢
   have HE10 := Lib.hid hb10
   generalize (w5.alloc (.cells #[.slice none 0 0] 22)) = w6 at HX10 HZ6 HK6 HB7 ⊢
   clear K6 hb10
   obtain ⟨d0, d1, d2, d3⟩ := HB7.out
   have hbx := HB7.out.lt
   have hmk := run_make_bools w6 (t.ops.length : Int) t.ops.length rfl (by omega)
   go_upto_region 9 with fail
   have K7 := ((Keeps.refl (fun _ => False) w6).alloc (.cells (Array.replicate t.ops.length (Value.bool false)) 4)).alloc (.cells #[.slice (some ⟨w6.heap.size, 0, none⟩) t.ops.length t.ops.length] 44)
   have HBD := Lib.hid (((BArr.falses w6 t.ops.length).keeps ((Keeps.refl (fun _ => False) _).alloc (.cells #[.slice (some ⟨w6.heap.size, 0, none⟩) t.ops.length t.ops.length] 44)) (fun h => h)))
   have hx11 := heap_alloc_new (w6.alloc (.cells (Array.replicate t.ops.length (Value.bool false)) 4)) (.cells #[.slice (some ⟨w6.heap.size, 0, none⟩) t.ops.length t.ops.length] 44)
   rw [World.size_alloc] at hx11
   have HX11 := Lib.hid hx11
   have HK7 := Lib.hid K7
   rw [HZ6.out] at HBD HX11 HK7 ⊢
   clear d0 d1 d2 d3 hbx hmk K7 hx11
   have HZ7 := Lib.hid (show ((w6.alloc (.cells (Array.replicate t.ops.length (Value.bool false)) 4)).alloc (.cells #[.slice (some ⟨b10 + 1, 0, none⟩) t.ops.length t.ops.length] 44)).heap.size = b10 + 1 + 1 + 1 by rw [World.size_alloc, World.size_alloc, HZ6.out])
   generalize ((w6.alloc (.cells (Array.replicate t.ops.length (Value.bool false)) 4)).alloc (.cells #[.slice (some ⟨b10 + 1, 0, none⟩) t.ops.length t.ops.length] 44)) = w7 at HBD HX11 HK7 HZ7 ⊢
   go_upto_region 10 with fail
   have K8 := (Keeps.refl (fun _ => False) w7).alloc (.cells #[.nilFunc] 172)
   have hx12 : Boxed (w7.alloc (.cells #[.nilFunc] 172)) w7.heap.size 172 .nilFunc := heap_alloc_new w7 _
   rw [HZ7.out] at hx12 ⊢
   generalize (w7.alloc (.cells #[.nilFunc] 172)) = w7a at hx12 K8 ⊢
   have x12 := hx12.cell
   have z12 := hx12.frozen
   have l12 := lt_of_heap hx12
   have HX12 := Lib.hid (hx12.set (.func (.func 99) #[] #[.pointer (some ⟨b9, 0, none⟩), .pointer (some ⟨b10 + 1 + 1, 0, none⟩), .pointer (some ⟨w.heap.size, 0, none⟩), .pointer (some ⟨b10 + 1 + 1 + 1, 0, none⟩), .pointer (some ⟨b10, 0, none⟩)]))
   have HK8 := Lib.hid (K8.trans' (keeps_set w7a (b10 + 1 + 1 + 1) 0 (.func (.func 99) #[] #[.pointer (some ⟨b9, 0, none⟩), .pointer (some ⟨b10 + 1 + 1, 0, none⟩), .pointer (some ⟨w.heap.size, 0, none⟩), .pointer (some ⟨b10 + 1 + 1 + 1, 0, none⟩), .pointer (some ⟨b10, 0, none⟩)])) (fun i hi => .inr (by have h1 := HZ7.out; have h2 : i = b10 + 1 + 1 + 1 := hi; omega)))
   clear hx12 K8
   go_upto_region 11 with fail
   generalize w7a.setCell ⟨b10 + 1 + 1 + 1, 0, none⟩ (.func (.func 99) #[] #[.pointer (some ⟨b9, 0, none⟩), .pointer (some ⟨b10 + 1 + 1, 0, none⟩), .pointer (some ⟨w.heap.size, 0, none⟩), .pointer (some ⟨b10 + 1 + 1 + 1, 0, none⟩), .pointer (some ⟨b10, 0, none⟩)]) = w8 at HX12 HK8 ⊢
   clear x12 z12 l12
   have hwb : w.heap.size < b10 := by have h1 := HB6.out.lt; have h2 := HE10.out; omega
   have h9b : b9 < b10 := by have h1 := lt_of_heap HX9'.out; have h2 := HE10.out; omega
   have hgsb : gs < b10 := by have h1 := HIS'.out.lt; have h2 := HE10.out; omega
   have K58 := HK6.out.trans (HK7.out.trans HK8.out)
   have hl8 := lt_of_heap HX12.out
   have HAW := Lib.hid (show AchW w5 w8 w.heap.size b9 b10 (b10 + 1 + 1) (b10 + 1 + 1 + 1) gs (b10 + 1) n t.ops.length (.slice ai t.init.length ci) (.slice ag t.goal.length cg) (.slice ao t.ops.length co) t (supV t s) from
    ⟨HT6.out, fun W hk => K58.trans' hk (fun i hi => .inr (by have h2 := HE10.out; rcases hi with e | e <;> omega)), HB6.out.keeps0 K58, K58.heap HX9'.out (fun h => h), HK8.out.heap HX11.out (fun h => h), HX12.out, HIS'.out.keeps K58 (fun h => h), by omega, by omega, by omega, by omega, by omega, by omega, by omega, by omega⟩)
   have HAT := Lib.hid (show AchAt w8 (b10 + 1) b10 (List.replicate t.ops.length false, []) w8 from
    ⟨HBD.out.keeps HK8.out (fun h => h), ⟨_, HK8.out.heap (HK7.out.heap HX10.out (fun h => h)) (fun h => h), World.ownsRow_nil _ _ _ _⟩, Keeps.refl _ _⟩)
   have HFL := Lib.hid (HF6.out.keeps0 K58)
   have HSN := Lib.hid (sup_need OK.out s)
   have HSL := Lib.hid (show (supV t s).length = n by have := (supV_ok OK.out s).1; have := HN.out; omega)
   have HAI := Lib.hid (show ∀ j, AchI t.ops.length (List.replicate t.ops.length false, []) (achs (supV t s) t.ops (t.ops.length + 1) (List.replicate t.ops.length false, []) (t.goal.take j)) from fun j =>
    achs_ok HSN.out _ (t.goal.take j) _ (fun p hp => by have := HGB.out p (List.mem_of_mem_take hp); have := HSL.out; have := HN.out; omega) (by simp) (fun i hi => by cases hi))
   have HRP := Lib.hid (show relP t s = (achs (supV t s) t.ops (t.ops.length + 1) (List.replicate t.ops.length false, []) t.goal).2 from rfl)
   clear K58 HX12 HK8 HK7 HK6 HX11 HBD HX10 HB7
   obtain ⟨d0, d1, d2, d3⟩ := HAW.out.x2
   have hbx := HAW.out.x2.lt
   go_wp2_with fail
   clear d0 d1 d2 d3 hbx
   go_loopw [41] (fun v41 wr => ∃ k : Nat, v41 = .int .i64 (k : Int) ∧ k ≤ t.goal.length ∧ AchAt w8 (b10 + 1) b10 (achs (supV t s) t.ops (t.ops.length + 1) (List.replicate t.ops.length false, []) (t.goal.take k)) wr) (fun v41 _ => t.goal.length - (intOf v41).toNat)
   case atStart => exact ⟨0, rfl, Nat.zero_le _, HAT.out⟩
   case round =>
    obtain ⟨k, rfl, hk, hat⟩ := hrel
    have HA := Lib.hid hat; clear hat
    by_cases hkl : k < t.goal.length
    ·have KW := Lib.hid (HAW.out.low wr HA.out.2.2)
     obtain ⟨b1, o1, rfl, hca⟩ := (HT6.out.goal.keeps0 KW.out).cell rfl (by omega)
     obtain ⟨p, hp⟩ : ∃ p, t.goal[k]? = some p := ⟨_, List.getElem?_eq_getElem hkl⟩
     have hc1 := hca k p hp
     have hpb := HGB.out p (List.mem_of_getElem? hp)
     have hA := HAI.out k
     have HTK := Lib.hid (achs_take (sup := supV t s) (ops := t.ops) (t.ops.length + 1) (List.replicate t.ops.length false, []) hp)
     have HCALL := Lib.hid (achieve_any HAW.out OK.out HSN.out HSL.out rfl (t.ops.length + 1) p _ wr hpb.1 (by have := HN.out; omega) hA.len hA.ops (by have h1 := hA.more; simp only [offs_falses, List.length_nil] at h1; omega) (by have h1 := hA.fewer; simp only [offs_falses] at h1; omega) HA.out)
     have x12 := Boxed.cell (HA.out.2.2.heap HAW.out.x12 (fun e => by rcases e with e | e <;> omega))
     have l12 := lt_of_heap (HA.out.2.2.heap HAW.out.x12 (fun e => by rcases e with e | e <;> omega))
     clear hca hp hpb hA
     go_wp2_with fail
     refine HCALL.out.mono ?_; rintro e w9 ⟨rfl, hat2⟩
     have HA2 := Lib.hid hat2
     clear hat2 x12 l12 hc1
     go_wp2_with fail
     go_roundw
     case rel => exact ⟨k + 1, by go_num, by omega, by rw [HTK.out]; exact HA2.out⟩
     case measure => simp [intOf]; omega
    ·rw [List.take_of_length_le (by omega)] at HA
     obtain ⟨_, ⟨vp, hbp, hrow⟩, hkr⟩ := HA.out
     rw [← HRP.out] at hrow
     obtain ⟨ap, cp, hvp⟩ := ownsRow_form1 hrow
     subst hvp
     have hfl := HF6.out.cells.2.2.2.2
     have hbe := HE10.out
     have x10 := Boxed.cell hbp
     have l10 := lt_of_heap hbp
     have HFW := Lib.hid (HFL.out.keepsS hkr (fun e => by rcases e with e | e <;> omega) (fun i hi => by rcases hi with e | e <;> omega))
     have HROW := Lib.hid hrow
     have HSZ := Lib.hid HAW.out.ld
     clear hbp hrow hkr HA
     obtain ⟨c0, c1, z0, z1, hF⟩ := HFW.out.cells
     have HST := Lib.hid (HFW.out.set (.int .i64 0) (.int .i64 0))
     have HFIN := Lib.hid (show Ints ((wr.setCell ⟨w.heap.size + 1, 0, none⟩ (.int .i64 0)).setCell ⟨w.heap.size + 1, 1, none⟩ (.int .i64 0)) (.slice ap (relP t s).length cp) (relP t s) from
      Ints.of_own ((keeps_pair (w := wr) (w.heap.size + 1) (.int .i64 0) (.int .i64 0)).ownsRow HROW.out (fun k hk e => by have h1 := (World.ownsRow.lt HROW.out k hk).1; have h2 := HSZ.out; have h3 : k = w.heap.size + 1 := e; omega)))
     go_wp2_with fail
     refine bodyPost_ret (results_tmp2_cell _ _ (w.heap.size + 1) 31 #[.int .i64 0, .int .i64 0] (0, 0) _ rfl rfl HST.out.1 Tryz.underlying31 rfl (by kernel_rfl)) rfl ?_
     exact ⟨_, by rw [HR.out]; rfl, (fun _ => HFIN.out), HST.out.2⟩

end Go.Proofs.YtdokakhgflljgaaGreat

namespace Go.Proofs.YtdokakhgflljgaaGreat
open Go.RowKit Go.Shelf

/-- What the steps of a plan cost. -/
def pcost (t : Tsk) (l : List Int) : Int := l.foldl (fun a i => a + ((t.ops[i.toNat]?).map Opr.cost).getD 0) 0
theorem pcost_snoc (t : Tsk) (l : List Int) (i : Int) : pcost t (l ++ [i]) = pcost t l + ((t.ops[i.toNat]?).map Opr.cost).getD 0 := by unfold pcost; rw [List.foldl_append]; rfl
theorem pcost_take {t : Tsk} {l : List Int} {j i : Nat} {o : Opr} (h : l[j]? = some (i : Int)) (ho : t.ops[i]? = some o) : pcost t (l.take (j + 1)) = pcost t (l.take j) + o.cost := by
 rw [take_getS h, pcost_snoc, Int.toNat_natCast, ho]; rfl
theorem pcost_ok {t : Tsk} (ok : t.Ok) : ∀ (l : List Int) (a : Int), 0 ≤ a → a ≤ (l.foldl (fun a i => a + ((t.ops[i.toNat]?).map Opr.cost).getD 0) a) ∧ (l.foldl (fun a i => a + ((t.ops[i.toNat]?).map Opr.cost).getD 0) a) ≤ a + 100 * (l.length : Int)
 | [], a, h => by simp
 | i :: r, a, h => by
  have hc : 0 ≤ ((t.ops[i.toNat]?).map Opr.cost).getD 0 ∧ ((t.ops[i.toNat]?).map Opr.cost).getD 0 ≤ 100 := by
   cases ho : t.ops[i.toNat]? with
   | none => simp
   | some o => have := ok.ops o (List.mem_of_getElem? ho); exact ⟨this.cost0, this.cost1⟩
  have ih := pcost_ok ok r (a + ((t.ops[i.toNat]?).map Opr.cost).getD 0) (by omega)
  rw [List.foldl_cons, List.length_cons]
  exact ⟨by omega, by omega⟩
/-- What a plan without deletions costs. -/
def planH (t : Tsk) (x : Nat) : Int := if relOk t (facts x) = true then pcost t (relP t (facts x)) else 1000000000

set_option maxRecDepth 100000 in
set_option maxHeartbeats 4000000 in
theorem value3_any (t : Tsk) (ok : t.Ok) (L : List Nat) (hL : ∀ x ∈ L, Good t.n x) : ValC t 3 L (planH t) := by
 intro w vi vg vo vs x h hx hs
 obtain ⟨ai, ci, h1, _⟩ := h.init.form
 obtain ⟨ag, cg, h2, _⟩ := h.goal.form
 obtain ⟨ao, co, h3, hmo⟩ := h.ops.form
 subst h1 h2 h3
 have K1 := (Keeps.refl (fun _ => False) w).alloc (.cells #[.int .i64 t.n, .slice ai t.init.length ci, .slice ag t.goal.length cg, .slice ao t.ops.length co] 25)
 have HB := Lib.hid (Four.new w (.int .i64 t.n) (.slice ai t.init.length ci) (.slice ag t.goal.length cg) (.slice ao t.ops.length co) 25)
 have HT := Lib.hid (h.keeps0 K1); have HS := Lib.hid (hs.keeps0 K1); have HK1 := Lib.hid K1
 have OK := Lib.hid ok; have HX := Lib.hid (hL x hx)
 have HRO := Lib.hid (relP_ok ok (facts x))
 clear h hs K1 ok hL hx
 go_enter Tryz.func59, Tryz.ntmps59
 go_upto_region 9 with fail
 generalize (w.alloc (.cells #[.int .i64 t.n, .slice ai t.init.length ci, .slice ag t.goal.length cg, .slice ao t.ops.length co] 25)) = w1 at HT HB HK1 HS ⊢
 obtain ⟨d0, d1, d2, d3⟩ := HB.out
 have hbx := HB.out.lt
 go_wp2_with fail
 refine (rplan_any _ _ _ _ _ t x HT.out OK.out HX.out HS.out).mono ?_
 rintro e w2 ⟨vx, rfl, hpl, hk⟩
 have K2 := hk.trans ((Keeps.refl (fun _ => False) w2).alloc (.cells #[.int .i64 0, .int .i64 0] 31))
 have HK2 := Lib.hid (HK1.out.trans K2); have HT2 := Lib.hid (HT.out.keeps0 K2); have HB2 := Lib.hid (HB.out.keeps0 K2)
 have HPL := Lib.hid (show relOk t (facts x) = true → Ints (w2.alloc (.cells #[.int .i64 0, .int .i64 0] 31)) vx (relP t (facts x)) from fun h => (hpl h).keeps0 ((Keeps.refl (fun _ => False) w2).alloc _))
 unfold fltV
 clear hk d0 d1 d2 d3 hbx hpl K2
 cases hr : relOk t (facts x) with
 | false =>
  have HR := Lib.hid (show planH t x = 1000000000 by unfold planH; rw [hr]; rfl)
  clear hr
  go_wp2_with fail
  go_ret
  exact ⟨by rw [HR.out]; rfl, HK2.out⟩
 | true =>
  have HR := Lib.hid (show planH t x = pcost t (relP t (facts x)) by unfold planH; rw [hr]; rfl)
  have HPI := Lib.hid (HPL.out hr)
  obtain ⟨ap, cp, hvx, _⟩ := HPI.out.form
  subst hvx
  clear hr HPL
  have hl40 := HRO.out.1
  go_upto_region 10 with fail
  generalize (w2.alloc (.cells #[.int .i64 0, .int .i64 0] 31)) = w3 at HK2 HT2 HB2 HPI ⊢
  generalize relP t (facts x) = l at HPI HR HRO hl40 ⊢
  go_wp2_with fail
  go_loop [16, 58] (fun v16 v58 => ∃ j : Nat, j ≤ l.length ∧ v58 = .int .i64 (j : Int) ∧ v16 = .int .i64 (pcost t (l.take j))) (fun _ v58 => l.length - (intOf v58).toNat)
  case atStart => exact ⟨0, Nat.zero_le _, rfl, rfl⟩
  case round =>
   obtain ⟨j, hj, rfl, rfl⟩ := hrel
   by_cases hjl : j < l.length
   ·obtain ⟨b1, o1, rfl, hca⟩ := HPI.out.cell rfl (by omega)
    obtain ⟨p, hp⟩ : ∃ p, l[j]? = some p := ⟨_, List.getElem?_eq_getElem hjl⟩
    have hpb := HRO.out.2 p (List.mem_of_getElem? hp)
    obtain ⟨i, rfl⟩ := Int.eq_ofNat_of_zero_le hpb.1
    have hc2 := hca j _ hp
    have hil : (i : Int) < ((t.ops.length : Nat) : Int) := hpb.2
    obtain ⟨o, ho⟩ : ∃ o, t.ops[i]? = some o := ⟨_, List.getElem?_eq_getElem (by omega)⟩
    obtain ⟨bo, oo, rfl, hcell⟩ := HT2.out.ops.cell rfl (by omega)
    obtain ⟨va, vb, vd, p0, p1, p2, p3, i1, i2, i3⟩ := hcell i o ho
    have HTK := Lib.hid (pcost_take hp ho)
    have hb := pcost_ok OK.out (l.take j) 0 (Int.le_refl _)
    have hln : (l.take j).length ≤ 40 := by rw [List.length_take]; omega
    have hco := OK.out.ops o (List.mem_of_getElem? ho)
    have hc0 := hco.cost0; have hc1 := hco.cost1
    rw [show (l.take j).foldl (fun a i => a + ((t.ops[i.toNat]?).map Opr.cost).getD 0) 0 = pcost t (l.take j) from rfl] at hb
    generalize pcost t (l.take j) = a at hb HTK ⊢
    obtain ⟨d0, d1, d2, d3⟩ := HB2.out
    have hbx := HB2.out.lt
    clear hca hp hpb ho hcell i1 i2 i3 hco
    go_wp2_with fail
    go_round
    case rel => exact ⟨j + 1, by omega, by go_num, by rw [HTK.out]⟩
    case measure => simp [intOf]; omega
   ·rw [List.take_of_length_le (by omega)]
    go_wp2_with fail
    go_ret
    exact ⟨by rw [HR.out]; rfl, HK2.out⟩

/-- What Value says of a state, at every kind. -/
def kindV (t : Tsk) (k : Int) : Nat → Int := if k = 3 then planH t else kindH t k
theorem kindV_adm {t : Tsk} {k : Int} (h : admK k = true) : kindV t k = kindH t k := by
 unfold kindV
 rw [if_neg]
 rintro rfl
 revert h; decide
theorem says_all {k : Int} (h : 0 ≤ k ∧ k ≤ 5) (t : Tsk) : t.Ok → ∀ l, explored t = some l → ValC t k l (kindV t k) := fun ok l hx => by
 have hg := good_explored ok hx
 have hk : k = 0 ∨ k = 1 ∨ k = 2 ∨ k = 3 ∨ k = 4 ∨ k = 5 := by omega
 rcases hk with rfl | rfl | rfl | rfl | rfl | rfl
 ·exact (says_kind rfl t l ok hx).1
 ·exact (says_kind rfl t l ok hx).1
 ·exact value2_any t ok l hg
 ·exact value3_any t ok l hg
 ·exact (says_kind rfl t l ok hx).1
 ·exact (says_kind rfl t l ok hx).1

end Go.Proofs.YtdokakhgflljgaaGreat

namespace Go.Proofs.YtdokakhgflljgaaGreat

/-! ### Max -/
section
variable {V : List Int} {c : Int}
end
/-! ### Pairs -/
/-! ### Add -/
theorem sumL_fin {v : List Int} (hv : ∀ y ∈ v, 0 ≤ y ∧ y ≤ 1000000000) : ∀ (ps : List Int) (m : Int), 0 ≤ m ∧ m ≤ 999999999 → (∀ p ∈ ps, getV v p < 1000000000) → ps.foldl (fun m p => plusI m (getV v p)) m ≤ 999999999
 | [], _, h, _ => h.2
 | p :: r, m, h, hp => by
  rw [List.foldl_cons]
  have h1 := getV_low hv p
  have h2 := hp p (by simp)
  refine sumL_fin hv r _ ?_ (fun q hq => hp q (by simp [hq]))
  unfold plusI
  rw [if_neg (by omega)]
  omega
theorem add_fin {t : Tsk} (ok : t.Ok) {x y : Nat} {p : List Nat} (hr : runOps (wordsOf t.ops) x p = some y) (ha : goalB (wd t.goal) y = true) : sumL (valuesV sumL t (costsV t) (facts x)) t.goal < 1000000000 := by
 have h0 : ∀ c ∈ costsV t, 0 ≤ c := fun c hc => (costsV_low ok c hc).1
 have V := values_ok (t := t) comb_sum h0 (facts x)
 generalize valuesV sumL t (costsV t) (facts x) = v at V
 have key := run_inv (t := t) (Inv := fun z _ => ∀ q ∈ facts z, getV v q < 1000000000) (by
  intro o z c ho hc hi q hq
  have oko := ok.ops o ho
  rcases next_facts oko hq with ⟨h1, _⟩ | h1
  ·exact hi q h1
  ·have h2 := V.step _ (zip_costs ho) q h1
   simp only at h2
   have hpre := can_facts ok.n1 oko hc
   have h3 : sumL v o.pre ≤ 999999999 := sumL_fin V.low o.pre 0 (by decide) (fun p hp => hi p (hpre p hp))
   have h5 := (comb_sum v o.pre V.low).1
   have c0 := oko.cost0; have c1 := oko.cost1
   unfold plusI at h2
   rw [if_neg (by omega)] at h2
   omega) p x y 0 hr (fun q hq => by rw [V.here q hq]; decide)
 have hg := goal_facts ok.n1 ok.goal ha
 have := sumL_fin V.low t.goal 0 (by decide) (fun q hq => key q (hg q hq))
 unfold sumL
 omega

/-! ### the distances -/
end Go.Proofs.YtdokakhgflljgaaGreat

namespace Go.Proofs.YtdokakhgflljgaaGreat

def negs : List Int → Nat
 | [] => 0
 | y :: r => (if y < 0 then 1 else 0) + negs r
theorem negs_len : ∀ v : List Int, negs v ≤ v.length
 | [] => Nat.le_refl _
 | y :: r => by have := negs_len r; rw [negs, List.length_cons]; split <;> omega
theorem negs_le : ∀ (v v' : List Int), v'.length = v.length → (∀ i : Nat, v'.getD i 0 < 0 → v.getD i 0 < 0) → negs v' ≤ negs v
 | [], v', hl, _ => by
  have : v' = [] := List.length_eq_zero_iff.1 (by simpa using hl)
  rw [this]; exact Nat.le_refl _
 | y :: r, [], hl, _ => by simp at hl
 | y :: r, y' :: r', hl, h => by
  have h1 := negs_le r r' (by simpa using hl) (fun i hi => by simpa using h (i + 1) (by simpa using hi))
  have h2 := h 0
  simp only [List.getD_cons_zero] at h2
  rw [negs, negs]
  split
  ·rename_i hy; rw [if_pos (h2 hy)]; omega
  ·split <;> omega
theorem negs_lt : ∀ (v v' : List Int) (i : Nat), v'.length = v.length → (∀ i : Nat, v'.getD i 0 < 0 → v.getD i 0 < 0) → i < v.length → v.getD i 0 < 0 → 0 ≤ v'.getD i 0 → negs v' < negs v
 | [], v', i, _, _, hi, _, _ => by simp at hi
 | y :: r, [], i, hl, _, _, _, _ => by simp at hl
 | y :: r, y' :: r', 0, hl, h, hi, h1, h2 => by
  have h3 := negs_le r r' (by simpa using hl) (fun i hi => by simpa using h (i + 1) (by simpa using hi))
  simp only [List.getD_cons_zero] at h1 h2
  rw [negs, negs, if_pos h1, if_neg (by omega)]; omega
 | y :: r, y' :: r', i + 1, hl, h, hi, h1, h2 => by
  have h3 := negs_lt r r' i (by simpa using hl) (fun i hi => by simpa using h (i + 1) (by simpa using hi)) (by simpa using hi) (by simpa using h1) (by simpa using h2)
  have h4 := h 0
  simp only [List.getD_cons_zero] at h4
  rw [negs, negs]
  split
  ·rename_i hy; rw [if_pos (h4 hy)]; omega
  ·split <;> omega

/-- A level stays. -/
def Stay (v v' : List Int) : Prop := v'.length = v.length ∧ ∀ p : Int, 0 ≤ p → p.toNat < v.length → 0 ≤ getV v p → getV v' p = getV v p
theorem Stay.rfl' (v : List Int) : Stay v v := ⟨rfl, fun _ _ _ _ => rfl⟩
theorem Stay.tr {a b c : List Int} (h : Stay a b) (k : Stay b c) : Stay a c := ⟨k.1.trans h.1, fun p h0 hp hv => by
 have e := h.2 p h0 hp hv
 rw [k.2 p h0 (by rw [h.1]; exact hp) (by rw [e]; exact hv), e]⟩
theorem getV_set_same {v : List Int} {p x : Int} (hp : p.toNat < v.length) : getV (v.set p.toNat x) p = x := by
 unfold getV; rw [List.getD_eq_getElem?_getD, List.getElem?_set_self hp]; rfl
theorem levAdd_stay {k : Int} (hk : 0 ≤ k) : ∀ (ps v : List Int), (∀ p ∈ ps, 0 ≤ p ∧ p.toNat < v.length) → Stay v (levAdd k v ps) ∧ ∀ p ∈ ps, 0 ≤ getV (levAdd k v ps) p
 | [], v, _ => ⟨Stay.rfl' v, fun _ h => (List.not_mem_nil h).elim⟩
 | p :: r, v, h => by
  have hp := h p (by simp)
  have st : Stay v (if getV v p < 0 then v.set p.toNat k else v) := by
   split
   ·rename_i hlt
    refine ⟨List.length_set, fun q h0 hq hv => getV_set_ne (fun e => ?_)⟩
    have : q = p := by omega
    rw [this] at hv; omega
   ·exact Stay.rfl' v
  obtain ⟨g1, g2⟩ := levAdd_stay hk r (if getV v p < 0 then v.set p.toNat k else v) (fun q hq => by rw [st.1]; exact h q (by simp [hq]))
  have e : levAdd k v (p :: r) = levAdd k (if getV v p < 0 then v.set p.toNat k else v) r := rfl
  rw [e]
  refine ⟨st.tr g1, fun q hq => ?_⟩
  rcases List.mem_cons.1 hq with rfl | hq
  ·have h1 : 0 ≤ getV (if getV v q < 0 then v.set q.toNat k else v) q := by
    split
    ·rw [getV_set_same hp.2]; exact hk
    ·omega
   rw [g1.2 q hp.1 (by rw [st.1]; exact hp.2) h1]; exact h1
  ·exact g2 q hq
theorem levOp_stay {k : Int} (hk : 0 ≤ k) {o : Opr} {v : List Int} (h : ∀ p ∈ o.add, 0 ≤ p ∧ p.toNat < v.length) : Stay v (levOp k o v) := by
 unfold levOp
 split
 ·exact Stay.rfl' v
 ·exact (levAdd_stay hk o.add v h).1
theorem levR_stay {k : Int} (hk : 0 ≤ k) : ∀ (ops : List Opr) (v : List Int), (∀ o ∈ ops, ∀ p ∈ o.add, 0 ≤ p ∧ p.toNat < v.length) → Stay v (levR k ops v)
 | [], v, _ => Stay.rfl' v
 | o :: r, v, h => by
  have s1 := levOp_stay hk (o := o) (h o (by simp))
  have s2 := levR_stay hk r (levOp k o v) (fun q hq p hp => by rw [s1.1]; exact h q (by simp [hq]) p hp)
  exact s1.tr s2
/-- After a round, the operators that were open have added their facts. -/
theorem levR_open {k : Int} (hk : 0 < k) : ∀ (ops : List Opr) (v : List Int), (∀ o ∈ ops, ∀ p ∈ o.add, 0 ≤ p ∧ p.toNat < v.length) → (∀ o ∈ ops, ∀ p ∈ o.pre, 0 ≤ p ∧ p.toNat < v.length) →
  ∀ o ∈ ops, (∀ p ∈ o.pre, 0 ≤ getV v p ∧ getV v p < k) → ∀ p ∈ o.add, 0 ≤ getV (levR k ops v) p
 | [], v, _, _ => fun _ h => (List.not_mem_nil h).elim
 | a :: r, v, h, hp => fun o ho hop p hpa => by
  have s1 := levOp_stay (by omega : 0 ≤ k) (o := a) (h a (by simp))
  have s2 := levR_stay (by omega : 0 ≤ k) r (levOp k a v) (fun q hq p hp => by rw [s1.1]; exact h q (by simp [hq]) p hp)
  have e : levR k (a :: r) v = levR k r (levOp k a v) := rfl
  rw [e]
  rcases List.mem_cons.1 ho with rfl | ho'
  ·have hb : levBad k v o.pre = false := by
    unfold levBad
    rw [List.any_eq_false]
    intro q hq
    have := hop q hq
    simp; omega
   have e2 : levOp k o v = levAdd k v o.add := by unfold levOp; rw [hb]; rfl
   have h1 := (levAdd_stay (by omega : 0 ≤ k) o.add v (h o (by simp))).2 p hpa
   rw [← e2] at h1
   have hpb := h o (by simp) p hpa
   rw [s2.2 p hpb.1 (by rw [s1.1]; exact hpb.2) h1]; exact h1
  ·refine levR_open hk r (levOp k a v) (fun q hq p hp => by rw [s1.1]; exact h q (by simp [hq]) p hp) (fun q hq p hpp => by rw [s1.1]; exact hp q (by simp [hq]) p hpp) o ho' (fun q hq => ?_) p hpa
   have := hop q hq
   have hqb := hp o (by simp [ho']) q hq
   rw [s1.2 q hqb.1 hqb.2 this.1]; exact this

/-- The operators whose conditions have levels add nothing new. -/
def LevShut (ops : List Opr) (v : List Int) : Prop := ∀ o ∈ ops, (∀ p ∈ o.pre, 0 ≤ getV v p) → ∀ p ∈ o.add, 0 ≤ getV v p
theorem levAdd_none {k : Int} : ∀ (ps v : List Int), (∀ p ∈ ps, 0 ≤ getV v p) → levAdd k v ps = v
 | [], _, _ => rfl
 | p :: r, v, h => by
  have h1 := h p (by simp)
  have e : levAdd k v (p :: r) = levAdd k (if getV v p < 0 then v.set p.toNat k else v) r := rfl
  rw [e, if_neg (by omega)]
  exact levAdd_none r v (fun q hq => h q (by simp [hq]))
theorem levR_none {k : Int} {ops : List Opr} {v : List Int} (h : LevShut ops v) : ∀ xs : List Opr, (∀ o ∈ xs, o ∈ ops) → levR k xs v = v
 | [], _ => rfl
 | o :: r, hx => by
  have e : levR k (o :: r) v = levR k r (levOp k o v) := rfl
  have e2 : levOp k o v = v := by
   unfold levOp
   split
   ·rfl
   ·rename_i hb
    refine levAdd_none o.add v (h o (hx o (by simp)) (fun p hp => ?_))
    have hb' : levBad k v o.pre = false := by simpa using hb
    unfold levBad at hb'
    have := List.any_eq_false.1 hb' p hp
    simp at this; omega
  rw [e, e2]
  exact levR_none h r (fun o ho => hx o (by simp [ho]))
theorem levTo_shut {n : Nat} {ops : List Opr} {v0 : List Int} (h0 : LevI n 0 v0) (ha : ∀ o ∈ ops, ∀ p ∈ o.add, 0 ≤ p ∧ p.toNat < n) (hp : ∀ o ∈ ops, ∀ p ∈ o.pre, 0 ≤ p ∧ p.toNat < n) : ∀ k, LevShut ops (levTo ops v0 k) ∨ negs (levTo ops v0 k) + k ≤ n
 | 0 => .inr (by have := negs_len v0; have := h0.1; show negs v0 + 0 ≤ n; omega)
 | k + 1 => by
  have e : levTo ops v0 (k + 1) = levR ((k + 1 : Nat) : Int) ops (levTo ops v0 k) := rfl
  have hl : LevI n k (levTo ops v0 k) := levTo_ok ops (h0.mono (by omega)) k (Nat.le_refl _)
  have ha' : ∀ o ∈ ops, ∀ p ∈ o.add, 0 ≤ p ∧ p.toNat < (levTo ops v0 k).length := fun o ho p hpp => by rw [hl.1]; exact ha o ho p hpp
  have hp' : ∀ o ∈ ops, ∀ p ∈ o.pre, 0 ≤ p ∧ p.toNat < (levTo ops v0 k).length := fun o ho p hpp => by rw [hl.1]; exact hp o ho p hpp
  by_cases hs : LevShut ops (levTo ops v0 k)
  ·left
   rw [e, levR_none hs ops (fun _ h => h)]; exact hs
  ·right
   have ih := (levTo_shut h0 ha hp k).resolve_left hs
   have hno : ∃ o ∈ ops, (∀ p ∈ o.pre, 0 ≤ getV (levTo ops v0 k) p) ∧ ∃ p ∈ o.add, getV (levTo ops v0 k) p < 0 := by
    refine Classical.byContradiction fun hc => hs (fun o ho hop p hpp => ?_)
    by_cases hlt : 0 ≤ getV (levTo ops v0 k) p
    ·exact hlt
    ·exact absurd ⟨o, ho, hop, p, hpp, by omega⟩ hc
   obtain ⟨o, ho, hop, p, hpp, hneg⟩ := hno
   have st := levR_stay (k := ((k + 1 : Nat) : Int)) (by omega) ops (levTo ops v0 k) ha'
   have h1 := levR_open (k := ((k + 1 : Nat) : Int)) (by omega) ops (levTo ops v0 k) ha' hp' o ho (fun q hq => ⟨hop q hq, by have := (hl.get (p := q) (hp o ho q hq).2).2; omega⟩) p hpp
   have hpb := ha o ho p hpp
   have hlt := negs_lt (levTo ops v0 k) (levR ((k + 1 : Nat) : Int) ops (levTo ops v0 k)) p.toNat st.1 (fun i hi => by
     by_cases hil : i < (levTo ops v0 k).length
     ·have h3 := st.2 (i : Int) (by omega) (by rw [Int.toNat_natCast]; exact hil)
      unfold getV at h3
      rw [Int.toNat_natCast] at h3
      by_cases hc : (levTo ops v0 k).getD i 0 < 0
      ·exact hc
      ·have := h3 (by omega); omega
     ·rw [List.getD_eq_getElem?_getD, List.getElem?_eq_none (by rw [st.1]; omega)] at hi
      simp at hi) (by rw [hl.1]; exact hpb.2) hneg h1
   rw [e]; omega
theorem negs_zero : ∀ (v : List Int), negs v = 0 → ∀ p : Int, 0 ≤ getV v p
 | [], _, p => by unfold getV; simp
 | y :: r, h, p => by
  rw [negs] at h
  have h1 : ¬ y < 0 := fun e => by rw [if_pos e] at h; omega
  have h2 := negs_zero r (by omega)
  unfold getV at h2 ⊢
  cases hp : p.toNat with
  | zero => simp; omega
  | succ i => have := h2 (i : Int); simpa using this
theorem levels_shut {t : Tsk} (ok : t.Ok) (s : List Int) : LevShut t.ops (levelsV t s) := by
 have n0 := ok.n0
 have hz := levTo_shut (n := t.n.toNat) (ops := t.ops) (v0 := lev0 t.n s) (lev0_ok t.n s 0) (fun o ho p hp => by have := (isSet_iff.1 (ok.ops o ho).add).1 p hp; omega) (fun o ho p hp => by have := (isSet_iff.1 (ok.ops o ho).pre).1 p hp; omega) t.n.toNat
 rcases hz with h | h
 ·exact h
 ·intro o _ _ p _
  have h' : negs (levelsV t s) = 0 := by unfold levelsV; omega
  exact negs_zero _ h' p
theorem levTo_stay {n : Nat} {ops : List Opr} {v0 : List Int} (hl : v0.length = n) (ha : ∀ o ∈ ops, ∀ p ∈ o.add, 0 ≤ p ∧ p.toNat < n) : ∀ k, Stay v0 (levTo ops v0 k)
 | 0 => Stay.rfl' v0
 | k + 1 => by
  have ih := levTo_stay hl ha k
  exact ih.tr (levR_stay (by omega) ops _ (fun o ho p hp => by rw [ih.1, hl]; exact ha o ho p hp))
theorem zeroV_zero : ∀ (ps v : List Int) (q : Int), q.toNat < v.length → 0 ≤ q → (q ∈ ps ∨ 0 ≤ getV v q) → 0 ≤ getV (zeroV v ps) q
 | [], v, q, _, _, h => h.resolve_left (List.not_mem_nil)
 | p :: r, v, q, hq, h0, h => by
  refine zeroV_zero r (v.set p.toNat 0) q (by rw [List.length_set]; exact hq) h0 ?_
  by_cases he : q.toNat = p.toNat
  ·right
   rw [← he]
   exact Int.le_of_eq (getV_set_same hq).symm
  ·rw [getV_set_ne he]
   rcases h with h | h
   ·rcases List.mem_cons.1 h with rfl | h
    ·exact absurd rfl he
    ·exact .inl h
   ·exact .inr h
/-- Where a fact of the goal has no level, there is no plan. -/
theorem rel_none {t : Tsk} (ok : t.Ok) {x y : Nat} {p : List Nat} (hx : ∀ q ∈ facts x, 0 ≤ q ∧ q < t.n) (hr : runOps (wordsOf t.ops) x p = some y) (ha : goalB (wd t.goal) y = true) : relOk t (facts x) = true := by
 have n0 := ok.n0
 have sh := levels_shut ok (facts x)
 have l0 := lev0_ok t.n (facts x) 0
 have st := levTo_stay (n := t.n.toNat) (ops := t.ops) l0.1 (fun o ho p hp => by have := (isSet_iff.1 (ok.ops o ho).add).1 p hp; omega) t.n.toNat
 have key := run_inv (t := t) (Inv := fun z _ => ∀ q ∈ facts z, 0 ≤ getV (levelsV t (facts x)) q) (by
  intro o z c ho hcan hi q hq
  have oko := ok.ops o ho
  rcases next_facts oko hq with ⟨h1, _⟩ | h1
  ·exact hi q h1
  ·exact sh o ho (fun p hp => hi p (can_facts ok.n1 oko hcan p hp)) q h1) p x y 0 hr (fun q hq => by
   have hb := hx q hq
   have h1 : 0 ≤ getV (lev0 t.n (facts x)) q := zeroV_zero _ _ q (by rw [List.length_replicate]; omega) hb.1 (.inl hq)
   have e : getV (levelsV t (facts x)) q = getV (lev0 t.n (facts x)) q := st.2 q hb.1 (by rw [l0.1]; omega) h1
   rw [e]; exact h1)
 have hg := goal_facts ok.n1 ok.goal ha
 unfold relOk
 have : (t.goal.any fun p => decide (getV (levelsV t (facts x)) p < 0)) = false := by
  rw [List.any_eq_false]
  intro q hq
  have := key q (hg q hq)
  simp; omega
 rw [this]; rfl

end Go.Proofs.YtdokakhgflljgaaGreat

namespace Go.Proofs.YtdokakhgflljgaaGreat
open Go.RowKit Go.Shelf

/-- What is said of the values: they are finite where there is a plan. -/
theorem kindV_says {t : Tsk} (ok : t.Ok) {l : List Nat} (hx : explored t = some l) (k : Int) {x : Nat} (hxl : x ∈ l) : (0 ≤ kindV t k x ∧ kindV t k x ≤ 1000000000) ∧
  ∀ p y, runOps (wordsOf t.ops) x p = some y → goalB (wd t.goal) y = true → kindV t k x < 1000000000 ∧ (admK k = true → kindV t k x ≤ costN (wordsOf t.ops) p) := by
 have hg := good_explored ok hx x hxl
 cases hk : admK k with
 | true =>
  have ha := (says_kind hk t l ok hx).2
  rw [kindV_adm hk]
  exact ⟨ha.lo x hxl, fun p y h1 h2 => ⟨(ha.low x hxl p y h1 h2).2, fun _ => (ha.low x hxl p y h1 h2).1⟩⟩
 | false =>
  by_cases h3 : k = 3
  ·have e : kindV t k x = planH t x := by unfold kindV; rw [if_pos h3]
   rw [e]
   have hb : 0 ≤ pcost t (relP t (facts x)) ∧ pcost t (relP t (facts x)) ≤ 100 * ((relP t (facts x)).length : Int) := by
    have := pcost_ok ok (relP t (facts x)) 0 (Int.le_refl _)
    rw [show (relP t (facts x)).foldl (fun a i => a + ((t.ops[i.toNat]?).map Opr.cost).getD 0) 0 = pcost t (relP t (facts x)) from rfl] at this
    omega
   have hl := (relP_ok ok (facts x)).1
   refine ⟨by unfold planH; split <;> omega, fun p y h1 h2 => ⟨?_, fun h => by cases h⟩⟩
   have := rel_none ok (x := x) (isSet_iff.1 hg.1).1 h1 h2
   unfold planH
   rw [if_pos this]; omega
  ·by_cases h2 : k = 2
   ·have e : kindV t k x = addH t x := by unfold kindV kindH; rw [if_neg h3, if_neg (by omega), if_pos h2]
    rw [e]
    have h0 : ∀ c ∈ costsV t, 0 ≤ c := fun c hc => (costsV_low ok c hc).1
    exact ⟨comb_sum _ _ (values_ok comb_sum h0 (facts x)).low, fun p y h1 h2 => ⟨add_fin ok h1 h2, fun h => by cases h⟩⟩
   ·have e : kindV t k x = 0 := by
     unfold kindV kindH
     unfold admK at hk
     have := of_decide_eq_false hk
     rw [if_neg h3, if_neg (by omega), if_neg h2, if_neg (by omega), if_neg (by omega)]
    rw [e]
    exact ⟨by decide, fun p y _ _ => ⟨by decide, fun h => by cases h⟩⟩

end Go.Proofs.YtdokakhgflljgaaGreat

namespace Go.Proofs.YtdokakhgflljgaaGreat
open Go.RowKit Go.Shelf

/-- What Plan hands back. -/
def GPlanIs (t : Tsk) (k : Int) (fnd : Bool) (lp : List Int) (c n fc fi : Int) : Prop :=
 (fc ≠ 0 ∧ (fc, fi) = kindF t (decide (0 ≤ k ∧ k ≤ 5)) ∧ fnd = false ∧ lp = [] ∧ c = 0 ∧ n = 0) ∨
 ((0 ≤ k ∧ k ≤ 5) ∧ kindF t (decide (0 ≤ k ∧ k ≤ 5)) = (0, 0) ∧ t.Ok ∧ ∃ l, explored t = some l ∧
  ((Best (wordsOf t.ops) (wd t.init) (goalB (wd t.goal)) none ∧ fnd = false ∧ lp = [] ∧ c = 0 ∧ 0 ≤ n ∧ n ≤ (l.length : Int) ∧ fc = 0 ∧ fi = 0) ∨
    (∃ q y, runOps (wordsOf t.ops) (wd t.init) q = some y ∧ goalB (wd t.goal) y = true ∧ q.length ≤ 60 ∧ fnd = true ∧ lp = intsP q ∧ c = costL t lp ∧ 0 ≤ n ∧ n ≤ (l.length : Int) ∧ fc = 0 ∧ fi = 0) ∨
    (∃ p, Best (wordsOf t.ops) (wd t.init) (goalB (wd t.goal)) (some p) ∧ 60 < p.length ∧ fnd = false ∧ lp = [] ∧ c = 0 ∧ n = 0 ∧ fc = 10 ∧ fi = -9)))
def GPlanPost (t : Tsk) (k : Int) (w : World) (e : Ending) (w' : World) : Prop := Keeps (fun _ => False) w w' ∧ ∃ fnd vp lp c n fc fi, e = .returned (.tuple #[resV fnd vp c n, fltV fc fi]) ∧ Ints w' vp lp ∧ GPlanIs t k fnd lp c n fc fi

theorem safe_kind {t : Tsk} (ok : t.Ok) {l ws : List Nat} (hx : explored t = some l) (hp : ws.Perm l) (k : Int) : Safe (wordsOf t.ops) ws (goalB (wd t.goal)) (kindV t k) :=
 ⟨fun _ hxl => (kindV_says ok hx k (hp.mem_iff.1 hxl)).1.1, fun _ hxl p y h1 h2 => ((kindV_says ok hx k (hp.mem_iff.1 hxl)).2 p y h1 h2).1⟩

theorem Safe.perm {ops : List Wop} {l ws : List Nat} {acc : Nat → Bool} {H : Nat → Int} (h : Safe ops l acc H) (hp : ws.Perm l) : Safe ops ws acc H :=
 ⟨fun x hx => h.lo x (hp.mem_iff.1 hx), fun x hx => h.low x (hp.mem_iff.1 hx)⟩
/-- H is what the kind says of each state, and safe. -/
def SaysG (t : Tsk) (kind : Int) (H : Nat → Int) : Prop := t.Ok → ∀ l, explored t = some l → ValC t kind l H ∧ Safe (wordsOf t.ops) l (goalB (wd t.goal)) H

set_option maxRecDepth 100000 in
set_option maxHeartbeats 4000000 in
theorem gplanNo_any (w : World) (vi vg vo : Value) (t : Tsk) (kind : Int) (hk : ¬ (0 ≤ kind ∧ kind ≤ 5)) (h : TaskAt w vi vg vo t) :
  Calls Tryz.prog 9 #[.agg #[.int .i64 t.n, vi, vg, vo], .int .i64 kind] w (GPlanPost t kind w) := by
 obtain ⟨ai, ci, h1, _⟩ := h.init.form
 obtain ⟨ag, cg, h2, _⟩ := h.goal.form
 obtain ⟨ao, co, h3, hmo⟩ := h.ops.form
 subst h1 h2 h3
 have K1 := (Keeps.refl (fun _ => False) w).alloc (.cells #[.int .i64 t.n, .slice ai t.init.length ci, .slice ag t.goal.length cg, .slice ao t.ops.length co] 25)
 have KA := (Keeps.refl (fun _ => False) (w.alloc (.cells #[.int .i64 t.n, .slice ai t.init.length ci, .slice ag t.goal.length cg, .slice ao t.ops.length co] 25))).alloc (.cells #[.bool false, .slice none 0 0, .int .i64 0, .int .i64 0] 29)
 have KB := (Keeps.refl (fun _ => False) ((w.alloc (.cells #[.int .i64 t.n, .slice ai t.init.length ci, .slice ag t.goal.length cg, .slice ao t.ops.length co] 25)).alloc (.cells #[.bool false, .slice none 0 0, .int .i64 0, .int .i64 0] 29))).alloc (.cells #[.int .i64 0, .int .i64 0] 31)
 have HB := Lib.hid ((Four.new w (.int .i64 t.n) (.slice ai t.init.length ci) (.slice ag t.goal.length cg) (.slice ao t.ops.length co) 25).keeps0 (KA.trans KB))
 have hr := KB.heap (heap_alloc_new (w.alloc (.cells #[.int .i64 t.n, .slice ai t.init.length ci, .slice ag t.goal.length cg, .slice ao t.ops.length co] 25)) (.cells #[.bool false, .slice none 0 0, .int .i64 0, .int .i64 0] 29)) (fun h => h)
 have hf : Flt w _ _ 31 := ⟨heap_alloc_new ((w.alloc (.cells #[.int .i64 t.n, .slice ai t.init.length ci, .slice ag t.goal.length cg, .slice ao t.ops.length co] 25)).alloc (.cells #[.bool false, .slice none 0 0, .int .i64 0, .int .i64 0] 29)) (.cells #[.int .i64 0, .int .i64 0] 31), by simp; omega, K1.trans (KA.trans KB)⟩
 have HT := Lib.hid (h.keeps0 (K1.trans (KA.trans KB)))
 rw [World.size_alloc] at hr hf
 rw [World.size_alloc] at hf
 have HR := Lib.hid (show RFl w _ (w.heap.size + 1) (w.heap.size + 1 + 1) from ⟨hr, hf, by omega, by omega⟩)
 clear h K1 KA KB hr hf
 have hdk : decide (0 ≤ kind ∧ kind ≤ 5) = false := by simpa using hk
 by_cases h0 : 0 ≤ kind
 case' pos =>
  have hd0 : decide (0 ≤ kind) = true := by simpa using h0
  have hd5 : decide (kind ≤ 5) = false := by simp; omega
 case' neg =>
  have hd0 : decide (0 ≤ kind) = false := by simpa using h0
 all_goals
  clear hk h0
  go_enter Tryz.func9, Tryz.ntmps9
  go_upto_region 1 with fail
  generalize (((w.alloc (.cells #[.int .i64 t.n, .slice ai t.init.length ci, .slice ag t.goal.length cg, .slice ao t.ops.length co] 25)).alloc (.cells #[.bool false, .slice none 0 0, .int .i64 0, .int .i64 0] 29)).alloc (.cells #[.int .i64 0, .int .i64 0] 31)) = w1 at HB HR HT ⊢
  have hbx := HB.out.lt
  obtain ⟨d0, d1, d2, d3⟩ := HB.out
  go_wp2_with fail
  refine (acheckNo_any _ _ _ _ t HT.out).mono ?_; rintro e w2 ⟨pv, lv, c, i, rfl, hki, hcz, hr⟩
  have KK := hr.trans ((Keeps.refl (fun _ => False) w2).alloc (.cells #[.int .i64 c, .int .i64 i] 31))
  have HR4 := Lib.hid (HR.out.keeps0 KK)
  have F0 := Lib.hid (heap_alloc_new w2 (.cells #[.int .i64 c, .int .i64 i] 31))
  have HKI := Lib.hid hki; have HCZ := Lib.hid hcz
  clear d0 d1 d2 d3 hbx hr KK HT HB HR hki
  go_upto_region 2 with fail
  generalize w2.alloc (.cells #[.int .i64 c, .int .i64 i] 31) = w3 at HR4 F0 ⊢
  generalize w2.heap.size = b3 at F0 ⊢
  obtain ⟨f0, f1, _, _, fl⟩ := pair_cells F0.out
  have hc2 : (c == 0) = false := by simpa using hcz
  clear hcz
  have HFIN := Lib.hid (HR4.out.fin (.int .i64 c) (.int .i64 i))
  obtain ⟨r0, r1, r2, r3, y0, y1, y2, y3, hlR⟩ := HR4.out.cells
  obtain ⟨e0, e1, z0, z1, hF⟩ := HR4.out.flt.cells
  obtain ⟨s0, s1, s2, s3⟩ := HR4.out.ids
  go_wp2_with fail
  go_region
  all_goals
   go_wp2
   refine bodyPost_ret (results_cell_cell _ _ (w.heap.size + 1 + 1) 31 #[.int .i64 c, .int .i64 i] (0, 0) _ rfl rfl HFIN.out.2.1 Tryz.underlying31 rfl (by kernel_rfl) rfl HFIN.out.1 Tryz.underlying29 rfl (by kernel_rfl)) rfl ?_
   exact ⟨HFIN.out.2.2, false, _, [], 0, 0, c, i, rfl, Ints.nil _, .inl ⟨HCZ.out, by rw [hdk]; exact HKI.out, rfl, rfl, rfl, rfl⟩⟩

set_option maxRecDepth 100000 in
set_option maxHeartbeats 8000000 in
theorem gplanYes_any (w : World) (vi vg vo : Value) (t : Tsk) (kind : Int) (H : Nat → Int) (hs : SaysG t kind H) (hk : 0 ≤ kind ∧ kind ≤ 5) (h : TaskAt w vi vg vo t) :
  Calls Tryz.prog 9 #[.agg #[.int .i64 t.n, vi, vg, vo], .int .i64 kind] w (GPlanPost t kind w) := by
 obtain ⟨ai, ci, h1, _⟩ := h.init.form
 obtain ⟨ag, cg, h2, _⟩ := h.goal.form
 obtain ⟨ao, co, h3, hmo⟩ := h.ops.form
 subst h1 h2 h3
 have K1 := (Keeps.refl (fun _ => False) w).alloc (.cells #[.int .i64 t.n, .slice ai t.init.length ci, .slice ag t.goal.length cg, .slice ao t.ops.length co] 25)
 have KA := (Keeps.refl (fun _ => False) (w.alloc (.cells #[.int .i64 t.n, .slice ai t.init.length ci, .slice ag t.goal.length cg, .slice ao t.ops.length co] 25))).alloc (.cells #[.bool false, .slice none 0 0, .int .i64 0, .int .i64 0] 29)
 have KB := (Keeps.refl (fun _ => False) ((w.alloc (.cells #[.int .i64 t.n, .slice ai t.init.length ci, .slice ag t.goal.length cg, .slice ao t.ops.length co] 25)).alloc (.cells #[.bool false, .slice none 0 0, .int .i64 0, .int .i64 0] 29))).alloc (.cells #[.int .i64 0, .int .i64 0] 31)
 have HB := Lib.hid ((Four.new w (.int .i64 t.n) (.slice ai t.init.length ci) (.slice ag t.goal.length cg) (.slice ao t.ops.length co) 25).keeps0 (KA.trans KB))
 have hr := KB.heap (heap_alloc_new (w.alloc (.cells #[.int .i64 t.n, .slice ai t.init.length ci, .slice ag t.goal.length cg, .slice ao t.ops.length co] 25)) (.cells #[.bool false, .slice none 0 0, .int .i64 0, .int .i64 0] 29)) (fun h => h)
 have hf : Flt w _ _ 31 := ⟨heap_alloc_new ((w.alloc (.cells #[.int .i64 t.n, .slice ai t.init.length ci, .slice ag t.goal.length cg, .slice ao t.ops.length co] 25)).alloc (.cells #[.bool false, .slice none 0 0, .int .i64 0, .int .i64 0] 29)) (.cells #[.int .i64 0, .int .i64 0] 31), by simp; omega, K1.trans (KA.trans KB)⟩
 have HT := Lib.hid (h.keeps0 (K1.trans (KA.trans KB)))
 rw [World.size_alloc] at hr hf
 rw [World.size_alloc] at hf
 have HR := Lib.hid (show RFl w _ (w.heap.size + 1) (w.heap.size + 1 + 1) from ⟨hr, hf, by omega, by omega⟩)
 clear h K1 KA KB hr hf
 have hd0 : decide (0 ≤ kind) = true := by simpa using hk.1
 have hd5 : decide (kind ≤ 5) = true := by simpa using hk.2
 have HDK := Lib.hid (show kindF t (decide (0 ≤ kind ∧ kind ≤ 5)) = expF t by rw [decide_eq_true hk, kindF_true])
 have HKK := Lib.hid hk
 have HV := Lib.hid hs
 clear hs
 clear hk
 go_enter Tryz.func9, Tryz.ntmps9
 go_upto_region 1 with fail
 generalize (((w.alloc (.cells #[.int .i64 t.n, .slice ai t.init.length ci, .slice ag t.goal.length cg, .slice ao t.ops.length co] 25)).alloc (.cells #[.bool false, .slice none 0 0, .int .i64 0, .int .i64 0] 29)).alloc (.cells #[.int .i64 0, .int .i64 0] 31)) = w1 at HB HR HT ⊢
 have hbx := HB.out.lt
 obtain ⟨d0, d1, d2, d3⟩ := HB.out
 go_wp2_with fail
 refine (acheck_any _ _ _ _ t HT.out).mono ?_; rintro e w2 hr
 obtain ⟨pv, lv, c, i, rfl⟩ := hr.form
 have HC := Lib.hid hr
 have KA := (Keeps.refl (fun _ => False) w2).alloc (.cells #[.int .i64 c, .int .i64 i] 31)
 have KK := hr.1.trans KA
 have HR4 := Lib.hid (HR.out.keeps0 KK); have HT4 := Lib.hid (HT.out.keeps0 KK); have HB4 := Lib.hid (HB.out.keeps0 KK)
 have F0 := Lib.hid (heap_alloc_new w2 (.cells #[.int .i64 c, .int .i64 i] 31))
 have HKA := Lib.hid KA
 have HWB := Lib.hid (show w.heap.size + 1 + 1 < w1.heap.size from lt_of_heap HR.out.flt.blk)
 clear d0 d1 d2 d3 hbx hr KA KK HT HB HR
 go_upto_region 2 with fail
 generalize w2.alloc (.cells #[.int .i64 c, .int .i64 i] 31) = wz at HR4 HT4 HB4 F0 HKA ⊢
 generalize w2.heap.size = b3 at F0 ⊢
 obtain ⟨f0, f1, _, _, fl⟩ := pair_cells F0.out
 rcases HC.out.2 with ⟨hc, he⟩ | ⟨hok, hx, he⟩ | ⟨hok, l, hx, b, v, vl, ws, he, hw, hperm, hsort, hown⟩
 ·obtain ⟨rfl, rfl, he2⟩ := ret_three he
  obtain ⟨rfl, rfl⟩ := agg_two he2; clear he2 he
  have NF := Lib.hid (expF_bad hc)
  have HCC := Lib.hid hc
  have hc2 : ((taskFault t).1 == 0) = false := by simpa using hc
  clear hc
  generalize hfe : taskFault t = f at hc2 NF HCC f0 f1 F0 HC HKA ⊢
  clear hfe HC
  have HFIN := Lib.hid (HR4.out.fin (.int .i64 f.1) (.int .i64 f.2))
  obtain ⟨r0, r1, r2, r3, y0, y1, y2, y3, hlR⟩ := HR4.out.cells
  obtain ⟨e0, e1, z0, z1, hF⟩ := HR4.out.flt.cells
  obtain ⟨s0, s1, s2, s3⟩ := HR4.out.ids
  go_wp2_with fail
  go_region
  all_goals
   go_wp2
   refine bodyPost_ret (results_cell_cell _ _ (w.heap.size + 1 + 1) 31 #[.int .i64 f.1, .int .i64 f.2] (0, 0) _ rfl rfl HFIN.out.2.1 Tryz.underlying31 rfl (by kernel_rfl) rfl HFIN.out.1 Tryz.underlying29 rfl (by kernel_rfl)) rfl ?_
   exact ⟨HFIN.out.2.2, false, _, [], 0, 0, f.1, f.2, rfl, Ints.nil _, .inl ⟨HCC.out, by rw [HDK.out, NF.out], rfl, rfl, rfl, rfl⟩⟩
 ·obtain ⟨rfl, rfl, he2⟩ := ret_three he
  obtain ⟨rfl, rfl⟩ := agg_two he2; clear he2 he
  have NF := Lib.hid (expF_many hok hx)
  clear hok hx HC
  have HFIN := Lib.hid (HR4.out.fin (.int .i64 10) (.int .i64 (-7)))
  obtain ⟨r0, r1, r2, r3, y0, y1, y2, y3, hlR⟩ := HR4.out.cells
  obtain ⟨e0, e1, z0, z1, hF⟩ := HR4.out.flt.cells
  obtain ⟨s0, s1, s2, s3⟩ := HR4.out.ids
  go_wp2_with fail
  go_region
  all_goals
   go_wp2
   refine bodyPost_ret (results_cell_cell _ _ (w.heap.size + 1 + 1) 31 #[.int .i64 10, .int .i64 (-7)] (0, 0) _ rfl rfl HFIN.out.2.1 Tryz.underlying31 rfl (by kernel_rfl) rfl HFIN.out.1 Tryz.underlying29 rfl (by kernel_rfl)) rfl ?_
   exact ⟨HFIN.out.2.2, false, _, [], 0, 0, 10, (-7), rfl, Ints.nil _, .inl ⟨by decide, by rw [HDK.out, NF.out], rfl, rfl, rfl, rfl⟩⟩
 ·obtain ⟨rfl, rfl, he2⟩ := ret_three he
  obtain ⟨rfl, rfl⟩ := agg_two he2; clear he2 he
  have HX := Lib.hid hx; have OK := Lib.hid hok; have HPM := Lib.hid hperm; have HW := Lib.hid (hw.keeps0 HKA.out)
  have HND := Lib.hid (costs_need OK.out HX.out HPM.out)
  have HXN := Lib.hid (expF_ok hok hx)
  have HVL := Lib.hid ((HV.out hok l hx).1.perm hperm); have HSF := Lib.hid ((HV.out hok l hx).2.perm hperm)
  clear hok hx hperm hw HC hsort hown HKA
  obtain ⟨d0, d1, d2, d3⟩ := HB4.out
  have hbx := HB4.out.lt
  go_wp2_with fail
  refine (heuristic_any wz _ _ _ t kind H HT4.out).mono ?_
  rintro e w6 ⟨kb, tb, qb, mb, rfl, hhm, h1, h2, h3, h4, h5, hk6⟩
  have HM6 := Lib.hid hhm
  have HK6 := Lib.hid hk6
  have HEU := Lib.hid (heur_is t kind ws H HVL.out wz kb tb qb mb wz.heap.size w6.heap.size _ _ _ HT4.out h1 h1 h2 h3 h4 h5)
  have HB6 := Lib.hid (HB4.out.keeps0 hk6); have HT6 := Lib.hid (HT4.out.keeps0 hk6); have HR6 := Lib.hid (HR4.out.keeps0 hk6)
  have HMB := Lib.hid h1
  clear d0 d1 d2 d3 hbx f0 f1 fl hhm h1 h2 h3 h4 h5 hk6
  go_wp2_with fail
  refine (gfirst_any wz w6 b (wd t.init) (wd t.goal) _ v _ ws H _ _ _ _ _ HW.out HK6.out (wops_ok OK.out) HND.out.2.2.1 HND.out.2.1 HND.out.2.2.2.1 HND.out.2.2.2.2.1 HND.out.2.2.2.2.2.1 HND.out.2.2.2.2.2.2.2 HEU.out HM6.out HSF.out).mono ?_
  rintro e w7 ⟨hk7, n, hn, hres⟩
  have K7 : Keeps (fun _ => False) wz w7 := HK6.out.trans' hk7 (fun k hk => .inr (by rw [hk]; exact HMB.out))
  have HB7 := HB4.out.keeps0 K7; have HT7 := Lib.hid (HT4.out.keeps0 K7); have HR7 := Lib.hid (HR4.out.keeps0 K7); have HW7 := Lib.hid (HW.out.past K7)
  have HN := Lib.hid (show 0 ≤ (n : Int) ∧ (n : Int) ≤ (l.length : Int) from ⟨by omega, by have := HPM.out.length_eq; omega⟩)
  have HL2 := HND.out.2.2.2.2.1
  have HSZ := HK6.out.size
  have HZ7 := hk7.size
  have HSW := lt_of_heap HR4.out.flt.blk
  have HBS := Lib.hid HB7
  obtain ⟨d0, d1, d2, d3⟩ := HB7
  have hbx := lt_of_heap HR7.out.res
  have hbx2 : w.heap.size < w7.heap.size := by omega
  have HKD := Lib.hid (show kindF t (decide (0 ≤ kind ∧ kind ≤ 5)) = (0, 0) by rw [HDK.out]; exact HXN.out)
  clear hk7 K7 HB4 HB6 HT6 HR6 HT4 HR4 HM6 HEU hn HDK
  rcases hres with ⟨hbt, rfl⟩ | ⟨q, y, v2, rfl, hrow, hql, hrun, hacc⟩
  ·have HBT := Lib.hid (show Best (wordsOf t.ops) (wd t.init) (goalB (wd t.goal)) none from hbt)
   clear hbt
   go_wp2_with fail
   refine (result_any w7 _ _ _ _ t [] false (n : Int) HT7.out OK.out (Ints.nil _) (fun z hz => by simp at hz)).mono ?_
   rintro e w8 ⟨hk8, hr8⟩
   rcases hr8 with ⟨h60, rfl⟩ | ⟨h60, rfl⟩
   ·simp at h60
   have HR8 := Lib.hid (HR7.out.keeps0 hk8)
   obtain ⟨r0, r1, r2, r3, x0, x1, x2, x3, hlR⟩ := HR8.out.cells
   obtain ⟨e0, e1, z0, z1, hF⟩ := HR8.out.flt.cells
   have HFIN := Lib.hid (HR8.out.set (.bool false) (.slice none 0 0) (.int .i64 (costL t [])) (.int .i64 ((n : Int))) (.int .i64 0) (.int .i64 (0)))
   simp only [resV, fltV]
   clear d0 d1 d2 d3 hbx hk8
   go_wp2_with fail
   refine bodyPost_ret (results_cell_cell _ _ (w.heap.size + 1 + 1) 31 #[.int .i64 0, .int .i64 0] (0, 0) _ rfl rfl HFIN.out.2.1 Tryz.underlying31 rfl (by kernel_rfl) rfl HFIN.out.1 Tryz.underlying29 rfl (by kernel_rfl)) rfl ?_
   exact ⟨HFIN.out.2.2.1, false, _, [], 0, (n : Int), 0, 0, rfl, Ints.nil _, .inr ⟨HKK.out, HKD.out, OK.out, l, HX.out, .inl ⟨HBT.out, rfl, rfl, rfl, HN.out.1, HN.out.2, rfl, rfl⟩⟩⟩
  ·rw [show q.length = (intsP q).length from by unfold intsP; rw [List.length_map]] at hrow
   have hi := Ints.of_own hrow
   have HLO := Lib.hid (show ∀ k, v2.ownBlock = some k → w6.heap.size ≤ k from fun k hk => (hrow.lt k hk).1)
   obtain ⟨a3, c3, hv3, _⟩ := hi.form
   subst hv3
   have HI := Lib.hid hi; have HRUN := Lib.hid hrun
   have HPIN := Lib.hid (planIn_run hrun)
   have HQI := Lib.hid (show (intsP q).length = q.length by unfold intsP; rw [List.length_map])
   clear hrow hi hrun
   by_cases h60 : (intsP q).length ≤ 60
   ·have H60 := Lib.hid (show q.length ≤ 60 by have := HQI.out; omega)
    have hd60 : decide ((60 : Int) < ((intsP q).length : Int)) = false := by simp; omega
    go_wp2_with fail
    refine (aresult_fit w7 _ _ _ _ t (intsP q) true (n : Int) HT7.out OK.out HI.out HPIN.out h60).mono ?_
    rintro e w8 ⟨rfl, hk8⟩
    have HI8 := Lib.hid (HI.out.keeps0 hk8)
    have HR8 := Lib.hid (HR7.out.keeps0 hk8)
    obtain ⟨r0, r1, r2, r3, x0, x1, x2, x3, hlR⟩ := HR8.out.cells
    obtain ⟨e0, e1, z0, z1, hF⟩ := HR8.out.flt.cells
    have HFIN := Lib.hid (HR8.out.set (.bool true) (.slice a3 (intsP q).length c3) (.int .i64 (costL t (intsP q))) (.int .i64 ((n : Int))) (.int .i64 0) (.int .i64 (0)))
    clear d0 d1 d2 d3 hbx hk8
    go_wp2_with fail
    refine bodyPost_ret (results_cell_cell _ _ (w.heap.size + 1 + 1) 31 #[.int .i64 0, .int .i64 0] (0, 0) _ rfl rfl HFIN.out.2.1 Tryz.underlying31 rfl (by kernel_rfl) rfl HFIN.out.1 Tryz.underlying29 rfl (by kernel_rfl)) rfl ?_
    refine ⟨HFIN.out.2.2.1, true, _, _, _, (n : Int), 0, 0, rfl, ?_, .inr ⟨HKK.out, HKD.out, OK.out, l, HX.out, .inr (.inl ⟨q, y, HRUN.out, hacc, H60.out, rfl, rfl, rfl, HN.out.1, HN.out.2, rfl, rfl⟩)⟩⟩
    refine HI8.out.keepsS HFIN.out.2.2.2 (fun h0 j hj e' => ?_)
    have h1 := HLO.out j hj
    omega
   ·have hd60 : decide ((60 : Int) < ((intsP q).length : Int)) = true := by simp; omega
    have HQ := Lib.hid (And.intro HRUN.out hacc)
    clear HI HLO HPIN
    go_wp2_with fail
    refine (first_any w7 b (wd t.init) (wd t.goal) _ v (wordsOf t.ops) HW7.out (wops_ok OK.out) HND.out.2.2.1 (wd_lt32 (by have := OK.out.n1; omega : t.n ≤ 32) OK.out.init) l HX.out _ _ _ (goalB (wd t.goal)) (asked_goal w7 _ b _ _ v _ HW7.out HND.out.2.1)).mono ?_
    rintro e w9 ⟨hk9, hr9⟩
    have HB9 := HBS.out.keeps0 hk9; have HT9 := Lib.hid (HT7.out.keeps0 hk9); have HR9 := Lib.hid (HR7.out.keeps0 hk9)
    have hbx9 := lt_of_heap HR9.out.res
    have hbx29 : w.heap.size < w9.heap.size := by omega
    have HZ9 := hk9.size
    clear d0 d1 d2 d3 hk9 HT7 HR7
    obtain ⟨d0, d1, d2, d3⟩ := HB9
    rcases hr9 with ⟨hbest, rfl⟩ | ⟨p, hbest, v', rfl, hown⟩
    ·have h1 := hbest q y HQ.out.1
     rw [HQ.out.2] at h1; cases h1
    ·rw [show p.length = (intsP p).length from by unfold intsP; rw [List.length_map]] at hown
     have hi := Ints.of_own hown
     have HLO := Lib.hid (show ∀ k, v'.ownBlock = some k → w7.heap.size ≤ k from fun k hk => (hown.lt k hk).1)
     obtain ⟨a3, c3, hv3, _⟩ := hi.form
     subst hv3
     have HBE := Lib.hid hbest
     obtain ⟨⟨y2, hrun2, hacc2⟩, _⟩ := hbest
     have HI := Lib.hid hi; have HRN2 := Lib.hid (And.intro hrun2 hacc2)
     have HPIN := Lib.hid (planIn_run hrun2)
     have HPI := Lib.hid (show (intsP p).length = p.length by unfold intsP; rw [List.length_map])
     clear hown hi hrun2 hacc2
     have HR7 := HR9
     by_cases h61 : (intsP p).length ≤ 60
     ·have H61 := Lib.hid (show p.length ≤ 60 by have := HPI.out; omega)
      go_wp2_with fail
      refine (aresult_fit w9 _ _ _ _ t (intsP p) true (n : Int) HT9.out OK.out HI.out HPIN.out h61).mono ?_
      rintro e w8 ⟨rfl, hk8⟩
      have HI8 := Lib.hid (HI.out.keeps0 hk8)
      have HR8 := Lib.hid (HR7.out.keeps0 hk8)
      obtain ⟨r0, r1, r2, r3, x0, x1, x2, x3, hlR⟩ := HR8.out.cells
      obtain ⟨e0, e1, z0, z1, hF⟩ := HR8.out.flt.cells
      have HFIN := Lib.hid (HR8.out.set (.bool true) (.slice a3 (intsP p).length c3) (.int .i64 (costL t (intsP p))) (.int .i64 ((n : Int))) (.int .i64 0) (.int .i64 (0)))
      clear d0 d1 d2 d3 hbx hk8
      go_wp2_with fail
      refine bodyPost_ret (results_cell_cell _ _ (w.heap.size + 1 + 1) 31 #[.int .i64 0, .int .i64 0] (0, 0) _ rfl rfl HFIN.out.2.1 Tryz.underlying31 rfl (by kernel_rfl) rfl HFIN.out.1 Tryz.underlying29 rfl (by kernel_rfl)) rfl ?_
      refine ⟨HFIN.out.2.2.1, true, _, _, _, (n : Int), 0, 0, rfl, ?_, .inr ⟨HKK.out, HKD.out, OK.out, l, HX.out, .inr (.inl ⟨p, y2, HRN2.out.1, HRN2.out.2, H61.out, rfl, rfl, rfl, HN.out.1, HN.out.2, rfl, rfl⟩)⟩⟩
      refine HI8.out.keepsS HFIN.out.2.2.2 (fun h0 j hj e' => ?_)
      have h1 := HLO.out j hj
      omega
     ·have H61 := Lib.hid (show 60 < p.length by have := HPI.out; omega)
      go_wp2_with fail
      refine (aresult_long w9 _ _ _ _ t (intsP p) true (n : Int) HT9.out OK.out HI.out HPIN.out (by omega)).mono ?_
      rintro e w8 ⟨rfl, hk8⟩
      have HR8 := Lib.hid (HR7.out.keeps0 hk8)
      obtain ⟨r0, r1, r2, r3, x0, x1, x2, x3, hlR⟩ := HR8.out.cells
      obtain ⟨e0, e1, z0, z1, hF⟩ := HR8.out.flt.cells
      have HFIN := Lib.hid (HR8.out.set (.bool false) (.slice none 0 0) (.int .i64 (0)) (.int .i64 (0)) (.int .i64 10) (.int .i64 (-9)))
      clear d0 d1 d2 d3 hbx hk8
      go_wp2_with fail
      refine bodyPost_ret (results_cell_cell _ _ (w.heap.size + 1 + 1) 31 #[.int .i64 10, .int .i64 (-9)] (0, 0) _ rfl rfl HFIN.out.2.1 Tryz.underlying31 rfl (by kernel_rfl) rfl HFIN.out.1 Tryz.underlying29 rfl (by kernel_rfl)) rfl ?_
      exact ⟨HFIN.out.2.2.1, false, _, [], 0, 0, 10, -9, rfl, Ints.nil _, .inr ⟨HKK.out, HKD.out, OK.out, l, HX.out, .inr (.inr ⟨p, HBE.out, H61.out, rfl, rfl, rfl, rfl, rfl, rfl⟩)⟩⟩

theorem gplan_any (w : World) (vi vg vo : Value) (t : Tsk) (kind : Int) (h : TaskAt w vi vg vo t) :
  Calls Tryz.prog 9 #[.agg #[.int .i64 t.n, vi, vg, vo], .int .i64 kind] w (GPlanPost t kind w) := by
 by_cases hk : 0 ≤ kind ∧ kind ≤ 5
 ·exact gplanYes_any w vi vg vo t kind (kindV t kind) (fun ok l hx => ⟨says_all hk t ok l hx, safe_kind ok hx (List.Perm.refl l) kind⟩) hk h
 ·exact gplanNo_any w vi vg vo t kind hk h

theorem gplanM_any (w : World) (vi vg vo : Value) (t : Tsk) (kind : Int) (ha : admK kind = true) (hk : 0 ≤ kind ∧ kind ≤ 5) (h : TaskAt w vi vg vo t) :
  Calls Tryz.prog 9 #[.agg #[.int .i64 t.n, vi, vg, vo], .int .i64 kind] w (GPlanPost t kind w) :=
 gplanYes_any w vi vg vo t kind (kindH t kind) (fun ok l hx => ⟨(says_kind ha t l ok hx).1, ⟨fun x hxl => ((says_kind ha t l ok hx).2.lo x hxl).1, fun x hxl p y h1 h2 => ((says_kind ha t l ok hx).2.low x hxl p y h1 h2).2⟩⟩) hk h

end Go.Proofs.YtdokakhgflljgaaGreat

namespace Go.Proofs.YtdokakhgflljgaaGreat
open Go.RowKit Go.Shelf

/-- What Checked says, at a kind that is permitted or not: the space p, or the fault (c, i). -/
def CkR (t : Tsk) (pb : Bool) (w : World) (p : Value) (c i : Int) (w' : World) : Prop := Keeps (fun _ => False) w w' ∧
 ((c ≠ 0 ∧ (c, i) = kindF t pb) ∨ (c = 0 ∧ i = 0 ∧ pb = true ∧ t.Ok ∧ ∃ l, explored t = some l ∧ ∃ (b : Nat) (v : Value) (ws : List Nat), p = .pointer (some ⟨b, 0, none⟩) ∧ WordsAt w' w.heap.size b (wd t.init) (wd t.goal) v (wordsOf t.ops) ∧ ws.Perm l))
theorem CkR.past {t : Tsk} {pb : Bool} {w w1 w2 w' : World} {p : Value} {c i : Int} {S : Nat → Prop} (h : CkR t pb w1 p c i w2) (hz : w.heap.size ≤ w1.heap.size) (hk : Keeps S w2 w') (hS : ∀ k, S k → k < w1.heap.size) (k0 : Keeps (fun _ => False) w w') : CkR t pb w p c i w' := by
 refine ⟨k0, ?_⟩
 rcases h.2 with h | ⟨h1, h2, h3, ok, l, hx, b, v, ws, he, hw, hp⟩
 ·exact .inl h
 ·exact .inr ⟨h1, h2, h3, ok, l, hx, b, v, ws, he, (hw.keepsS hk (fun h => by have := hS _ h; have := hw.low; omega) (fun k hk' h => by have := hS _ h; have := (hw.own.lt k hk').1; omega)).mono hz, hp⟩
theorem CkR.past1 {t : Tsk} {pb : Bool} {w w1 w2 : World} {p : Value} {c i : Int} {b : Nat} {x y : Value} (h : CkR t pb w1 p c i w2) (hz : w.heap.size ≤ b) (hb : b < w1.heap.size) (k : Keeps (fun _ => False) w w1) : CkR t pb w p c i ((w2.setCell ⟨b, 0, none⟩ x).setCell ⟨b, 1, none⟩ y) :=
 h.past k.size (keeps_pair (w := w2) b x y) (fun k hk => by rw [hk]; exact hb) ((k.trans h.1).trans' (keeps_pair (w := w2) b x y) (fun k hk => .inr (by omega)))
theorem CkR.past2 {t : Tsk} {pb : Bool} {w w1 w2 : World} {p : Value} {c i : Int} {o : Obj} (h : CkR t pb w1 p c i w2) (k : Keeps (fun _ => False) w w1) : CkR t pb w p c i (w2.alloc o) :=
 h.past k.size ((Keeps.refl (fun _ => False) w2).alloc o) (fun _ h => h.elim) ((k.trans h.1).alloc o)
theorem acheckB_any (w : World) (vi vg vo : Value) (t : Tsk) (pb : Bool) (h : TaskAt w vi vg vo t) :
  Calls Tryz.prog 29 #[.agg #[.int .i64 t.n, vi, vg, vo], .bool pb] w fun e w' => ∃ pv lv c i, e = .returned (.tuple #[.pointer pv, lv, .agg #[.int .i64 c, .int .i64 i]]) ∧ CkR t pb w (.pointer pv) c i w' := by
 cases pb with
 | false =>
  refine (acheckNo_any w vi vg vo t h).mono ?_
  rintro e w' ⟨pv, lv, c, i, h1, h2, h3, h4⟩
  exact ⟨pv, lv, c, i, h1, h4, .inl ⟨h3, h2⟩⟩
 | true =>
  refine (acheck_any w vi vg vo t h).mono ?_
  rintro e w' ⟨hk, hr⟩
  rcases hr with ⟨hc, he⟩ | ⟨hok, hx, he⟩ | ⟨hok, l, hx, b, v, vl, ws, he, hw, hp, _, _⟩
  ·exact ⟨_, _, _, _, he, hk, .inl ⟨hc, by rw [kindF_true, expF_bad hc]⟩⟩
  ·exact ⟨_, _, _, _, he, hk, .inl ⟨by decide, by rw [kindF_true, expF_many hok hx]⟩⟩
  ·exact ⟨_, _, _, _, he, hk, .inr ⟨rfl, rfl, rfl, hok, l, hx, b, v, ws, rfl, hw, hp⟩⟩

end Go.Proofs.YtdokakhgflljgaaGreat
