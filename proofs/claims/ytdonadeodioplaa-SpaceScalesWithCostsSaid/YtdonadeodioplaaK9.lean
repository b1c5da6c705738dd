/- The reference's Less and States; the laws' lists. space.Explore. space.Steps. strips.StateFault, breadth.Reach. breadth.Reach. The example task of the laws; breadth's example. breadth: the law that Plan is the reference's. breadth: the law that Reach is the reference's. No condition beyond what each theorem says. -/
import Derived.Test.YtdonadeodioplaaK5
import Derived.IntWalk
import Derived.Test.YtdonadeodioplaaK8
import Derived.Test.YtdonadeodioplaaK6

namespace Go.Proofs.Ytdonadeodioplaa
open Go.RowKit

def lessL (a b : List Int) : Bool := decide (cmpL a b < 0)

/-! ### lists -/
set_option maxRecDepth 100000 in
set_option maxHeartbeats 2000000 in
theorem lists_any (w : World) (va vb : Value) (a b : List (List Int)) (ha : Lists w va a) (hb : Lists w vb b) :
    Calls Try.prog 23 #[va, vb] w fun e w' => e = .returned (.bool (a == b)) ∧ Keeps (fun _ => False) w w' := by
  obtain ⟨ao, ca, hva, ma⟩ := ha.form
  obtain ⟨bo, cb, hvb, mb⟩ := hb.form
  have CA := Lib.hid (ha.cell hva)
  have CB := Lib.hid (hb.cell hvb)
  subst hva hvb
  clear ha hb
  by_cases hl : a.length = b.length
  · have h1 : (((a.length : Int)) != (b.length : Int)) = false := by simp [hl]
    have HL := Lib.hid hl; clear hl
    go_enter Try.func23, Try.ntmps23
    go_wp2_with fail
    go_loopw [5] (fun i wr => ∃ k : Nat, k ≤ a.length ∧ i = .int .i64 (k : Int) ∧ a.take k = b.take k ∧ Keeps (fun _ => False) w wr) (fun i _ => a.length - (intOf i).toNat)
    case atStart => exact ⟨0, Nat.zero_le _, rfl, rfl, Keeps.refl _ _⟩
    case round =>
      obtain ⟨k, hk, rfl, ht, hB⟩ := hrel
      have HT := Lib.hid ht
      have HB := Lib.hid hB
      clear ht hB
      by_cases hlt : k < a.length
      · obtain ⟨ba, oa, rfl, ha'⟩ := CA.out (by omega)
        have hlt2 : k < b.length := by have := HL.out; omega
        obtain ⟨bb, ob, rfl, hb'⟩ := CB.out (by omega)
        obtain ⟨x, hx⟩ : ∃ x, a[k]? = some x := ⟨_, List.getElem?_eq_getElem hlt⟩
        obtain ⟨y, hy⟩ : ∃ y, b[k]? = some y := ⟨_, List.getElem?_eq_getElem hlt2⟩
        obtain ⟨u, hu, hiu⟩ := ha' k x hx
        obtain ⟨v, hv, hiv⟩ := hb' k y hy
        have ha1 := HB.out.cell hu (fun h => h)
        have hb1 := HB.out.cell hv (fun h => h)
        obtain ⟨au, cu, hfu, _⟩ := hiu.form
        obtain ⟨av, cv, hfv, _⟩ := hiv.form
        have KD := Lib.hid HB.out.drew
        have HU := Lib.hid (hiu.keeps0 KD.out); have HV := Lib.hid (hiv.keeps0 KD.out)
        subst hfu hfv
        have HX := Lib.hid hx
        have HY := Lib.hid hy
        have i0 : (0 : Int) ≤ (k : Int) := by omega
        have i1 : (k : Int) < (a.length : Int) := by omega
        have i2 : (k : Int) < (b.length : Int) := by omega
        clear ha' hb' hx hy hu hv hiu hiv
        go_upto_region 6 with fail
        go_still_tail 8, (by kernel_rfl)
        change wpList _ _ _ _ _ wr.drew
        clear ha1 hb1
        generalize wr.drew = w3 at KD HU HV ⊢
        go_wp2_with fail
        refine (ints_any _ _ _ _ _ HU.out HV.out).mono ?_; rintro e w4 ⟨rfl, hk4⟩
        have K4 := Lib.hid (KD.out.trans hk4)
        clear hk4
        by_cases hxy : x = y
        · rw [show (x == y) = true by simp [hxy]]
          have HXY := Lib.hid hxy; clear hxy
          go_wp2_with fail
          go_roundw
          case rel => exact ⟨k + 1, by omega, by go_num, by
            rw [take_getS HX.out, take_getS HY.out, HT.out, HXY.out], K4.out⟩
          case measure => simp [intOf]; omega
        · rw [show (x == y) = false by simp [hxy]]
          have hne : Hid ((a == b) = false) := by
            unfold Hid; rw [beq_eq_false_iff_ne]; rintro rfl
            exact hxy (Option.some.inj (HX.out.symm.trans HY.out))
          clear hxy
          go_wp2_with fail
          go_ret
          exact ⟨congrArg (fun b => Ending.returned (Value.bool b)) hne.out.symm, K4.out⟩
      · have hab : Hid ((a == b) = true) := by
          unfold Hid; rw [beq_iff_eq]
          have h1 := HT.out
          obtain rfl : k = a.length := by omega
          rw [List.take_length] at h1
          rw [h1]; apply List.take_of_length_le; have := HL.out; omega
        go_wp2_with fail
        go_ret
        exact ⟨congrArg (fun b => Ending.returned (Value.bool b)) hab.out.symm, HB.out⟩
  · have h1 : (((a.length : Int)) != (b.length : Int)) = true := by simp; omega
    have hne : Hid ((a == b) = false) := by unfold Hid; rw [beq_eq_false_iff_ne]; rintro rfl; exact hl rfl
    clear hl
    go_enter Try.func23, Try.ntmps23
    go_wp2_with fail
    go_ret
    exact ⟨congrArg (fun b => Ending.returned (Value.bool b)) hne.out.symm, Keeps.refl _ _⟩

/-! ### States -/
/-- The words in increasing order (by their lists of facts). -/
def ordW (a b : Nat) : Prop := ¬ cmpW b a < 0

theorem lessL_cmpW {x y : Nat} : lessL (facts x) (facts y) = decide (cmpW x y < 0) := rfl

/-- x stands behind P and before S; all of P S is in order, x goes before S. -/
structure InsAt (P S : List (Value × Nat)) (x : Nat) : Prop where
  sorted : ((P ++ S).map Prod.snd).Pairwise ordW
  right : ∀ p ∈ S, cmpW x p.2 < 0

theorem ordW_of_lt {x y : Nat} (h : cmpW x y < 0) : ordW x y := by
  unfold ordW cmpW at *
  rw [cmpL_neg]; omega
theorem InsAt.done {P S : List (Value × Nat)} {u : Value} {x : Nat} (h : InsAt P S x) (hl : ∀ p, P.getLast? = some p → ordW p.2 x) (htr : ∀ {a b c : Nat}, ordW a b → ordW b c → ordW a c) : ((P ++ (u, x) :: S).map Prod.snd).Pairwise ordW := by
  have hs := h.sorted
  rw [List.map_append, List.pairwise_append] at hs
  rw [List.map_append, List.map_cons, List.pairwise_append, List.pairwise_cons]
  refine ⟨hs.1, ⟨fun y hy => ?_, hs.2.1⟩, fun a ha b hb => ?_⟩
  · obtain ⟨p, hp, rfl⟩ := List.mem_map.1 hy
    exact ordW_of_lt (h.right p hp)
  · rcases List.mem_cons.1 hb with rfl | hb
    · obtain ⟨p, hp, rfl⟩ := List.mem_map.1 ha
      cases hg : P.getLast? with
      | none => rw [List.getLast?_eq_none_iff] at hg; subst hg; cases hp
      | some q =>
        have hq := hl q hg
        obtain ⟨r, rfl⟩ := List.getLast?_eq_some_iff.1 hg
        rcases List.mem_append.1 hp with hp | hp
        · have h1 := hs.1
          rw [List.map_append, List.pairwise_append] at h1
          exact htr (h1.2.2 p.2 (List.mem_map.2 ⟨p, hp, rfl⟩) q.2 (by simp)) hq
        · simp at hp; subst hp; exact hq
    · exact hs.2.2 a ha b hb
theorem InsAt.down {P S : List (Value × Nat)} {p : Value × Nat} {x : Nat} (h : InsAt (P ++ [p]) S x) (hp : cmpW x p.2 < 0) : InsAt P (p :: S) x := by
  refine ⟨by have := h.sorted; rwa [List.append_assoc, List.singleton_append] at this, fun q hq => ?_⟩
  rcases List.mem_cons.1 hq with rfl | hq
  · exact hp
  · exact h.right q hq

theorem ordW_trans {a b c : Nat} (h1 : ordW a b) (h2 : ordW b c) : ordW a c := by
  unfold ordW at *
  have e : ∀ x y : Nat, cmpW y x = - cmpW x y := fun x y => cmpL_neg _ _
  intro h3
  rw [e a b] at h1; rw [e b c] at h2
  by_cases hab : cmpW a b < 0
  · have h4 : cmpW c b < 0 := cmpL_trans h3 hab
    rw [e b c] at h4; omega
  · have hab0 : cmpW a b = 0 := by omega
    have := cmpL_eq hab0
    unfold cmpW at *
    rw [this] at h3
    rw [cmpL_neg] at h3; omega

theorem set_two {α : Type} {P S : List α} {p q : α} {k : Nat} (hk : P.length = k) : ((P ++ p :: q :: S).set (k + 1) p).set k q = P ++ q :: p :: S := by
  subst hk
  rw [List.set_append_right _ _ (by omega), List.set_append_right _ _ (by omega)]
  simp

def StatesPost (l : List Nat) (w : World) (e : Ending) (w' : World) : Prop := Keeps (fun _ => False) w w' ∧
  ∃ (L : List Nat) (v : Value), L.Perm l ∧ L.Pairwise ordW ∧ e = .returned (.tuple #[v, .bool true]) ∧ Lists w' v (L.map facts)

/-- A row of slices of facts. -/
structure PRow (w1 : World) (v : Value) (ps : List (Value × Nat)) (wr : World) : Prop where
  own : wr.ownsRow w1.heap.size 22 1 v ps.length (ps.map Prod.fst)
  vals : ∀ p ∈ ps, Ints w1 p.1 (facts p.2)
  keeps : Keeps (fun _ => False) w1 wr

theorem PRow.lists {w1 : World} {v : Value} {ps : List (Value × Nat)} {wr : World} (h : PRow w1 v ps wr) : Lists wr v ((ps.map Prod.snd).map facts) := by
  obtain ⟨ao, cap, hv, hm, hc⟩ := Sl.of_own h.own
  refine ⟨ao, cap, by rw [List.length_map, List.length_map]; exact hv, by rw [List.length_map, List.length_map]; exact hm, fun h0 => ?_⟩
  rw [List.length_map, List.length_map] at h0
  obtain ⟨b, off, ha, hx⟩ := hc h0
  refine ⟨b, off, ha, fun i l hl => ?_⟩
  rw [List.getElem?_map, List.getElem?_map] at hl
  cases hp : ps[i]? with
  | none => rw [hp] at hl; cases hl
  | some p =>
    rw [hp] at hl; cases hl
    exact ⟨p.1, hx i p.1 (by rw [List.getElem?_map, hp]; rfl), (h.vals p (List.mem_of_getElem? hp)).keeps0 h.keeps⟩
theorem PRow.cell {w1 : World} {g cap n : Nat} {ps : List (Value × Nat)} {wr : World} (h : PRow w1 (.slice (some ⟨g, 0, none⟩) n cap) ps wr) {i : Nat} {p : Value × Nat} (hp : ps[i]? = some p) : wr.cell? ⟨g, i, none⟩ = some p.1 := by
  have := World.ownsRow.cells h.own (g := g) rfl i p.1 (by rw [List.getElem?_map, hp]; rfl)
  have hadd : (⟨g, 0, none⟩ : Addr).add i = ⟨g, i, none⟩ := by unfold Addr.add; split <;> simp_all
  rwa [hadd] at this
theorem PRow.drew {w1 : World} {v : Value} {ps : List (Value × Nat)} {wr wq : World} (h : PRow w1 v ps wr) (hk : Keeps (fun _ => False) wr wq) : PRow w1 v ps wq := ⟨hk.ownsRow h.own (fun _ _ h => h), h.vals, h.keeps.trans hk⟩
/-- Two cells of the row stored. -/
theorem PRow.swap {w1 : World} {g cap n : Nat} {P S : List (Value × Nat)} {p q : Value × Nat} {wr : World} (hn : n = (P ++ p :: q :: S).length) (h : PRow w1 (.slice (some ⟨g, 0, none⟩) n cap) (P ++ p :: q :: S) wr) {k : Nat} (hk : P.length = k) :
    PRow w1 (.slice (some ⟨g, 0, none⟩) n cap) (P ++ q :: p :: S) ((wr.setCell ⟨g, k + 1, none⟩ p.1).setCell ⟨g, k, none⟩ q.1) := by
  subst hn
  have h1 := (h.own.stored (k + 1) p.1).1
  have h2 := (h1.stored k q.1).1
  have hl : (P ++ p :: q :: S).length = (P ++ q :: p :: S).length := by simp
  have hg : w1.heap.size ≤ g := (World.ownsRow.lt h.own g rfl).1
  refine ⟨?_, fun r hr => h.vals r ?_, h.keeps.trans' (((Keeps.refl (fun b => b = g) wr).setCell (p := ⟨g, k + 1, none⟩) (.inl rfl) _).setCell (p := ⟨g, k, none⟩) (.inl rfl) _) (fun b hb => .inr (by omega))⟩
  · have e : (((P ++ p :: q :: S).map Prod.fst).set (k + 1) p.1).set k q.1 = (P ++ q :: p :: S).map Prod.fst := by
      rw [List.map_append, List.map_cons, List.map_cons, set_two (by rw [List.length_map]; exact hk), List.map_append, List.map_cons, List.map_cons]
    rw [← e, ← hl]
    exact h2
  · simp only [List.mem_append, List.mem_cons] at hr ⊢
    rcases hr with hr | hr | hr | hr
    · exact .inl hr
    · exact .inr (.inr (.inl hr))
    · exact .inr (.inl hr)
    · exact .inr (.inr (.inr hr))

theorem ins_perm {P S ps : List (Value × Nat)} {u : Value} {x i : Nat} {l : List Nat} (h : P ++ S = ps) (hp : (ps.map Prod.snd).Perm (l.take i)) (hx : l.take (i + 1) = l.take i ++ [x]) : ((P ++ (u, x) :: S).map Prod.snd).Perm (l.take (i + 1)) := by
  rw [hx, List.map_append, List.map_cons]
  refine List.perm_middle.trans ?_
  refine (List.Perm.cons x ?_).trans (List.perm_append_singleton x _).symm
  rw [← List.map_append, h]
  exact hp

end Go.Proofs.Ytdonadeodioplaa

namespace Go.Proofs.Ytdonadeodioplaa
open Go.RowKit

/-- A row of slices of facts, each in memory of its own. -/
structure SRow (W : World) (base : Nat) (v : Value) (ws : List Nat) (vs : List Value) : Prop where
  out : W.ownsRow base 22 1 v ws.length vs
  st : ∀ (i : Nat) (x : Nat), ws[i]? = some x → ∃ u, vs[i]? = some u ∧ Ints W u (facts x) ∧ (∀ k, u.ownBlock = some k → v.ownBlock ≠ some k) ∧ ∀ k, u.ownBlock = some k → base ≤ k ∧ k < W.heap.size

theorem SRow.keepsS {S : Nat → Prop} {W W' : World} {base : Nat} {v : Value} {ws : List Nat} {vs : List Value} (h : SRow W base v ws vs) (hk : Keeps S W W') (hs : ∀ k, S k → k < base) : SRow W' base v ws vs :=
  ⟨hk.ownsRow h.out (fun k hv hS => by have := (World.ownsRow.lt h.out k hv).1; have := hs k hS; omega), fun i x hx => by
    obtain ⟨u, h1, h2, h3, h4⟩ := h.st i x hx
    exact ⟨u, h1, h2.keepsS hk (fun _ k hk' hS => by have := (h4 k hk').1; have := hs k hS; omega), h3, fun k hk' => ⟨(h4 k hk').1, Nat.lt_of_lt_of_le (h4 k hk').2 hk.size⟩⟩⟩
theorem SRow.keeps0 {W W' : World} {base : Nat} {v : Value} {ws : List Nat} {vs : List Value} (h : SRow W base v ws vs) (hk : Keeps (fun _ => False) W W') : SRow W' base v ws vs := h.keepsS hk (fun _ h => h.elim)
theorem SRow.snoc {W7 W8 : World} {base : Nat} {v vo' vn : Value} {Q : List Nat} {vs : List Value} {y : Nat} (h : SRow W7 base v Q vs) (hn : Ints W7 vn (facts y))
    (hnb : ∀ k, vn.ownBlock = some k → v.ownBlock ≠ some k) (hnl : ∀ k, vn.ownBlock = some k → base ≤ k ∧ k < W7.heap.size)
    (K78 : Keeps (fun k => v.ownBlock = some k) W7 W8) (ho : W8.ownsRow base 22 1 vo' (Q.length + 1) (vs ++ [vn])) (hg : ∀ k, vo'.ownBlock = some k → v.ownBlock = some k ∨ W7.heap.size ≤ k) : SRow W8 base vo' (Q ++ [y]) (vs ++ [vn]) := by
  have hsz := K78.size
  have hvl : vs.length = Q.length := by simpa using h.out.1
  refine ⟨by rw [List.length_append]; exact ho, fun i x hx => ?_⟩
  have key : ∀ u, Ints W7 u (facts x) → (∀ k, u.ownBlock = some k → v.ownBlock ≠ some k) → (∀ k, u.ownBlock = some k → base ≤ k ∧ k < W7.heap.size) → Ints W8 u (facts x) ∧ (∀ k, u.ownBlock = some k → vo'.ownBlock ≠ some k) ∧ ∀ k, u.ownBlock = some k → base ≤ k ∧ k < W8.heap.size := fun u h1 h2 h3 =>
    ⟨h1.keepsS K78 (fun _ k hk e => h2 k hk e), fun k hk e => by
      rcases hg k e with h4 | h4
      · exact h2 k hk h4
      · have := (h3 k hk).2; omega, fun k hk => ⟨(h3 k hk).1, Nat.lt_of_lt_of_le (h3 k hk).2 hsz⟩⟩
  by_cases hlt : i < Q.length
  · rw [List.getElem?_append_left hlt] at hx
    obtain ⟨u, h1, h2, h3, h4⟩ := h.st i x hx
    exact ⟨u, by rw [List.getElem?_append_left (by omega)]; exact h1, key u h2 h3 h4⟩
  · have hil := (List.getElem?_eq_some_iff.1 hx).1
    have hi : i = Q.length := by simp at hil; omega
    subst hi
    rw [List.getElem?_append_right (Nat.le_refl _)] at hx
    simp at hx; subst hx
    exact ⟨vn, by rw [← hvl, List.getElem?_append_right (Nat.le_refl _)]; simp, key vn hn hnb hnl⟩
theorem SRow.lists {W : World} {base : Nat} {v : Value} {L : List Nat} {vs : List Value} (h : SRow W base v L vs) : Lists W v (L.map facts) := by
  obtain ⟨ao, cap, hv, hm, hc⟩ := Sl.of_own h.out
  refine ⟨ao, cap, by rw [List.length_map]; exact hv, by rw [List.length_map]; exact hm, fun h0 => ?_⟩
  rw [List.length_map] at h0
  obtain ⟨b, off, ha, hx⟩ := hc h0
  refine ⟨b, off, ha, fun i l hl => ?_⟩
  rw [List.getElem?_map] at hl
  cases hy : L[i]? with
  | none => rw [hy] at hl; cases hl
  | some y =>
    rw [hy] at hl; cases hl
    obtain ⟨u, h1, h2, _⟩ := h.st i y hy
    exact ⟨u, hx i u h1, h2⟩

def ExplPost (t : Tsk) (w : World) (e : Ending) (w' : World) : Prop := Keeps (fun _ => False) w w' ∧
  ((∃ c i, c ≠ 0 ∧ expF t = (c, i) ∧ e = .returned (.tuple #[.slice none 0 0, fltV c i])) ∨
   (t.Ok ∧ ∃ (l ws : List Nat) (v : Value), explored t = some l ∧ ws.Perm l ∧ ws.Pairwise ordW ∧ e = .returned (.tuple #[v, fltV 0 0]) ∧ Lists w' v (ws.map facts)))

set_option maxRecDepth 100000 in
set_option maxHeartbeats 2000000 in
theorem explore_any (w : World) (vi vg vo : Value) (t : Tsk) (h : TaskAt w vi vg vo t) :
    Calls Try.prog 14 #[.agg #[.int .i64 t.n, vi, vg, vo]] w (ExplPost t w) := by
  obtain ⟨j0, hj0, jz0, jz1, jz2⟩ := info_parts Try.info22
  obtain ⟨ai, ci, h1, _⟩ := h.init.form
  obtain ⟨ag, cg, h2, _⟩ := h.goal.form
  obtain ⟨ao, co, h3, hmo⟩ := h.ops.form
  subst h1 h2 h3
  have K1 := (Keeps.refl (fun _ => False) w).alloc (.cells #[.int .i64 t.n, .slice ai t.init.length ci, .slice ag t.goal.length cg, .slice ao t.ops.length co] 25)
  have HT := h.keeps0 (K1.alloc (.cells #[.int .i64 0, .int .i64 0] 30))
  have HB := (Four.new w (.int .i64 t.n) (.slice ai t.init.length ci) (.slice ag t.goal.length cg) (.slice ao t.ops.length co) 25).keeps0 ((Keeps.refl _ _).alloc (.cells #[.int .i64 0, .int .i64 0] 30))
  have HF : Flt w ((w.alloc (.cells #[.int .i64 t.n, .slice ai t.init.length ci, .slice ag t.goal.length cg, .slice ao t.ops.length co] 25)).alloc (.cells #[.int .i64 0, .int .i64 0] 30)) (w.heap.size + 1) 30 :=
    ⟨by have := heap_alloc_new (w.alloc (.cells #[.int .i64 t.n, .slice ai t.init.length ci, .slice ag t.goal.length cg, .slice ao t.ops.length co] 25)) (.cells #[.int .i64 0, .int .i64 0] 30); rwa [World.size_alloc] at this, by omega, K1.alloc _⟩
  replace HT := Lib.hid HT; replace HB := Lib.hid HB; replace HF := Lib.hid HF
  clear h K1
  go_enter Try.func14, Try.ntmps14
  go_upto_region 1 with fail
  generalize ((w.alloc (.cells #[.int .i64 t.n, .slice ai t.init.length ci, .slice ag t.goal.length cg, .slice ao t.ops.length co] 25)).alloc (.cells #[.int .i64 0, .int .i64 0] 30)) = w1 at HT HB HF ⊢
  have hbx := HB.out.lt
  obtain ⟨d0, d1, d2, d3⟩ := HB.out
  go_wp2_with fail
  refine (checked_any _ _ _ _ t HT.out).mono ?_; rintro e w2 ⟨hk, hr⟩
  have HF2 := Lib.hid (HF.out.keeps0 hk)
  clear d0 d1 d2 d3 hk
  have hb0 := HF2.out.keep.size
  rcases hr with ⟨hc, rfl⟩ | ⟨hok, hx, rfl⟩ | ⟨hok, l, hx, b, v, vl, ws, rfl, hw, hperm, hord, hown⟩
  · have hc2 : ((taskFault t).1 == 0) = false := by simpa using hc
    have HE := Lib.hid (show expF t = taskFault t by unfold expF; rw [if_neg hc])
    have HC := Lib.hid hc
    clear hc
    generalize hfe : taskFault t = f at hc2 HC HE ⊢
    clear hfe
    have HF3 := Lib.hid (HF2.out.keeps0 ((Keeps.refl _ _).alloc (.cells #[.int .i64 f.1, .int .i64 f.2] 30)))
    obtain ⟨e0, e1, z0, z1, hF⟩ := HF3.out.cells
    go_wp2_with fail
    go_region
    all_goals
      go_wp2
      refine bodyPost_ret (results_tmp_cell _ _ (w.heap.size + 1) 30 #[.int .i64 f.1, .int .i64 f.2] (0, 0) _ rfl rfl (((Keeps.refl (fun _ => False) _).drew).heap (HF3.out.set (.int .i64 f.1) (.int .i64 f.2)).1 (fun h => h)) Try.underlying30 rfl (by kernel_rfl)) rfl ?_
      exact ⟨((HF3.out.set (.int .i64 f.1) (.int .i64 f.2)).2).drew, .inl ⟨f.1, f.2, HC.out, HE.out, rfl⟩⟩
  · have HE := Lib.hid (show expF t = (10, -7) by unfold expF; rw [if_pos (taskFault_zero.2 hok), hx])
    clear hx hok
    have HF3 := Lib.hid (HF2.out.keeps0 ((Keeps.refl _ _).alloc (.cells #[.int .i64 10, .int .i64 (-7)] 30)))
    obtain ⟨e0, e1, z0, z1, hF⟩ := HF3.out.cells
    go_wp2_with fail
    go_region
    all_goals
      go_wp2
      refine bodyPost_ret (results_tmp_cell _ _ (w.heap.size + 1) 30 #[.int .i64 10, .int .i64 (-7)] (0, 0) _ rfl rfl (((Keeps.refl (fun _ => False) _).drew).heap (HF3.out.set (.int .i64 10) (.int .i64 (-7))).1 (fun h => h)) Try.underlying30 rfl (by kernel_rfl)) rfl ?_
      exact ⟨((HF3.out.set (.int .i64 10) (.int .i64 (-7))).2).drew, .inl ⟨10, -7, by decide, HE.out, rfl⟩⟩
  · have HX := Lib.hid hx; have OK := Lib.hid hok; have PERM := Lib.hid hperm; have ORD := Lib.hid (show ws.Pairwise ordW from hord)
    have hfew : ws.length ≤ 2000 := by rw [hperm.length_eq]; exact (reached_some hx).2.1
    have KA := (Keeps.refl (fun _ => False) w2).alloc (.cells #[.int .i64 0, .int .i64 0] 30)
    have HV := Lib.hid (show Sl _ vl ws.length (ws.map encW) from (Sl.of_own hown).keeps0 KA)
    have HF3 := Lib.hid (HF2.out.keeps0 KA)
    obtain ⟨av, cv, hav⟩ := ownsRow_form1 hown
    subst hav
    clear hx hok hw KA hperm hord hown
    have F0 := heap_alloc_new w2 (.cells #[.int .i64 0, .int .i64 0] 30)
    go_upto_region 2 with fail
    generalize w2.alloc (.cells #[.int .i64 0, .int .i64 0] 30) = w3 at HV HF3 F0 ⊢
    have HCV := Lib.hid (Sl.cellN HV.out rfl)
    have f0 : w3.cell? ⟨w2.heap.size, 0, none⟩ = some (.int .i64 0) := by rw [cell_of_blk F0]; rfl
    have f1 : w3.cell? ⟨w2.heap.size, 1, none⟩ = some (.int .i64 0) := by rw [cell_of_blk F0]; rfl
    clear F0
    obtain ⟨e0, e1, z0, z1, hF⟩ := HF3.out.cells
    have hb2 := HF3.out.keep.size
    have hbF := HF3.out.blk
    go_wp2_with fail
    go_loopw [7, 22] (fun v7 v22 wr => ∃ (i : Nat) (vs : List Value), i ≤ ws.length ∧ v22 = .int .i64 (i : Int) ∧ SRow wr w3.heap.size v7 (ws.take i) vs ∧ Keeps (fun _ => False) w3 wr) (fun _ v22 _ => ws.length - (intOf v22).toNat)
    case atStart => exact ⟨0, [], Nat.zero_le _, rfl, ⟨World.ownsRow_nil _ _ _ _, fun i x hx => by simp at hx⟩, Keeps.refl _ _⟩
    case round =>
      obtain ⟨i, vs, hi, rfl, hrow, hkr⟩ := hrel
      have HR := Lib.hid hrow; have HKR := Lib.hid hkr
      have hsz := hkr.size
      have HTL := Lib.hid (show (ws.take i).length = i by rw [List.length_take]; omega)
      obtain ⟨ar, cr, har⟩ := ownsRow_form1 hrow.out
      rw [HTL.out] at har
      subst har
      clear hrow hkr
      by_cases hlt : i < ws.length
      · obtain ⟨bl, ol, rfl, hx'⟩ := HCV.out (by omega)
        obtain ⟨x, hx⟩ : ∃ x, ws[i]? = some x := ⟨_, List.getElem?_eq_getElem hlt⟩
        have hu := HKR.out.cell (hx' i (.int .u32 (x : Int)) (by rw [List.getElem?_map, hx]; rfl)) (fun h => h)
        have HTK := Lib.hid (take_getS hx)
        clear hx' hx
        go_wp2_with fail
        refine (facts_any _ x).mono ?_; rintro e w4 ⟨vf, rfl, hown, hk1, hd1⟩
        obtain ⟨af, cf, haf⟩ := ownsRow_form1 hown
        subst haf
        have HO := Lib.hid hown; have HK1 := Lib.hid hk1
        have HR4 := Lib.hid (HR.out.keeps0 hk1)
        have hs4 := hk1.size
        have HNL := Lib.hid (show ∀ k, (Value.slice af (facts x).length cf).ownBlock = some k → w3.heap.size ≤ k ∧ k < w4.heap.size from fun k hk => by have := World.ownsRow.lt hown k hk; omega)
        have HNB := Lib.hid (show ∀ k, (Value.slice af (facts x).length cf).ownBlock = some k → (Value.slice ar i cr).ownBlock ≠ some k from fun k hk e => by
          have h1 := (World.ownsRow.lt hown k hk).1
          have h2 := (World.ownsRow.lt HR.out.out k (by rw [HTL.out] at *; exact e)).2
          omega)
        clear hown hk1 hd1 hu
        go_wp2_with (at_builtin; refine wpList_append_d rfl _ _ _ rfl w3.heap.size 22 j0 _ 1 24 Try.underlying28 hj0 jz0 jz1 jz2 rfl (by omega) _ i vs (by rfl) (World.ownsRow.alloc (by have h := HR4.out.out; rw [HTL.out] at h; exact h) (.cells #[.slice af (facts x).length cf] 22)) ⟨w4.heap.size, 0, none⟩ 1 1 [.slice af (facts x).length cf] (by rfl) (by rfl) (World.news_of_block (cs := #[.slice af (facts x).length cf]) (t := 22) (fr := (0, 0)) (heap_alloc_new _ _)) (by simp [Value.oneCell']) (by omega) (by unfold maxLen; omega) (by omega) (by simp; omega) (w4.heap.size + 1) (by simp) ?_)
        intro gg cap2 w5 hown hgrow hat hlt5 hd5
        have hk5 : Keeps (fun k => (Value.slice ar i cr).ownBlock = some k) w4 w5 := ((Keeps.refl _ w4).alloc _).grown hgrow (fun k hk => .inl hk)
        have HROW : Hid (SRow w5 w3.heap.size (.slice (some ⟨gg, 0, none⟩) (i + 1) cap2) (ws.take (i + 1)) (vs ++ [.slice af (facts x).length cf])) := by
          unfold Hid
          rw [HTK.out]
          exact SRow.snoc HR4.out (Ints.of_own HO.out) HNB.out HNL.out hk5 (by rw [HTL.out]; exact hown) (fun k hk => by
            simp [Value.ownBlock] at hk
            subst hk
            rcases hat with h | h
            · exact .inl h
            · exact .inr (by omega))
        have HK5 := Lib.hid (own_grown (by have h := HR4.out.out; rw [HTL.out] at h; exact h) (HKR.out.trans HK1.out) ((Keeps.refl _ w4).alloc (.cells #[.slice af (facts x).length cf] 22)) hgrow)
        clear hown hgrow hat hd5 hk5
        go_wp2_with fail
        go_roundw
        case rel => exact ⟨i + 1, _, by omega, by go_num, HROW.out, HK5.out⟩
        case measure => simp only [intOf]; omega
      · have hie : i = ws.length := by omega
        subst hie
        have HR2 := Lib.hid (show SRow wr w3.heap.size (.slice ar ws.length cr) ws vs by have h := HR.out; rw [List.take_length] at h; exact h)
        have HFr := Lib.hid (HF3.out.keeps0 HKR.out)
        clear e0 e1 z0 z1 f0 f1
        obtain ⟨e0, e1, z0, z1, hF2⟩ := HFr.out.cells
        go_wp2_with fail
        refine bodyPost_ret (results_tmp_cell _ _ (w.heap.size + 1) 30 #[.int .i64 0, .int .i64 0] (0, 0) _ rfl rfl (HFr.out.set (.int .i64 0) (.int .i64 0)).1 Try.underlying30 rfl (by kernel_rfl)) rfl ?_
        refine ⟨(HFr.out.set (.int .i64 0) (.int .i64 0)).2, .inr ⟨OK.out, l, ws, _, HX.out, PERM.out, ORD.out, rfl, ?_⟩⟩
        exact (HR2.out.keepsS (keeps_pair (w.heap.size + 1) _ _) (fun k hk => by omega)).lists

end Go.Proofs.Ytdonadeodioplaa

namespace Go.Proofs.Ytdonadeodioplaa
open Go.RowKit Go.Shelf
attribute [local go_sem] Oper.semAt_some

def StepsPost (t : Tsk) (w : World) (e : Ending) (w' : World) : Prop := Keeps (fun _ => False) w w' ∧
  ((∃ c i, c ≠ 0 ∧ expF t = (c, i) ∧ e = .returned (.tuple #[.slice none 0 0, fltV c i])) ∨
   (t.Ok ∧ ∃ (l ws : List Nat) (v : Value) (i : Nat), explored t = some l ∧ ws.Perm l ∧ ws.Pairwise ordW ∧ (tree (wordsOf t.ops) (wd t.init) i).length ≤ i ∧
     e = .returned (.tuple #[v, fltV 0 0]) ∧ Ints w' v (ws.map (depT (tree (wordsOf t.ops) (wd t.init) i)))))

set_option maxRecDepth 100000 in
set_option maxHeartbeats 4000000 in
theorem spsteps_in (we : World) (vi vg vo : Value) (t : Tsk) (h : TaskAt we vi vg vo t) :
    CallsIn Fence.wide 9 Try.prog 22 #[.agg #[.int .i64 t.n, vi, vg, vo]] we (StepsPost t we) := by
  have hmm := @run_makeMap Try.prog
  obtain ⟨i0, hi0, hz0, hz1, hz2⟩ := info_parts Try.info_u32
  obtain ⟨j0, hj0, jz0, jz1, jz2⟩ := info_parts Try.info3
  obtain ⟨ai, ci, h1, _⟩ := h.init.form
  obtain ⟨ag, cg, h2, _⟩ := h.goal.form
  obtain ⟨ao, co, h3, hmo⟩ := h.ops.form
  subst h1 h2 h3
  have K1 := (Keeps.refl (fun _ => False) we).alloc (.cells #[.int .i64 t.n, .slice ai t.init.length ci, .slice ag t.goal.length cg, .slice ao t.ops.length co] 25)
  have HT := h.keeps0 (K1.alloc (.cells #[.int .i64 0, .int .i64 0] 30))
  have HB := (Four.new we (.int .i64 t.n) (.slice ai t.init.length ci) (.slice ag t.goal.length cg) (.slice ao t.ops.length co) 25).keeps0 ((Keeps.refl _ _).alloc (.cells #[.int .i64 0, .int .i64 0] 30))
  have HF : Flt we ((we.alloc (.cells #[.int .i64 t.n, .slice ai t.init.length ci, .slice ag t.goal.length cg, .slice ao t.ops.length co] 25)).alloc (.cells #[.int .i64 0, .int .i64 0] 30)) (we.heap.size + 1) 30 :=
    ⟨by have := heap_alloc_new (we.alloc (.cells #[.int .i64 t.n, .slice ai t.init.length ci, .slice ag t.goal.length cg, .slice ao t.ops.length co] 25)) (.cells #[.int .i64 0, .int .i64 0] 30); rwa [World.size_alloc] at this, by omega, K1.alloc _⟩
  replace HT := Lib.hid HT; replace HB := Lib.hid HB; replace HF := Lib.hid HF
  clear h K1
  have hbx := HB.out.lt
  obtain ⟨d0, d1, d2, d3⟩ := HB.out
  refine callsIn_of_wp_marks Try.func22 rfl trivial ?_ rfl
  simp only [Try.ntmps22, List.size_toArray, List.length_cons, List.length_nil, Nat.reduceAdd, Nat.reduceSub, Array.replicate_succ, Array.replicate_zero, List.push_toArray, List.append_toArray, List.nil_append, List.cons_append]
  gi_wp2
  refine ⟨trivial, ?_⟩
  refine (callsIn_wide.2 (checked_any _ _ _ _ t HT.out)).mono ?_; rintro e w2 ⟨hk, hr⟩
  have HF2 := Lib.hid (HF.out.keeps0 hk)
  clear d0 d1 d2 d3 hbx
  have hb0 := HF2.out.keep.size
  rcases hr with ⟨hc, rfl⟩ | ⟨hok, hx, rfl⟩ | ⟨hok, l, hx, b, v, vl, ws, rfl, hw, hperm, hord, hown⟩
  · have hc2 : ((taskFault t).1 == 0) = false := by simpa using hc
    have HE := Lib.hid (show expF t = taskFault t by unfold expF; rw [if_neg hc])
    have HC := Lib.hid hc
    clear hc hk
    generalize hfe : taskFault t = f at hc2 HC HE ⊢
    clear hfe
    have HF3 := Lib.hid (HF2.out.keeps0 ((Keeps.refl _ _).alloc (.cells #[.int .i64 f.1, .int .i64 f.2] 30)))
    obtain ⟨e0, e1, z0, z1, hF⟩ := HF3.out.cells
    gi_wp2
    gi_region
    all_goals
      gi_wp2
      refine leaves_marks (B := we.heap.size) (Marks.nil _ _) (fun W' hk' => ?_)
      have HX := (((Keeps.refl (fun _ => False) _).drew).heap (HF3.out.set (.int .i64 f.1) (.int .i64 f.2)).1 (fun h => h))
      exact ⟨_, results_tmp_cell _ _ (we.heap.size + 1) 30 #[.int .i64 f.1, .int .i64 f.2] (0, 0) _ rfl rfl (hk'.heap HX (fun hs => cells_not_deferred HX hs.2)) Try.underlying30 rfl (by kernel_rfl), ((HF3.out.set (.int .i64 f.1) (.int .i64 f.2)).2).drew.trans' hk' (fun i hi => .inr hi.1), .inl ⟨f.1, f.2, HC.out, HE.out, rfl⟩⟩
  · have HE := Lib.hid (show expF t = (10, -7) by unfold expF; rw [if_pos (taskFault_zero.2 hok), hx])
    clear hx hok hk
    have HF3 := Lib.hid (HF2.out.keeps0 ((Keeps.refl _ _).alloc (.cells #[.int .i64 10, .int .i64 (-7)] 30)))
    obtain ⟨e0, e1, z0, z1, hF⟩ := HF3.out.cells
    gi_wp2
    gi_region
    all_goals
      gi_wp2
      refine leaves_marks (B := we.heap.size) (Marks.nil _ _) (fun W' hk' => ?_)
      have HX := (((Keeps.refl (fun _ => False) _).drew).heap (HF3.out.set (.int .i64 10) (.int .i64 (-7))).1 (fun h => h))
      exact ⟨_, results_tmp_cell _ _ (we.heap.size + 1) 30 #[.int .i64 10, .int .i64 (-7)] (0, 0) _ rfl rfl (hk'.heap HX (fun hs => cells_not_deferred HX hs.2)) Try.underlying30 rfl (by kernel_rfl), ((HF3.out.set (.int .i64 10) (.int .i64 (-7))).2).drew.trans' hk' (fun i hi => .inr hi.1), .inl ⟨10, -7, by decide, HE.out, rfl⟩⟩
  · have HX0 := Lib.hid hx; have OK := Lib.hid hok; have PERM := Lib.hid hperm; have ORD := Lib.hid (show ws.Pairwise ordW from hord)
    have hfew : ws.length ≤ 2000 := by rw [hperm.length_eq]; exact (reached_some hx).2.1
    have KA := (Keeps.refl (fun _ => False) w2).alloc (.cells #[.int .i64 0, .int .i64 0] 30)
    have HV := Lib.hid (show Sl _ vl ws.length (ws.map encW) from (Sl.of_own hown).keeps0 KA)
    have HWA := Lib.hid (hw.keeps0 KA)
    have HF3 := Lib.hid (HF2.out.keeps0 KA)
    have F0 := heap_alloc_new w2 (.cells #[.int .i64 0, .int .i64 0] 30)
    have f0 : (w2.alloc (.cells #[.int .i64 0, .int .i64 0] 30)).cell? ⟨w2.heap.size, 0, none⟩ = some (.int .i64 0) := by rw [cell_of_blk F0]; rfl
    have f1 : (w2.alloc (.cells #[.int .i64 0, .int .i64 0] 30)).cell? ⟨w2.heap.size, 1, none⟩ = some (.int .i64 0) := by rw [cell_of_blk F0]; rfl
    obtain ⟨av, cv, hav⟩ := ownsRow_form1 hown
    subst hav
    clear hx hok hw KA hperm hord hown hk F0
    have hops : WopsOk (wordsOf t.ops) := wops_ok OK.out
    have hmany : (wordsOf t.ops).length ≤ 40 := by unfold wordsOf; rw [List.length_map]; exact OK.out.few
    have hst : wd t.init < 4294967296 := wd_lt32 (by have := OK.out.n1; omega : t.n ≤ 32) OK.out.init
    have HL0 : Hid (reached (wordsOf t.ops) (wd t.init) = some l) := HX0
    gi_wp2
    obtain ⟨w, hW⟩ : ∃ w, w2.alloc (.cells #[.int .i64 0, .int .i64 0] 30) = w := ⟨_, rfl⟩
    have hz : w.heap.size = w2.heap.size + 1 := by rw [← hW]; simp
    rw [hW] at HV HWA HF3 ⊢
    rw [← hz]
    clear hW hz f0 f1
    generalize w2.heap.size = bf
    generalize hstx : wd t.init = st at hst HL0 HWA ⊢
    generalize hopx : wordsOf t.ops = ops at hops hmany HL0 HWA ⊢
    have HSTX := Lib.hid hstx; have HOPX := Lib.hid hopx
    clear hstx hopx
    generalize wd t.goal = g0 at HWA
    obtain ⟨base, HWA⟩ : ∃ base, Hid (WordsAt w base b st g0 v ops) := ⟨_, HWA⟩
    have hbase : we.heap.size ≤ w.heap.size := HF3.out.keep.size
    refine ⟨trivial, ?_⟩
    have kM := (Keeps.refl (fun _ => False) w).alloc (.map #[] 0)
    refine (callsIn_wide.2 (start_any _ _ _ _ _ _ _ (HWA.out.keeps0 kM))).mono ?_; rintro e w1 ⟨rfl, rfl⟩
    have hm0 : IMap (w.alloc (.map #[] 0)) w.heap.size .u32 [] := IMap.made w .u32
    obtain ⟨W4, hrun, hI4, hk4⟩ := hm0.run_update_new (P := Try.prog) Try.underlying77 Try.underlying75 (x := (st : Int)) (by simp) (.int .i64 0)
    have hkM : Keeps (fun _ => False) w W4 := kM.trans' hk4 (fun i e => .inr (by omega))
    gi_wp2
    refine ⟨trivial, ?_⟩
    refine (callsIn_wide.2 (start_any _ _ _ _ _ _ _ (HWA.out.keeps0 (hkM.alloc (.cells #[.map (some w.heap.size)] 77))))).mono ?_; rintro e w1 ⟨rfl, rfl⟩
    gi_wp2
    have hS : DepS w (W4.heap.size + 1 + 1) w.heap.size W4.heap.size (tree ops st 0) [st] (.slice (some ⟨W4.heap.size + 1, 0, none⟩) 1 1) (((W4.alloc (.cells #[.map (some w.heap.size)] 77)).alloc (.cells #[.int .u32 (st : Int)] 75)).alloc (.cells #[.slice (some ⟨W4.heap.size + 1, 0, none⟩) 1 1] 72)) := by
      have hsz : w.heap.size + 1 ≤ W4.heap.size := by have := hk4.size; simpa using this
      have kA := (Keeps.refl (fun _ => False) W4).alloc (.cells #[.map (some w.heap.size)] 77)
      have kB := (Keeps.refl (fun _ => False) (W4.alloc (.cells #[.map (some w.heap.size)] 77))).alloc (.cells #[.int .u32 (st : Int)] 75)
      have kC := (Keeps.refl (fun _ => False) ((W4.alloc (.cells #[.map (some w.heap.size)] 77)).alloc (.cells #[.int .u32 (st : Int)] 75))).alloc (.cells #[.slice (some ⟨W4.heap.size + 1, 0, none⟩) 1 1] 72)
      have n1 := Boxed.new ((W4.alloc (.cells #[.map (some w.heap.size)] 77)).alloc (.cells #[.int .u32 (st : Int)] 75)) 72 (.slice (some ⟨W4.heap.size + 1, 0, none⟩) 1 1)
      rw [World.size_alloc, World.size_alloc] at n1
      have nl := Tail.new (W4.alloc (.cells #[.map (some w.heap.size)] 77)) w.heap.size 75 (.int .u32 (st : Int)) (by simp; omega)
      rw [World.size_alloc] at nl
      have n3 := Boxed.new W4 77 (.map (some w.heap.size))
      refine ⟨hkM.trans (kA.trans (kB.trans kC)), n1, kC.heap (kB.heap n3 (fun h => h)) (fun h => h), nl.keeps kC (fun _ _ h => h), ?_, by omega, Nat.le_refl _, by omega⟩
      have h4 : IMap W4 w.heap.size .u32 (depL (tree ops st 0)) := by simpa [depL, tree] using hI4
      exact h4.keeps (kA.trans (kB.trans kC)) (fun h => h)
    have HS := Lib.hid hS
    clear hS hI4 hm0 hk4 hkM kM
    generalize (((W4.alloc (.cells #[.map (some w.heap.size)] 77)).alloc (.cells #[.int .u32 (st : Int)] 75)).alloc (.cells #[.slice (some ⟨W4.heap.size + 1, 0, none⟩) 1 1] 72)) = W5 at HS ⊢
    generalize W4.heap.size + 1 + 1 = b1 at HS ⊢
    generalize W4.heap.size + 1 = ba at HS ⊢
    generalize W4.heap.size = b3 at HS ⊢
    clear hrun
    obtain ⟨b2, hb2⟩ : ∃ b2, w.heap.size = b2 := ⟨_, rfl⟩
    have HSB : Hid (DepS w b1 b2 b3 (tree ops st 0) [st] (.slice (some ⟨ba, 0, none⟩) 1 1) W5) := by rw [← hb2]; exact HS
    clear HS hb2
    refine wpIn_loop (fun a' wr => ∃ (ds : List Deferred) (i : Nat) (q : List Nat) (vl : Value), DepLoop ops st w b1 b2 b3 i q vl ds wr ∧ i ≤ (tree ops st i).length ∧
        ∃ u : Nat → Value, a' = { tmps := #[.agg #[.int .i64 t.n, .slice ai t.init.length ci, .slice ag t.goal.length cg, .slice ao t.ops.length co], .pointer (some ⟨we.heap.size, 0, none⟩), .slice none 0 0, .pointer (some ⟨we.heap.size + 1, 0, none⟩), .pointer (some ⟨b, 0, none⟩), .slice av ws.length cv, .pointer (some ⟨bf, 0, none⟩), .pointer (some ⟨b3, 0, none⟩), .pointer (some ⟨b1, 0, none⟩), u 9, u 10, u 11, u 12, u 13, u 14, u 15, u 16, u 17, u 18, u 19, u 20, u 21, u 22, u 23, u 24, u 25, u 26, u 27, u 28, u 29, u 30, u 31, u 32, u 33, u 34, u 35, u 36, u 37, u 38, u 39, u 40, u 41, u 42, u 43, u 44, u 45, u 46, u 47, u 48, u 49, u 50, u 51, u 52, u 53, u 54, u 55, u 56, u 57, u 58, u 59, u 60, u 61, u 62, u 63, u 64, u 65, u 66, u 67, u 68, u 69, u 70, u 71, u 72, u 73, u 74, u 75, u 76, u 77, u 78, u 79, u 80], defers := ds })
      (fun _ W => l.length + 1 - (mapLen W b2 - boxLen W b1)) ?start ?round
    case start => exact ⟨[], 0, [st], _, ⟨HSB.out, rfl, Marks.nil _ _⟩, by simp, ex_fnD rfl⟩
    case round =>
      rintro a wo ⟨ds, i, q, vl, hL, hil, u, rfl⟩
      have HL := Lib.hid hL
      clear hL HSB
      have x1c := HL.out.s.x1.cell
      have x1f := HL.out.s.x1.frozen
      have x3c := HL.out.s.x3.cell
      have x1l := HL.out.s.x1.lt
      have x3l := HL.out.s.x3.lt
      obtain ⟨gl, off, cap, hv, hqc, hcm, hgb, hgl⟩ := HL.out.s.line.form
      subst hv
      rw [List.length_map] at *
      by_cases hq : q = []
      · subst hq
        have hlen : (tree ops st i).length ≤ i := by
          have h := congrArg List.length HL.out.q
          unfold keysT at h
          simp at h; omega
        have HV2 := Lib.hid (HV.out.keeps0 HL.out.s.keep); have HF5 := Lib.hid (HF3.out.keeps0 HL.out.s.keep); have HM5 := Lib.hid HL.out.marks
        have HMAP := Lib.hid HL.out.s.map; have HX3 := Lib.hid HL.out.s.x3; have HLEN := Lib.hid hlen
        have HCV := Lib.hid (Sl.cellN HV2.out rfl)
        have HIN := Lib.hid (show ∀ x ∈ ws, ∃ e ∈ tree ops st i, e.to = x from fun x hx => (tree_ok ops st i).all hlen (((reached_some HL0.out).2.2.2 x).1 (PERM.out.mem_iff.1 hx)))
        have HND := Lib.hid (tree_ok ops st i).nodup
        clear hlen HL hqc hcm hgb hgl
        gi_wp2
        clear x1c x1f x3c x1l x3l
        gi_loopw [13, 68] (fun v13 v68 wq => ∃ k : Nat, k ≤ ws.length ∧ v68 = .int .i64 (k : Int) ∧ wq.ownsRow wo.heap.size 3 1 v13 k ((ws.take k).map fun x : Nat => Value.int .i64 (depT (tree ops st i) x)) ∧ Keeps (fun _ => False) wo wq) (fun _ v68 _ => ws.length - (intOf v68).toNat)
        case atStart => exact ⟨0, Nat.zero_le _, rfl, World.ownsRow_nil _ _ _ _, Keeps.refl _ _⟩
        case round =>
          obtain ⟨k, hk, rfl, hrow, hkr⟩ := hrel
          have HR := Lib.hid hrow; have HKR := Lib.hid hkr
          have x3 : Boxed wr b3 _ _ := hkr.heap HX3.out (fun h => h)
          have x3c := x3.cell
          have x3l := x3.lt
          have hsz := hkr.size
          obtain ⟨ar, cr, har⟩ := ownsRow_form1 hrow
          subst har
          clear hrow hkr x3
          by_cases hlt : k < ws.length
          · obtain ⟨bl, ol, rfl, hx'⟩ := HCV.out (by omega)
            obtain ⟨x, hx⟩ : ∃ x, ws[k]? = some x := ⟨_, List.getElem?_eq_getElem hlt⟩
            have hu := HKR.out.cell (hx' k (.int .u32 (x : Int)) (by rw [List.getElem?_map, hx]; rfl)) (fun h => h)
            obtain ⟨e, he, hex⟩ := HIN.out x (List.mem_of_getElem? hx)
            have hlk := ((HMAP.out.keeps HKR.out (fun h => h)).run_lookup_hit (P := Try.prog) Try.underlying77 Try.underlying75 (depL_nodup HND.out) (depL_mem he)).2
            rw [hex] at hlk
            have HTK := Lib.hid (show (ws.take (k + 1)).map (fun x : Nat => Value.int .i64 (depT (tree ops st i) x)) = (ws.take k).map (fun x : Nat => Value.int .i64 (depT (tree ops st i) x)) ++ [.int .i64 (e.path.length : Int)] by
              rw [take_getS hx, List.map_append, ← hex]
              simp only [List.map_cons, List.map_nil]
              rw [depT_eq HND.out he])
            clear hx' hx he hex
            gi_wp2_with (gi_at_builtin; refine wpListIn_append_lies _ rfl (.tmp 72) (.tmp 76) 22 rfl wo.heap.size 3 j0 _ 1 8 Try.underlying22 hj0 jz0 jz1 jz2 rfl (by omega) _ k ((ws.take k).map fun x : Nat => Value.int .i64 (depT (tree ops st i) x)) rfl (World.ownsRow.alloc HR.out (.cells #[.int .i64 (e.path.length : Int)] 3)) ⟨wr.heap.size, 0, none⟩ 1 1 [.int .i64 (e.path.length : Int)] rfl rfl ?hnews ?hone (by omega) (by unfold maxLen; omega) (by omega) (by simp; omega) (wr.heap.size + 1) (by simp) ?_)
            case hnews => exact World.news_of_block (cs := #[.int .i64 (e.path.length : Int)]) (t := 3) (fr := (0, 0)) (heap_alloc_new wr _)
            case hone => simp [Value.oneCell']
            intro g2 cap2 w3 hown hgrow hat hlt3
            have HO := Lib.hid hown
            have HK3 := Lib.hid (own_grown HR.out HKR.out ((Keeps.refl _ wr).alloc (.cells #[.int .i64 (e.path.length : Int)] 3)) hgrow)
            clear hown hgrow hat hlt3 hu hlk
            gi_wp2
            go_roundw
            case rel => exact ⟨k + 1, by omega, by go_num, by rw [HTK.out, List.map_take]; exact HO.out, HK3.out⟩
            case measure => simp only [intOf]; omega
          · have hie : k = ws.length := by omega
            subst hie
            have HFr := Lib.hid (HF5.out.keeps0 HKR.out)
            obtain ⟨e0, e1, z0, z1, hF⟩ := HFr.out.cells
            have s0 := setCell_id e0
            have s1 := setCell_id e1
            have HR2 := Lib.hid (show Ints wr (.slice ar ws.length cr) (ws.map (depT (tree ops st i))) ∧ ∀ k, (Value.slice ar ws.length cr).ownBlock = some k → wr.heap[k]? ≠ some (.deferred (some [])) by
              have h := HR.out
              rw [List.take_length] at h
              refine ⟨Ints.of_own (base := wo.heap.size) (e := 3) ?_, fun k hk => row_not_deferred h k hk⟩
              rw [List.length_map, List.map_map]
              exact h)
            have HMR := Lib.hid (HM5.out.keeps (KeepsD.of0 HKR.out))
            gi_wp2
            refine leaves_marks HMR.out (fun W' hk' => ?_)
            refine ⟨_, results_tmp_cell _ _ (we.heap.size + 1) 30 #[.int .i64 0, .int .i64 0] (0, 0) _ rfl rfl (hk'.heap HFr.out.blk (fun hs => cells_not_deferred HFr.out.blk hs.2)) Try.underlying30 rfl (by kernel_rfl), HFr.out.keep.trans' hk' (fun i hi => .inr (Nat.le_trans hbase hi.1)), .inr ⟨OK.out, l, ws, .slice ar ws.length cr, i, HX0.out, PERM.out, ORD.out, ?_, rfl, ?_⟩⟩
            · rw [HOPX.out, HSTX.out]; exact HLEN.out
            · rw [HOPX.out, HSTX.out]; exact HR2.out.1.keepsS hk' (fun _ k hk hs => HR2.out.2 k hk hs.2)
      · obtain ⟨x, q', rfl⟩ : ∃ x q', q = x :: q' := by
          cases q with
          | nil => exact absurd rfl hq
          | cons x q' => exact ⟨x, q', rfl⟩
        rw [List.length_cons] at *
        have hq0 := HL.out.q
        obtain ⟨e, hTi, hex⟩ : ∃ e, (tree ops st i)[i]? = some e ∧ e.to = x := by
          have h := congrArg (fun l : List Nat => l[0]?) hq0
          simp only [List.getElem?_cons_zero, List.getElem?_drop, Nat.add_zero] at h
          unfold keysT at h
          rw [List.getElem?_map] at h
          cases hT : (tree ops st i)[i]? with
          | none => rw [hT] at h; cases h
          | some e => rw [hT] at h; exact ⟨e, rfl, by simpa using h.symm⟩
        subst hex
        have hqq : q' = (keysT (tree ops st i)).drop (i + 1) := by
          have h := congrArg (List.drop 1) hq0
          rw [List.drop_drop] at h
          simpa using h
        have htl : i < (tree ops st i).length := (List.getElem?_eq_some_iff.1 hTi).1
        have hok := tree_ok ops st i
        have hll := (reached_some HL0.out).2.1
        have htf := tree_few HL0.out i
        have hnext := tree_step hTi
        have hpl : e.path.length ≤ i := tree_short i i e hTi
        have hx32 : e.to < 4294967296 := reach_small hops hst (hok.reach e (List.mem_of_getElem? hTi))
        have hqlen : q'.length + (i + 1) = (tree ops st i).length := by rw [hqq, List.length_drop, keysT_length]; omega
        have hcount := HL.out.s.count
        have hcx := Tail.head (by have := HL.out.s.line; rw [List.map_cons] at this; exact this)
        unfold encW at hcx
        have hsz : w.heap.size ≤ wo.heap.size := HL.out.s.keep.size
        have hpop := HL.out.s.pop (n := q'.length) rfl
        have hmk := HL.out.marks
        have hkd : KeepsD wo (wo.setCell ⟨b1, 0, none⟩ (.slice (some (cutAt gl off cap)) q'.length (cap - 1))) :=
          KeepsD.of ((Keeps.refl (fun b => b = b1) wo).setCell (p := ⟨b1, 0, none⟩) (.inl rfl) _) (fun b hb => by subst hb; exact cells_not_deferred HL.out.s.x1)
        have hm2 := hmk.keeps hkd
        have hpl2 : e.path.length ≤ 2000 := by omega
        clear hq hkd
        generalize hT : tree ops st i = T at hTi hqq htl hok htf hnext hqlen hcount hpop hil
        have HTI := Lib.hid hTi; have HQQ := Lib.hid hqq; have HOK := Lib.hid hok; have HNX := Lib.hid hnext; have HCO := Lib.hid hcount; have HMK := Lib.hid hmk; have HTE := Lib.hid hT
        have HTF := Lib.hid (Nat.le_trans htf hll); have HTL := Lib.hid htf; have HIT := Lib.hid htl; have HQL := Lib.hid hqlen
        clear hTi hqq hok hnext hcount hmk hT htf hll htl hqlen hq0 HL hil
        rcases (Classical.em (cap = 1)) with hc1 | hc1
        case' inl =>
          rw [show cutAt gl off cap = ⟨gl, off, none⟩ by simp [cutAt, hc1], show cap - 1 = 0 by omega] at hpop hm2
          have hz : q'.length = 0 := by omega
          rw [hz] at hpop hm2
          have HP := Lib.hid hpop; have HM := Lib.hid hm2
          clear hpop hm2
          subst hc1
          gi_wp2
          generalize (Value.slice (some ⟨gl, off, none⟩) 1 1) = vo
          generalize (Value.slice (some ⟨gl, off, none⟩) 0 0) = vc at HP HM ⊢
          generalize (Value.int .i64 1) = v23
        case' inr =>
          rw [show cutAt gl off cap = ⟨gl, off + 1, none⟩ by simp [cutAt, hc1]] at hpop hm2
          have HP := Lib.hid hpop; have HM := Lib.hid hm2
          clear hpop hm2
          gi_wp2
          generalize (Value.slice (some ⟨gl, off, none⟩) (q'.length + 1) cap) = vo
          generalize (Value.slice (some ⟨gl, off + 1, none⟩) q'.length (cap - 1)) = vc at HP HM ⊢
          generalize (Value.int .i64 ((q'.length : Int) + 1)) = v23
        all_goals
          have hkz : (wo.setCell ⟨b1, 0, none⟩ vc).heap.size = wo.heap.size := by simp
          generalize wo.setCell ⟨b1, 0, none⟩ vc = W2 at HP HM hkz ⊢
          rw [← hkz] at hsz ⊢
          have HB9 := Lib.hid (heap_alloc_new W2 (.cells #[.int .u32 (e.to : Int)] 75))
          have HPA := Lib.hid (HP.out.keeps0 ((Keeps.refl (fun _ => False) W2).alloc (.cells #[.int .u32 (e.to : Int)] 75)))
          have HMA := Lib.hid (HM.out.keeps (KeepsD.of0 ((Keeps.refl (fun _ => False) W2).alloc (.cells #[.int .u32 (e.to : Int)] 75))))
          have hv9 : ∀ k, vc.ownBlock = some k → k ≠ W2.heap.size := fun k hk => by have := (HP.out.line.lt k hk).2; omega
          have HV9 := Lib.hid hv9
          have hb9l : W2.heap.size < (W2.alloc (.cells #[.int .u32 (e.to : Int)] 75)).heap.size := by simp
          have hb9w : w.heap.size ≤ W2.heap.size := hsz
          clear hv9 hkz HP HM hsz
          generalize (W2.alloc (.cells #[.int .u32 (e.to : Int)] 75)) = W4 at HB9 HPA HMA hb9l ⊢
          generalize W2.heap.size = b9 at HB9 HV9 hb9l hb9w ⊢
          refine ⟨trivial, ?_⟩
          refine (callsIn_wide.2 (steps_any W4 b e.to)).mono ?_; rintro en w5 ⟨rfl, rfl⟩
          gi_wp2
          obtain ⟨W6, hW6⟩ : ∃ W6, ((W4.alloc (.cells #[.pointer (some ⟨b, 0, none⟩)] 71)).alloc (.cells #[.int .u32 (e.to : Int)] 75)) = W6 := ⟨_, rfl⟩
          have hz6 : W6.heap.size = W4.heap.size + 1 + 1 := by rw [← hW6]; simp
          have k6 : Keeps (fun _ => False) W4 W6 := by rw [← hW6]; exact ((Keeps.refl _ _).alloc _).alloc _
          have hBw : W6.cell? ⟨W4.heap.size, 0, none⟩ = some (.pointer (some ⟨b, 0, none⟩)) := by
            rw [← hW6]; exact ((Boxed.new W4 _ _).alloc _).cell
          have hBs : W6.heap[W4.heap.size + 1]? = some (.cells #[.int .u32 (e.to : Int)] 75 (0, 0)) := by
            rw [← hW6]
            have := heap_alloc_new (W4.alloc (.cells #[.pointer (some ⟨b, 0, none⟩)] 71)) (.cells #[.int .u32 (e.to : Int)] 75)
            rwa [World.size_alloc] at this
          have hBsc : W6.cell? ⟨W4.heap.size + 1, 0, none⟩ = some (.int .u32 (e.to : Int)) := by rw [cell_of_blk hBs]; rfl
          rw [hW6]
          have hlow4 : w.heap.size ≤ W4.heap.size := HPA.out.keep.size
          have HA6 := Lib.hid (HPA.out.keeps0 k6)
          have HM6 := Lib.hid (HMA.out.keeps (KeepsD.of0 k6))
          have HB96 := Lib.hid (k6.heap HB9.out (fun h => h))
          have HWW := Lib.hid (show ∃ w0 : World, WordsAt w0 base b st g0 v ops ∧ w0.heap.size ≤ w.heap.size ∧ Below w.heap.size w0 W6 from ⟨w, HWA.out, Nat.le_refl _, HA6.out.keep.below⟩)
          have hgrow0 : ∀ k, vc.ownBlock = some k → k ≠ W4.heap.size + 1 := fun k hk => by have := (HPA.out.line.lt k hk).2; omega
          have HG0 := Lib.hid hgrow0
          have HBS := Lib.hid hBs
          have HWL := Lib.hid (show (wsteps ops e.to).length ≤ 40 from Nat.le_trans (wsteps_le ops e.to) hmany)
          have hb6 : w.heap.size ≤ W6.heap.size := by omega
          have hb96 : b9 < W6.heap.size := by omega
          have hb26 : b2 < W6.heap.size := HA6.out.map.lt
          clear hgrow0 hBs HB9 HPA HMA
          refine wpIn_rangeFunc_ownH (α := StpOf ops e.to) rfl (by omega) (gf := 91) (lb := #[.pointer (some ⟨W4.heap.size, 0, none⟩), .pointer (some ⟨W4.heap.size + 1, 0, none⟩)]) rfl trivial (enters_of Try.func91 (by kernel_rfl) rfl)
            (steps_stops Fence.wide 8 trivial rfl (by omega) W4.heap.size (W4.heap.size + 1) w.heap.size base b st g0 e.to v ops hops (by omega) hx32 W6 (by omega) hBw hBsc (by omega) (by omega) HWW.out)
            KpS.trans (kpS_b (by omega) (by omega)) (Below.refl _ _) (fun _ => rfl)
            (fun pre W => DepI w b1 b2 b3 T q' e ds (W4.heap.size + 1) b9 (pre.map fun y => y.1) W)
            (fun _ _ _ => False) ?_ (fun _ _ _ _ _ hs _ _ => hs) ?_
            (fun (y : StpOf ops e.to) (a' : Act) (W : World) => ∃ Bx : Nat, W.heap[Bx]? = some (Obj.cells #[.int .i64 (y.1.op : Int), .int .i64 y.1.cost, .int .u32 (y.1.to : Int)] 86 (0, 0)) ∧ ∃ u : Nat → Value, a' = { tmps := #[.agg #[.int .i64 t.n, .slice ai t.init.length ci, .slice ag t.goal.length cg, .slice ao t.ops.length co], .pointer (some ⟨we.heap.size, 0, none⟩), .slice none 0 0, .pointer (some ⟨we.heap.size + 1, 0, none⟩), .pointer (some ⟨b, 0, none⟩), .slice av ws.length cv, .pointer (some ⟨bf, 0, none⟩), .pointer (some ⟨b3, 0, none⟩), .pointer (some ⟨b1, 0, none⟩), .pointer (some ⟨b9, 0, none⟩), .pointer (some ⟨Bx, 0, none⟩), u 11, u 12, u 13, u 14, u 15, u 16, u 17, u 18, u 19, u 20, u 21, u 22, u 23, u 24, u 25, u 26, u 27, u 28, u 29, u 30, u 31, u 32, u 33, u 34, u 35, u 36, u 37, u 38, u 39, u 40, u 41, u 42, u 43, u 44, u 45, u 46, u 47, u 48, u 49, u 50, u 51, u 52, u 53, u 54, u 55, u 56, u 57, u 58, u 59, u 60, u 61, u 62, u 63, u 64, u 65, u 66, u 67, u 68, u 69, u 70, u 71, u 72, u 73, u 74, u 75, u 76, u 77, u 78, u 79, u 80], defers := [] }) ?_ ?_ ?_ ?_ ?_
          · intro l W W' row hs hg hr
            obtain ⟨vl, h1, h2, h3, h4, h5⟩ := hs
            exact ⟨vl, h1.steady hg hr hb6 hb26, Marks.steady HM6.out h2 hg hr, steady_heap hg (fun r e => (hr r e).2) h3, steady_heap hg (fun r e => (hr r e).2) h4, h5⟩
          · exact ⟨vc, by simpa [frs, keysT] using HA6.out, HM6.out, HBS.out, HB96.out, HG0.out, HV9.out⟩
          · intro y a' _ W W' row hs hg hr
            obtain ⟨Bx, h1, h2⟩ := hs
            exact ⟨Bx, steady_heap hg (fun r e => (hr r e).2) h1, h2⟩
          · intro l pre y W K hi hK
            simp only [Stp.val]
            gi_wp2
            obtain ⟨vl, h1, h2, h3, h4, h5⟩ := hi
            refine hK _ _ ((KeepsOthers.alloc _ _).from _) ((KpS.refl _ _ W).alloc h1.keep.size (lt_of_heap h3) _) ⟨vl, h1.keeps0 ((Keeps.refl _ _).alloc _), h2.keeps (KeepsD.of0 ((Keeps.refl _ _).alloc _)), ((Keeps.refl (fun _ => False) W).alloc _).heap h3 (fun h => h), ((Keeps.refl (fun _ => False) W).alloc _).heap h4 (fun h => h), h5⟩ ⟨W.heap.size, heap_alloc_new W _, ex_fnD rfl⟩
          · rintro l pre y a' W hl - ⟨vl, h1, h2, h3, h4, h5, h6⟩ ⟨Bx, hBx, u, rfl⟩ hlt
            have x1c := h1.x1.cell
            have x1f := h1.x1.frozen
            have x3c := h1.x3.cell
            have c9 : W.cell? ⟨b9, 0, none⟩ = some (.int .u32 (e.to : Int)) := by rw [cell_of_blk h4]; rfl
            have y0 : W.cell? ⟨Bx, 0, none⟩ = some (.int .i64 (y.1.op : Int)) := by rw [cell_of_blk hBx]; rfl
            have y2 : W.cell? ⟨Bx, 2, none⟩ = some (.int .u32 (y.1.to : Int)) := by rw [cell_of_blk hBx]; rfl
            have hBxl := lt_of_heap hBx
            have l1 := h1.x1.lt
            have l3 := h1.x3.lt
            have l9 := lt_of_heap h4
            have hnd : (keysT (T ++ frs e (keysT T) (pre.map fun y => y.1))).Nodup := by
              rw [keysT_append, frs_keys]; exact nodup_freshs HOK.out.nodup
            have hsn := frs_snoc e (pre.map fun y => y.1) y.1 (keysT T)
            by_cases hm : y.1.to ∈ keysT T ++ keysT (frs e (keysT T) (pre.map fun y => y.1))
            · obtain ⟨f, hf, hfy⟩ : ∃ f ∈ T ++ frs e (keysT T) (pre.map fun y => y.1), f.to = y.1.to := by
                rw [← keysT_append] at hm
                obtain ⟨f, h1, h2⟩ := List.mem_map.1 hm
                exact ⟨f, h1, h2⟩
              have hlk := (h1.map.run_lookup_hit (P := Try.prog) Try.underlying77 Try.underlying75 (depL_nodup hnd) (depL_mem hf)).1
              rw [hfy] at hlk
              rw [if_pos hm, List.append_nil] at hsn
              have H1 := Lib.hid h1; have H2 := Lib.hid h2; have H3 := Lib.hid h3; have H4 := Lib.hid h4; have H5 := Lib.hid h5; have H6 := Lib.hid h6; have HSN := Lib.hid hsn
              clear h1 h2 h3 h4 h5 h6 hsn hm hnd hBx hf hfy
              gi_wp2
              refine ⟨⟨Nat.le_refl _, fun _ _ _ h _ => h⟩, KpS.refl _ _ W, ⟨vl, ?_, H2.out, H3.out, H4.out, H5.out, H6.out⟩⟩
              have e1 : frs e (keysT T) ((pre ++ [y]).map fun y => y.1) = frs e (keysT T) (pre.map fun y => y.1) := by rw [List.map_append]; exact HSN.out
              rw [e1]
              exact H1.out
            · have kal := Keeps.refl (fun _ => False) W
              have hm2 : y.1.to ∉ keysT (T ++ frs e (keysT T) (pre.map fun y => y.1)) := by rw [keysT_append]; exact hm
              have hlk := ((h1.map).run_lookup_miss (P := Try.prog) Try.underlying77 Try.underlying75 (z := .int .i64 0) (show (zeroValue 3).run Try.prog W = .ok (.int .i64 0) W by kernel_rfl) (depL_miss hm2)).1
              have hlk2 := (h1.map.run_lookup_hit (P := Try.prog) Try.underlying77 Try.underlying75 (depL_nodup hnd) (depL_mem (List.mem_append_left (frs e (keysT T) (pre.map fun y => y.1)) (List.mem_of_getElem? HTI.out)))).2
              obtain ⟨W1, hrunU, hI1, hK1⟩ := h1.map.run_update_new (P := Try.prog) Try.underlying77 Try.underlying75 (depL_miss hm2) (.int .i64 ((e.path.length : Int) + 1))
              have hpe : ((e.of y.1).path.length : Int) = (e.path.length : Int) + 1 := by simp [Ent.of]
              rw [← hpe] at hI1
              have hS1 := h1.see (e := e.of y.1) hI1 hK1
              have hb2 := box_not_map h1.map h1.x1
              have hbx2 : Bx ≠ b2 := by rintro rfl; obtain ⟨es, c, hb, _⟩ := h1.map; rw [hBx] at hb; cases hb
              have hbs2 : W4.heap.size + 1 ≠ b2 := by rintro rfl; obtain ⟨es, c, hb, _⟩ := h1.map; rw [h3] at hb; cases hb
              have hb92 : b9 ≠ b2 := by rintro rfl; obtain ⟨es, c, hb, _⟩ := h1.map; rw [h4] at hb; cases hb
              have z1c := hS1.x1.cell
              have z1f := hS1.x1.frozen
              have z3c := hS1.x3.cell
              have y2' : W1.cell? ⟨Bx, 2, none⟩ = some (.int .u32 (y.1.to : Int)) := hK1.cell (kal.cell y2 (fun h => h)) hbx2
              have zs := hS1.x1.lt
              have zb := lt_of_heap (hK1.heap (kal.heap hBx (fun h => h)) hbx2)
              rw [if_neg hm] at hsn
              have hfl : (keysT (frs e (keysT T) (pre.map fun y => y.1))).length ≤ 40 := by
                rw [frs_keys]
                have e1 := freshs_le (seen := keysT T) (xs := (pre.map fun y => y.1).map Stp.to)
                rw [List.length_map, List.length_map] at e1
                have := HWL.out; omega
              obtain ⟨sk, hsk⟩ : ∃ sk, q' ++ keysT (frs e (keysT T) (pre.map fun y => y.1)) = sk := ⟨_, rfl⟩
              have hlen : sk.length ≤ 2040 := by
                have := HQL.out; have := HTF.out
                rw [← hsk, List.length_append]; omega
              rw [hsk] at hS1
              have HSK := Lib.hid hsk
              clear hsk
              have hlowW : w.heap.size ≤ W1.heap.size := hS1.keep.size
              have HROW := Lib.hid (hS1.line.keeps ((Keeps.refl (fun _ => False) W1).alloc (.cells #[.int .u32 (y.1.to : Int)] 75)) (fun _ _ h => h))
              have H1 := Lib.hid h1; have H2 := Lib.hid h2; have H3 := Lib.hid h3; have H4 := Lib.hid h4; have H5 := Lib.hid h5; have H6 := Lib.hid h6; have HSN := Lib.hid hsn; have HS1 := Lib.hid hS1; have HK1 := Lib.hid hK1; have HNB := Lib.hid hbs2; have HN9 := Lib.hid hb92; have HI1 := Lib.hid hI1
              clear h1 h2 h3 h4 h5 h6 hsn hm hm2 hnd hBx hS1 hK1 hI1 kal hb2 hbx2 hbs2 hb92 hfl
              gi_wp2_with (gi_at_builtin; refine wpListIn_append_tail _ rfl (.tmp 61) (.tmp 64) 72 rfl w.heap.size 75 i0 _ 4 Try.underlying72 hi0 hz0 hz1 hz2 rfl vl (sk.map encW) rfl HROW.out ⟨W1.heap.size, 0, none⟩ 1 (.int .u32 (y.1.to : Int)) rfl ?_ rfl sk.length (by simp) (by unfold maxLen; omega) (by omega) (by simp; omega) (W1.heap.size + 1) (by simp) ?_)
              · exact (Boxed.new W1 _ _).cell
              intro g4 off4 cap4 W2' hown2 hgrow2 hat2 hlt2
              have hbx1 : W2'.heap[b1]? = some (.cells #[vl] 72 (0, 0)) := ((Keeps.refl (fun b => vl.ownBlock = some b) _).grown hgrow2 (fun k hk => .inl hk)).heap (((Keeps.refl (fun _ => False) W1).alloc _).heap HS1.out.x1 (fun h => h)) HS1.out.row1
              have v1c : W2'.cell? ⟨b1, 0, none⟩ = some vl := (cell_of_blk hbx1).trans rfl
              have v1f : W2'.frozen? ⟨b1, 0, none⟩ = false := frozen_of_blk hbx1
              have v1l := lt_of_heap hbx1
              have HP2 := Lib.hid (HS1.out.push (x := y.1.to) hown2 hgrow2 hat2)
              have HX1 := Lib.hid hbx1
              have HG2 := Lib.hid hgrow2
              have HAT2 := Lib.hid hat2
              clear hown2 hgrow2 hat2 hlt2 hbx1
              gi_wp2
              have hk : Keeps (fun b => b = b2 ∨ b = b1 ∨ vl.ownBlock = some b) W (W2'.setCell ⟨b1, 0, none⟩ (.slice (some ⟨g4, off4, none⟩) (sk.length + 1) cap4)) := by
                have q1 : Keeps (fun b => b = b2 ∨ b = b1 ∨ vl.ownBlock = some b) W W1 := HK1.out.mono (fun _ _ h => .inl h)
                have q2 : Keeps (fun b => b = b2 ∨ b = b1 ∨ vl.ownBlock = some b) W1 W2' := (((Keeps.refl (fun _ => False) W1).alloc (.cells #[.int .u32 (y.1.to : Int)] 75)).mono (fun _ _ h => h.elim)).trans (((Keeps.refl (fun b => vl.ownBlock = some b) _).grown HG2.out (fun k hk => .inl hk)).mono (fun _ _ h => .inr (.inr h)))
                exact (q1.trans q2).trans ((Keeps.refl _ W2').setCell (p := ⟨b1, 0, none⟩) (.inl (.inr (.inl rfl))) _)
              have hS : ∀ b, b = b2 ∨ b = b1 ∨ vl.ownBlock = some b → w.heap.size ≤ b ∧ b < W6.heap.size + W.heap.size ∧ b ≠ W4.heap.size + 1 ∧ b ≠ b9 ∧ W.heap[b]? ≠ some (.deferred (some [])) ∧ (b = b2 ∨ ∃ cs t fr, W.heap[b]? = some (.cells cs t fr)) := by
                rintro b (rfl | rfl | hb)
                · exact ⟨H1.out.l2, by have := H1.out.map.lt; omega, fun e => HNB.out e.symm, fun e => HN9.out e.symm, map_not_deferred H1.out.map, .inl rfl⟩
                · refine ⟨H1.out.l1, by have := H1.out.x1.lt; omega, ?_, ?_, cells_not_deferred H1.out.x1, .inr ⟨_, _, _, H1.out.x1⟩⟩
                  · intro e'
                    have h := (show W.heap[b]? = _ from H1.out.x1)
                    rw [e', H3.out] at h
                    simp at h
                  · intro e'
                    have h := (show W.heap[b]? = _ from H1.out.x1)
                    rw [e', H4.out] at h
                    simp at h
                · obtain ⟨cur, hcur⟩ := H1.out.line.block b hb
                  exact ⟨(H1.out.line.lt b hb).1, by have := (H1.out.line.lt b hb).2; omega, H5.out b hb, H6.out b hb, H1.out.line.not_deferred b hb, .inr ⟨_, _, _, hcur⟩⟩
              refine ⟨⟨hk.size, fun k o hB hk0 hc => ?_⟩, KpS.ofKeeps hk H1.out.keep.size (fun k hlt hs => by have := (hS k hs).1; omega) (lt_of_heap H3.out) (fun hs => (hS _ hs).2.2.1 rfl), ⟨.slice (some ⟨g4, off4, none⟩) (sk.length + 1) cap4, ?_, H2.out.keeps (KeepsD.of hk (fun b hs => (hS b hs).2.2.2.2.1)), hk.heap H3.out (fun hs => (hS _ hs).2.2.1 rfl), hk.heap H4.out (fun hs => (hS _ hs).2.2.2.1 rfl), ?_, ?_⟩⟩
              · refine hk.heap hk0 (fun hs => ?_)
                rcases (hS k hs).2.2.2.2.2 with rfl | ⟨cs, t, fr, e'⟩
                · omega
                · rw [e'] at hk0; cases hk0; cases hc
              · have e1 : frs e (keysT T) ((pre ++ [y]).map fun y => y.1) = frs e (keysT T) (pre.map fun y => y.1) ++ [e.of y.1] := by rw [List.map_append]; exact HSN.out
                rw [e1, keysT_append, ← List.append_assoc, ← List.append_assoc, HSK.out]
                exact HP2.out
              · intro k hk' e'
                simp [Value.ownBlock] at hk'
                subst hk'
                rcases HAT2.out with e2 | e2
                · exact H5.out g4 e2 e'
                · have := lt_of_heap H3.out; have := HK1.out.size; omega
              · intro k hk' e'
                simp [Value.ownBlock] at hk'
                subst hk'
                rcases HAT2.out with e2 | e2
                · exact H6.out g4 e2 e'
                · have := lt_of_heap H4.out; have := HK1.out.size; omega
          · rintro D ys W hD hys ⟨vl, h1, h2, h3, h4, h5, h6⟩ hd
            have hys' : (ys.map fun y => y.1) = wsteps ops e.to := hys
            rw [hys', ← HNX.out] at h1
            have HM7 := Lib.hid (HM6.out.cons h2 hD (by omega) hd)
            have H1 := Lib.hid h1
            have hle : i + 1 ≤ (tree ops st (i + 1)).length := by
              rw [HNX.out, List.length_append]; have := HIT.out; omega
            have HLE := Lib.hid hle
            have HQ2 := Lib.hid (show q' ++ keysT (frs e (keysT T) (wsteps ops e.to)) = (keysT (tree ops st (i + 1))).drop (i + 1) by
              rw [HNX.out, keysT_append, List.drop_append_of_le_length (by rw [keysT_length]; exact HIT.out), HQQ.out])
            have HMEA := Lib.hid (show l.length + 1 - (mapLen W b2 - boxLen W b1) < l.length + 1 - (mapLen wo b2 - boxLen wo b1) by
              obtain ⟨c1, c2⟩ := H1.out.count
              obtain ⟨c3, c4⟩ := HCO.out
              have hq1 := congrArg List.length HQ2.out
              rw [List.length_drop, keysT_length] at hq1
              have hq2 := HQL.out
              have hq3 := HTL.out
              have hq4 := HIT.out
              have hq5 := HLE.out
              rw [c1, c2, c3, c4, List.length_cons, hq1]
              omega)
            clear h1 h2 h3 h4 h5 h6 hd hys hys' hle
            gi_wp2
            exact ⟨⟨mark D :: ds, i + 1, _, vl, ⟨H1.out, HQ2.out, HM7.out⟩, HLE.out, ex_fnD rfl⟩, HMEA.out⟩
          · exact fun _ _ _ _ _ _ h _ => h.elim

theorem spsteps_any (w : World) (vi vg vo : Value) (t : Tsk) (h : TaskAt w vi vg vo t) :
    Calls Try.prog 22 #[.agg #[.int .i64 t.n, vi, vg, vo]] w (StepsPost t w) := callsIn_wide.1 (spsteps_in w vi vg vo t h)

end Go.Proofs.Ytdonadeodioplaa

namespace Go.Proofs.Ytdonadeodioplaa
open Go.RowKit

def stateFault (t : Tsk) (s : List Int) : Int × Int := if (taskFault t).1 = 0 then (if isSetB s t.n = true then (0, 0) else (5, -4)) else taskFault t

set_option maxHeartbeats 1000000 in
theorem stateFault_any (w : World) (vi vg vo vs : Value) (t : Tsk) (s : List Int) (h : TaskAt w vi vg vo t) (hs : Ints w vs s) :
    Calls Try.prog 66 #[.agg #[.int .i64 t.n, vi, vg, vo], vs] w fun e w' => e = .returned (.agg #[.int .i64 (stateFault t s).1, .int .i64 (stateFault t s).2]) ∧ Keeps (fun _ => False) w w' := by
  obtain ⟨ai, ci, h1, _⟩ := h.init.form
  obtain ⟨ag, cg, h2, _⟩ := h.goal.form
  obtain ⟨ao, co, h3, hmo⟩ := h.ops.form
  obtain ⟨aa, cs, h4, _⟩ := hs.form
  subst h1 h2 h3 h4
  have K1 := (Keeps.refl (fun _ => False) w).alloc (.cells #[.int .i64 t.n, .slice ai t.init.length ci, .slice ag t.goal.length cg, .slice ao t.ops.length co] 25)
  have HT := h.keeps0 (K1.alloc (.cells #[.int .i64 0, .int .i64 0] 30))
  have HSS : Ints _ _ s := hs.keeps0 (K1.alloc (.cells #[.int .i64 0, .int .i64 0] 30))
  have HB := (Four.new w (.int .i64 t.n) (.slice ai t.init.length ci) (.slice ag t.goal.length cg) (.slice ao t.ops.length co) 25).keeps0 ((Keeps.refl _ _).alloc (.cells #[.int .i64 0, .int .i64 0] 30))
  have HF : Flt w ((w.alloc (.cells #[.int .i64 t.n, .slice ai t.init.length ci, .slice ag t.goal.length cg, .slice ao t.ops.length co] 25)).alloc (.cells #[.int .i64 0, .int .i64 0] 30)) (w.heap.size + 1) 30 :=
    ⟨by have := heap_alloc_new (w.alloc (.cells #[.int .i64 t.n, .slice ai t.init.length ci, .slice ag t.goal.length cg, .slice ao t.ops.length co] 25)) (.cells #[.int .i64 0, .int .i64 0] 30); rwa [World.size_alloc] at this, by omega, K1.alloc _⟩
  replace HT := Lib.hid HT; replace HB := Lib.hid HB; replace HF := Lib.hid HF; replace HSS := Lib.hid HSS
  clear h hs K1
  go_enter Try.func66, Try.ntmps66
  go_upto_region 1 with fail
  generalize ((w.alloc (.cells #[.int .i64 t.n, .slice ai t.init.length ci, .slice ag t.goal.length cg, .slice ao t.ops.length co] 25)).alloc (.cells #[.int .i64 0, .int .i64 0] 30)) = w1 at HT HB HF HSS ⊢
  have hbx := HB.out.lt
  obtain ⟨d0, d1, d2, d3⟩ := HB.out
  go_wp2_with fail
  refine (validate_any _ _ _ _ t HT.out).mono ?_; rintro e w2 ⟨rfl, hk⟩
  have HF2 := Lib.hid (HF.out.keeps0 hk)
  have HB2 := HB.out.keeps0 hk
  have hbx2 := HB2.lt
  have KA := (Keeps.refl (fun _ => False) w2).alloc (.cells #[.int .i64 (taskFault t).1, .int .i64 (taskFault t).2] 30)
  have HF3 := Lib.hid (HF2.out.keeps0 KA)
  have HS3 := Lib.hid ((HSS.out.keeps0 hk : Ints w2 _ s).keeps0 KA)
  clear d0 d1 d2 d3 hk
  obtain ⟨d0, d1, d2, d3⟩ := HB2.keeps0 KA
  obtain ⟨e0, e1, z0, z1, hF⟩ := HF3.out.cells
  clear KA HB2
  by_cases hc : (taskFault t).1 = 0
  · have hok := taskFault_zero.1 hc
    have hft := taskFault_ok hok
    rw [hft] at HF3 HS3 d0 d1 d2 d3 e0 e1 z0 z1 hF ⊢
    cases b1 : isSetB s t.n with
    | true =>
      have HP : Hid (stateFault t s = (0, 0)) := by unfold Hid stateFault; rw [if_pos hc, if_pos b1]
      have B1 := Lib.hid b1
      clear hc hft hok b1
      go_wp2_with fail
      refine (sIsSet_val HS3.out B1.out).mono ?_; rintro e w5 ⟨rfl, rfl⟩
      go_wp2_with fail
      refine bodyPost_ret (results_cell_row rfl _ _ (w.heap.size + 1) 30 _ (0, 0) _ rfl (HF3.out.set (.int .i64 0) (.int .i64 0)).1 Try.underlying30 rfl (by kernel_rfl)) rfl ?_
      exact ⟨by rw [HP.out], (HF3.out.set _ _).2⟩
    | false =>
      have HP : Hid (stateFault t s = (5, -4)) := by unfold Hid stateFault; rw [if_pos hc, if_neg (by simp [b1])]
      have B1 := Lib.hid b1
      clear hc hft hok b1
      go_wp2_with fail
      refine (sIsSet_val HS3.out B1.out).mono ?_; rintro e w5 ⟨rfl, rfl⟩
      go_wp2_with fail
      refine bodyPost_ret (results_cell_row rfl _ _ (w.heap.size + 1) 30 _ (0, 0) _ rfl (HF3.out.set (.int .i64 5) (.int .i64 (-4))).1 Try.underlying30 rfl (by kernel_rfl)) rfl ?_
      exact ⟨by rw [HP.out], (HF3.out.set _ _).2⟩
  · have HP : Hid (stateFault t s = taskFault t) := by unfold Hid stateFault; rw [if_neg hc]
    have hc2 : ((taskFault t).1 == 0) = false := by simpa using hc
    clear hc
    generalize hfe : taskFault t = f at hc2 HP HF3 HS3 d0 d1 d2 d3 e0 e1 z0 z1 hF ⊢
    clear hfe
    go_wp2_with fail
    refine bodyPost_ret (results_cell_row rfl _ _ (w.heap.size + 1) 30 _ (0, 0) _ rfl (HF3.out.set (.int .i64 f.1) (.int .i64 f.2)).1 Try.underlying30 rfl (by kernel_rfl)) rfl ?_
    exact ⟨by rw [HP.out], (HF3.out.set _ _).2⟩

/-! ### breadth.Reach -/
theorem asked_want (w : World) (B g : Nat) (T : TypeId) (hb : Boxed w B T (.int .u32 (g : Int))) : Asked w 70 #[] #[.pointer (some ⟨B, 0, none⟩)] (fun x => x == g) := by
  refine ⟨enters_of Try.func70 (by kernel_rfl) rfl, fun W x hk hx => ?_⟩
  have hc := (show Boxed W B T (.int .u32 (g : Int)) from hk.heap hb (fun h => h)).cell
  show Calls Try.prog _ #[.int .u32 (x : Int), .pointer (some ⟨B, 0, none⟩)] W _
  have HE : Hid (((x : Int) == (g : Int)) = (x == g)) := by
    unfold Hid
    cases h : x == g with
    | true => rw [beq_iff_eq] at h ⊢; exact_mod_cast h
    | false => rw [beq_eq_false_iff_ne] at h ⊢; intro e; exact h (by exact_mod_cast e)
  clear hk hb
  go_enter Try.func70, Try.ntmps70
  go_wp2_with fail
  go_ret
  exact ⟨congrArg (fun b => Ending.returned (Value.bool b)) HE.out, 0, rfl⟩

end Go.Proofs.Ytdonadeodioplaa

namespace Go.Proofs.Ytdonadeodioplaa
open Go.RowKit

theorem stateFault_zero {t : Tsk} {s : List Int} : (stateFault t s).1 = 0 ↔ t.Ok ∧ isSetB s t.n = true := by
  unfold stateFault
  by_cases h : (taskFault t).1 = 0
  · rw [if_pos h]
    have := taskFault_zero.1 h
    cases hb : isSetB s t.n <;> simp [this]
  · rw [if_neg h]
    simp only [h, false_iff, not_and]
    intro h1; exact absurd (taskFault_zero.2 h1) h
theorem stateFault_ok {t : Tsk} {s : List Int} (h : (stateFault t s).1 = 0) : stateFault t s = (0, 0) := by
  obtain ⟨h1, h2⟩ := stateFault_zero.1 h
  unfold stateFault
  rw [if_pos (taskFault_zero.2 h1), if_pos h2]

def ReachPost (t : Tsk) (s : List Int) (w : World) (e : Ending) (w' : World) : Prop := Keeps (fun _ => False) w w' ∧
  (((stateFault t s).1 ≠ 0 ∧ e = .returned (.tuple #[.slice none 0 0, .bool false, fltV (stateFault t s).1 (stateFault t s).2])) ∨
   (t.Ok ∧ isSetB s t.n = true ∧ explored t = none ∧ e = .returned (.tuple #[.slice none 0 0, .bool false, fltV 10 (-7)])) ∨
   (t.Ok ∧ isSetB s t.n = true ∧ ∃ l, explored t = some l ∧ WayPost (wordsOf t.ops) (wd t.init) (fun x => x == wd s) w e w'))

set_option maxHeartbeats 2000000 in
theorem reach_any (w : World) (vi vg vo vs : Value) (t : Tsk) (s : List Int) (h : TaskAt w vi vg vo t) (hs : Ints w vs s) :
    Calls Try.prog 37 #[.agg #[.int .i64 t.n, vi, vg, vo], vs] w (ReachPost t s w) := by
  obtain ⟨ai, ci, h1, _⟩ := h.init.form
  obtain ⟨ag, cg, h2, _⟩ := h.goal.form
  obtain ⟨ao, co, h3, hmo⟩ := h.ops.form
  obtain ⟨aa, cs, h4, _⟩ := hs.form
  subst h1 h2 h3 h4
  have K1 := (Keeps.refl (fun _ => False) w).alloc (.cells #[.int .i64 t.n, .slice ai t.init.length ci, .slice ag t.goal.length cg, .slice ao t.ops.length co] 25)
  have HT := h.keeps0 (K1.alloc (.cells #[.int .i64 0, .int .i64 0] 30))
  have HSS : Ints _ _ s := hs.keeps0 (K1.alloc (.cells #[.int .i64 0, .int .i64 0] 30))
  have HB := (Four.new w (.int .i64 t.n) (.slice ai t.init.length ci) (.slice ag t.goal.length cg) (.slice ao t.ops.length co) 25).keeps0 ((Keeps.refl _ _).alloc (.cells #[.int .i64 0, .int .i64 0] 30))
  have HF : Flt w ((w.alloc (.cells #[.int .i64 t.n, .slice ai t.init.length ci, .slice ag t.goal.length cg, .slice ao t.ops.length co] 25)).alloc (.cells #[.int .i64 0, .int .i64 0] 30)) (w.heap.size + 1) 30 :=
    ⟨by have := heap_alloc_new (w.alloc (.cells #[.int .i64 t.n, .slice ai t.init.length ci, .slice ag t.goal.length cg, .slice ao t.ops.length co] 25)) (.cells #[.int .i64 0, .int .i64 0] 30); rwa [World.size_alloc] at this, by omega, K1.alloc _⟩
  replace HT := Lib.hid HT; replace HB := Lib.hid HB; replace HF := Lib.hid HF; replace HSS := Lib.hid HSS
  clear h hs K1
  go_enter Try.func37, Try.ntmps37
  go_upto_region 1 with fail
  generalize ((w.alloc (.cells #[.int .i64 t.n, .slice ai t.init.length ci, .slice ag t.goal.length cg, .slice ao t.ops.length co] 25)).alloc (.cells #[.int .i64 0, .int .i64 0] 30)) = w1 at HT HB HF HSS ⊢
  have hbx := HB.out.lt
  obtain ⟨d0, d1, d2, d3⟩ := HB.out
  go_wp2_with fail
  refine (stateFault_any _ _ _ _ _ t s HT.out HSS.out).mono ?_; rintro e w2 ⟨rfl, hk⟩
  have HF2 := Lib.hid (HF.out.keeps0 hk)
  have HB2 := Lib.hid (HB.out.keeps0 hk)
  have HT2 := Lib.hid (HT.out.keeps0 hk)
  have HS2 := Lib.hid (show Ints w2 (.slice aa s.length cs) s from HSS.out.keeps0 hk)
  clear d0 d1 d2 d3 hk
  by_cases hc : (stateFault t s).1 = 0
  · obtain ⟨hok, hset⟩ := stateFault_zero.1 hc
    have hft := stateFault_ok hc
    rw [hft]
    have OK := Lib.hid hok; have SET := Lib.hid hset
    clear hc hft hok hset
    have KA := (Keeps.refl (fun _ => False) w2).alloc (.cells #[.int .i64 0, .int .i64 0] 30)
    have HF3 := Lib.hid (HF2.out.keeps0 KA); have HB3 := Lib.hid (HB2.out.keeps0 KA); have HT3 := Lib.hid (HT2.out.keeps0 KA); have HS3 := Lib.hid (show Ints _ (.slice aa s.length cs) s from HS2.out.keeps0 KA)
    obtain ⟨d0, d1, d2, d3⟩ := HB3.out
    have hbx2 := HB3.out.lt
    have hbx3 := HB2.out.lt
    clear KA
    go_wp2_with fail
    refine (checked_any _ _ _ _ t HT3.out).mono ?_; rintro e w3 ⟨hk, hr⟩
    have HF4 := Lib.hid (HF3.out.keeps0 hk)
    have HS4 := Lib.hid (show Ints w3 (.slice aa s.length cs) s from HS3.out.keeps0 hk)
    clear d0 d1 d2 d3 hk
    rcases hr with ⟨hc, rfl⟩ | ⟨_, hx, rfl⟩ | ⟨_, l, hx, b, v, vl, ws, rfl, hw, _, _, _⟩
    · exact absurd (taskFault_zero.2 OK.out) hc
    · have HX := Lib.hid hx
      clear hx
      have HF5 := Lib.hid (HF4.out.keeps0 ((Keeps.refl _ _).alloc (.cells #[.int .i64 10, .int .i64 (-7)] 30)))
      obtain ⟨e0, e1, z0, z1, hF⟩ := HF5.out.cells
      go_wp2_with fail
      go_region
      all_goals
        go_wp2
        refine bodyPost_ret (results_tmp2_cell _ _ (w.heap.size + 1) 30 #[.int .i64 10, .int .i64 (-7)] (0, 0) _ rfl rfl (((Keeps.refl (fun _ => False) _).drew).heap (HF5.out.set (.int .i64 10) (.int .i64 (-7))).1 (fun h => h)) Try.underlying30 rfl (by kernel_rfl)) rfl ?_
        exact ⟨((HF5.out.set (.int .i64 10) (.int .i64 (-7))).2).drew, .inr (.inl ⟨OK.out, SET.out, HX.out, rfl⟩)⟩
    · have HX := Lib.hid hx
      have KA := (Keeps.refl (fun _ => False) w3).alloc (.cells #[.int .i64 0, .int .i64 0] 30)
      have HW := Lib.hid (hw.keeps0 KA)
      have HF5 := Lib.hid (HF4.out.keeps0 KA)
      have HS5 := Lib.hid (show Ints _ (.slice aa s.length cs) s from HS4.out.keeps0 KA)
      have hsl : ∀ x ∈ s, 0 ≤ x ∧ x < 32 := fun x hx => by
        have := (isSet_iff.1 SET.out).1 x hx; have := OK.out.n1; omega
      have HSL := Lib.hid hsl
      clear hx hw KA hsl
      go_wp2_with fail
      generalize w3.alloc (.cells #[.int .i64 0, .int .i64 0] 30) = w4 at HW HF5 HS5 ⊢
      refine (word_any _ _ s HS5.out HSL.out).mono ?_; rintro e w5 ⟨rfl, rfl⟩
      have KB := (Keeps.refl (fun _ => False) w4).alloc (.cells #[.int .u32 (wd s : Nat)] 75)
      have HW6 := Lib.hid (HW.out.keeps0 KB)
      have HF6 := Lib.hid (HF5.out.keeps0 KB)
      have HBX := Lib.hid (Boxed.new w4 75 (.int .u32 (wd s : Nat)))
      clear KB
      have hs32 : wd t.init < 4294967296 := wd_lt32 (by have := OK.out.n1; omega : t.n ≤ 32) OK.out.init
      go_wp2_with fail
      generalize w4.alloc (.cells #[.int .u32 (wd s : Nat)] 75) = w6 at HW6 HF6 HBX ⊢
      refine (first_any w6 b (wd t.init) (wd t.goal) _ v (wordsOf t.ops) HW6.out (wops_ok OK.out) (by unfold wordsOf; rw [List.length_map]; exact OK.out.few) hs32 l HX.out _ _ _ (fun x => x == wd s) (asked_want w6 _ (wd s) _ HBX.out)).mono ?_
      rintro e w7 ⟨hk4, hr⟩
      have HF7 := Lib.hid (HF6.out.keeps0 hk4)
      have hlow := HF6.out.keep.size
      clear hk4
      rcases hr with ⟨hbest, rfl⟩ | ⟨p, hbest, v', rfl, hown⟩
      · have HBE := Lib.hid hbest
        clear hbest
        go_wp2_with fail
        refine (limited_any _ none 0 0 false).mono ?_; rintro e w8 ⟨rfl, hk5⟩
        have HF8 := Lib.hid (HF7.out.keeps0 hk5)
        obtain ⟨e0, e1, z0, z1, hF⟩ := HF8.out.cells
        clear hk5
        simp only [limV, Nat.zero_le, if_true]
        go_wp2_with fail
        refine bodyPost_ret (results_tmp2_cell _ _ (w.heap.size + 1) 30 #[.int .i64 0, .int .i64 0] (0, 0) _ rfl rfl (HF8.out.set (.int .i64 0) (.int .i64 0)).1 Try.underlying30 rfl (by kernel_rfl)) rfl ?_
        exact ⟨(HF8.out.set _ _).2, .inr (.inr ⟨OK.out, SET.out, l, HX.out, .inl ⟨HBE.out, rfl⟩⟩)⟩
      · have HBE := Lib.hid hbest
        obtain ⟨av, cv, hav⟩ := ownsRow_form1 hown
        subst hav
        have HO := Lib.hid hown
        clear hbest hown
        go_wp2_with fail
        refine (limited_any _ av p.length cv true).mono ?_; rintro e w8 ⟨rfl, hk5⟩
        have HF8 := Lib.hid (HF7.out.keeps0 hk5)
        have HO8 := Lib.hid (hk5.ownsRow HO.out (fun _ _ h => h))
        obtain ⟨e0, e1, z0, z1, hF⟩ := HF8.out.cells
        clear hk5
        by_cases hp : p.length ≤ 60
        · simp only [limV, hp, if_true]
          go_wp2_with fail
          refine bodyPost_ret (results_tmp2_cell _ _ (w.heap.size + 1) 30 #[.int .i64 0, .int .i64 0] (0, 0) _ rfl rfl (HF8.out.set (.int .i64 0) (.int .i64 0)).1 Try.underlying30 rfl (by kernel_rfl)) rfl ?_
          have kS := keeps_pair (w := w8) (w.heap.size + 1) (.int .i64 0) (.int .i64 0)
          refine ⟨(HF8.out.set _ _).2, .inr (.inr ⟨OK.out, SET.out, l, HX.out, .inr ⟨p, HBE.out, .inr ⟨hp, _, rfl, ?_⟩⟩⟩)⟩
          refine ownsRow_mono (kS.ownsRow HO8.out (fun k hk e => ?_)) hlow
          have h1 := (World.ownsRow.lt HO8.out k hk).1
          have h2 := lt_of_heap HF6.out.blk
          omega
        · simp only [limV, hp, if_false]
          go_wp2_with fail
          refine bodyPost_ret (results_tmp2_cell _ _ (w.heap.size + 1) 30 #[.int .i64 10, .int .i64 (-9)] (0, 0) _ rfl rfl (HF8.out.set (.int .i64 10) (.int .i64 (-9))).1 Try.underlying30 rfl (by kernel_rfl)) rfl ?_
          exact ⟨(HF8.out.set _ _).2, .inr (.inr ⟨OK.out, SET.out, l, HX.out, .inr ⟨p, HBE.out, .inl ⟨by omega, rfl⟩⟩⟩)⟩
  · have hc2 : ((stateFault t s).1 == 0) = false := by simpa using hc
    have HC := Lib.hid hc
    clear hc
    generalize hfe : stateFault t s = f at hc2 HC ⊢
    have HFE := Lib.hid hfe
    clear hfe
    have HF3 := Lib.hid (HF2.out.keeps0 ((Keeps.refl _ _).alloc (.cells #[.int .i64 f.1, .int .i64 f.2] 30)))
    obtain ⟨e0, e1, z0, z1, hF⟩ := HF3.out.cells
    go_wp2_with fail
    go_region
    all_goals
      go_wp2
      refine bodyPost_ret (results_tmp2_cell _ _ (w.heap.size + 1) 30 #[.int .i64 f.1, .int .i64 f.2] (0, 0) _ rfl rfl (((Keeps.refl (fun _ => False) _).drew).heap (HF3.out.set (.int .i64 f.1) (.int .i64 f.2)).1 (fun h => h)) Try.underlying30 rfl (by kernel_rfl)) rfl ?_
      refine ⟨((HF3.out.set (.int .i64 f.1) (.int .i64 f.2)).2).drew, .inl ?_⟩
      rw [HFE.out]
      exact ⟨HC.out, rfl⟩

end Go.Proofs.Ytdonadeodioplaa

namespace Go.Proofs.Ytdonadeodioplaa
open Go.RowKit

def stepT : Tsk := ⟨1, [], [0], [⟨[], [0], [], 3⟩]⟩

theorem Ints.nil (w : World) : Ints w (.slice none 0 0) [] := ⟨none, 0, rfl, by simp, fun h => by simp at h⟩
theorem Ints.one {w : World} {b : Nat} {x : Int} {T : TypeId} (h : w.heap[b]? = some (.cells #[.int .i64 x] T (0, 0))) : Ints w (.slice (some ⟨b, 0, none⟩) 1 1) [x] := by
  refine ⟨_, _, rfl, by simp [maxLen], fun _ => ⟨b, 0, rfl, fun j y hj => ?_⟩⟩
  rw [Nat.zero_add, cell_of_blk h]
  cases j with
  | zero => simpa using hj
  | succ j => simp at hj

set_option maxRecDepth 100000 in
theorem step_any (w : World) : Calls Try.prog 42 #[] w fun e w' => ∃ vi vg vo, e = .returned (.agg #[.int .i64 1, vi, vg, vo]) ∧ TaskAt w' vi vg vo stepT ∧ Keeps (fun _ => False) w w' := by
  go_enter Try.func42, Try.ntmps42
  go_wp2_with fail
  generalize hw1 : w.alloc (Obj.cells #[.int .i64 1, .slice none 0 0, .slice (some ⟨w.heap.size + 1, 0, none⟩) 1 1, .slice (some ⟨w.heap.size + 1 + 1 + 1, 0, none⟩) 1 1] 25) = w1
  have s1 : w1.heap.size = w.heap.size + 1 := by rw [← hw1]; simp
  have k1 : Keeps (fun _ => False) w w1 := by rw [← hw1]; exact (Keeps.refl _ _).alloc _
  have b1 : w1.heap[w.heap.size]? = some (.cells #[.int .i64 1, .slice none 0 0, .slice (some ⟨w.heap.size + 1, 0, none⟩) 1 1, .slice (some ⟨w.heap.size + 1 + 1 + 1, 0, none⟩) 1 1] 25 (0, 0)) := by rw [← hw1]; exact heap_alloc_new _ _
  clear hw1
  have b2 := heap_alloc_new w1 (.cells #[.int .i64 0] 3)
  have k2 := (Keeps.refl (fun _ => False) w1).alloc (.cells #[.int .i64 0] 3)
  have s2 : (w1.alloc (.cells #[.int .i64 0] 3)).heap.size = w1.heap.size + 1 := by simp
  generalize w1.alloc (.cells #[.int .i64 0] 3) = w2 at b2 k2 s2 ⊢
  have b3 := heap_alloc_new w2 (.cells #[.int .i64 0] 3)
  have k3 := (Keeps.refl (fun _ => False) w2).alloc (.cells #[.int .i64 0] 3)
  have s3 : (w2.alloc (.cells #[.int .i64 0] 3)).heap.size = w2.heap.size + 1 := by simp
  generalize w2.alloc (.cells #[.int .i64 0] 3) = w3 at b3 k3 s3 ⊢
  have b4 := heap_alloc_new w3 (.cells #[.slice none 0 0, .slice (some ⟨w.heap.size + 1 + 1, 0, none⟩) 1 1, .slice none 0 0, .int .i64 3] 39)
  have k4 := (Keeps.refl (fun _ => False) w3).alloc (.cells #[.slice none 0 0, .slice (some ⟨w.heap.size + 1 + 1, 0, none⟩) 1 1, .slice none 0 0, .int .i64 3] 39)
  generalize w3.alloc (.cells #[.slice none 0 0, .slice (some ⟨w.heap.size + 1 + 1, 0, none⟩) 1 1, .slice none 0 0, .int .i64 3] 39) = w4 at b4 k4 ⊢
  have k14 := k2.trans (k3.trans k4)
  refine bodyPost_ret (results_cell_row rfl _ _ w.heap.size 25 _ (0, 0) _ rfl (k14.heap b1 (fun h => h)) Try.underlying25 rfl (by kernel_rfl)) rfl ?_
  have e1 : w1.heap.size = w.heap.size + 1 := s1
  have e2 : w2.heap.size = w.heap.size + 1 + 1 := by omega
  have e3 : w3.heap.size = w.heap.size + 1 + 1 + 1 := by omega
  rw [e1] at b2; rw [e2] at b3; rw [e3] at b4
  refine ⟨_, _, _, rfl, ⟨Ints.nil _, Ints.one ((k3.trans k4).heap b2 (fun h => h)), ⟨_, _, rfl, by simp [maxLen, stepT], fun _ => ⟨_, 0, rfl, fun i o ho => ?_⟩⟩⟩, k1.trans k14⟩
  cases i with
  | zero =>
    simp [stepT] at ho; subst ho
    refine ⟨.slice none 0 0, .slice (some ⟨w.heap.size + 1 + 1, 0, none⟩) 1 1, .slice none 0 0, ?_, ?_, ?_, ?_, Ints.nil _, Ints.one (k4.heap b3 (fun h => h)), Ints.nil _⟩
    all_goals (rw [cell_of_blk b4]; rfl)
  | succ i => simp [stepT] at ho

theorem stepT_ok : taskFault stepT = (0, 0) := by decide
theorem stepT_reached : explored stepT = some [0, 1] := reached_of_end (i := 2) (by decide) rfl
theorem stepT_best : Best (wordsOf stepT.ops) (wd stepT.init) (goalB (wd stepT.goal)) (some [0]) := by
  refine ⟨⟨1, by decide, by decide⟩, fun q y hq hy => ?_⟩
  cases q with
  | nil =>
    simp [runOps] at hq; subst hq
    exact absurd hy (by decide)
  | cons a q =>
    cases q with
    | nil =>
      refine .inr ⟨rfl, ?_⟩
      rcases Nat.eq_zero_or_pos a with h | h
      · exact .inr ⟨h.symm, trivial⟩
      · exact .inl h
    | cons b q => exact .inl (by simp)
theorem stepT_best2 : Best (wordsOf stepT.ops) (wd stepT.init) (fun x => x == wd [0]) (some [0]) := by
  refine ⟨⟨1, by decide, by decide⟩, fun q y hq hy => ?_⟩
  cases q with
  | nil =>
    simp [runOps] at hq; subst hq
    exact absurd hy (by decide)
  | cons a q =>
    cases q with
    | nil =>
      refine .inr ⟨rfl, ?_⟩
      rcases Nat.eq_zero_or_pos a with h | h
      · exact .inr ⟨h.symm, trivial⟩
      · exact .inl h
    | cons b q => exact .inl (by simp)

theorem planStep_any (w : World) (vi vg vo : Value) (h : TaskAt w vi vg vo stepT) :
    Calls Try.prog 41 #[.agg #[.int .i64 1, vi, vg, vo]] w fun e w' => ∃ v, e = .returned (.tuple #[v, .bool true, fltV 0 0]) ∧ Ints w' v [0] ∧ Keeps (fun _ => False) w w' := by
  refine (plan_any w vi vg vo stepT h).mono ?_
  rintro e w' ⟨hk, hr⟩
  rcases hr with ⟨h1, _⟩ | ⟨_, h1, _⟩ | ⟨_, l, h1, hw⟩
  · rw [stepT_ok] at h1; exact absurd rfl h1
  · rw [stepT_reached] at h1; cases h1
  · rcases hw with ⟨hb, _⟩ | ⟨p, hb, hp⟩
    · cases hb.unique stepT_best
    · cases hb.unique stepT_best
      rcases hp with ⟨h60, _⟩ | ⟨_, v, he, ho⟩
      · simp at h60
      · exact ⟨v, he, Ints.of_own (l := [0]) ho, hk⟩

theorem reachStep_any (w : World) (vi vg vo vs : Value) (h : TaskAt w vi vg vo stepT) (hs : Ints w vs [0]) :
    Calls Try.prog 37 #[.agg #[.int .i64 1, vi, vg, vo], vs] w fun e w' => ∃ v, e = .returned (.tuple #[v, .bool true, fltV 0 0]) ∧ Ints w' v [0] ∧ Keeps (fun _ => False) w w' := by
  refine (reach_any w vi vg vo vs stepT [0] h hs).mono ?_
  rintro e w' ⟨hk, hr⟩
  rcases hr with ⟨h1, _⟩ | ⟨_, _, h1, _⟩ | ⟨_, _, l, h1, hw⟩
  · exact absurd (by decide) h1
  · rw [stepT_reached] at h1; cases h1
  · rcases hw with ⟨hb, _⟩ | ⟨p, hb, hp⟩
    · cases hb.unique stepT_best2
    · cases hb.unique stepT_best2
      rcases hp with ⟨h60, _⟩ | ⟨_, v, he, ho⟩
      · simp at h60
      · exact ⟨v, he, Ints.of_own (l := [0]) ho, hk⟩

set_option maxRecDepth 100000 in
set_option maxHeartbeats 2000000 in
theorem breadthExample_any (w : World) : Calls Try.prog 36 #[] w fun e w' => e = .returned (.bool true) ∧ Keeps (fun _ => False) w w' := by
  go_enter Try.func36, Try.ntmps36
  go_wp2_with fail
  refine (step_any _).mono ?_; rintro e w1 ⟨vi, vg, vo, rfl, ht, hk⟩
  have HT := Lib.hid ht; have K1 := Lib.hid hk
  clear ht hk
  go_wp2_with fail
  refine (planStep_any _ _ _ _ HT.out).mono ?_; rintro e w2 ⟨vp, rfl, hp, hk⟩
  obtain ⟨ap, cp, hvp, _⟩ := hp.form
  subst hvp
  have HP := Lib.hid hp; have K2 := Lib.hid (K1.out.trans hk)
  clear hp hk HT
  simp only [fltV]
  go_upto_region 2 with fail
  have H3 := Lib.hid (heap_alloc_new w2 (.cells #[.int .i64 0, .int .i64 0] 30))
  have KA := (Keeps.refl (fun _ => False) w2).alloc (.cells #[.int .i64 0, .int .i64 0] 30)
  have K3 := Lib.hid (K2.out.trans KA); have HP3 := Lib.hid (HP.out.keeps0 KA)
  clear KA
  generalize w2.alloc (.cells #[.int .i64 0, .int .i64 0] 30) = w3 at H3 K3 HP3 ⊢
  generalize w2.heap.size = b3 at H3 ⊢
  go_wp2_with fail
  refine (step_any _).mono ?_; rintro e w4 ⟨vi2, vg2, vo2, rfl, ht, hk⟩
  have KA := (Keeps.refl (fun _ => False) w4).alloc (.cells #[.int .i64 0] 3)
  have HT := Lib.hid (ht.keeps0 KA); have K5 := Lib.hid (K3.out.trans (hk.trans KA))
  have HP5 := Lib.hid (HP3.out.keeps0 (hk.trans KA))
  have H5 := Lib.hid ((hk.trans KA).heap H3.out (fun h => h))
  have HS5 := Lib.hid (Ints.one (x := 0) (heap_alloc_new w4 (.cells #[.int .i64 0] 3)))
  clear ht hk KA
  go_wp2_with fail
  refine (reachStep_any _ _ _ _ _ HT.out HS5.out).mono ?_; rintro e w6 ⟨vq, rfl, hq, hk⟩
  obtain ⟨aq, cq, hvq, _⟩ := hq.form
  subst hvq
  have HQ := Lib.hid hq; have K6 := Lib.hid (K5.out.trans hk)
  have HP6 := Lib.hid (HP5.out.keeps0 hk)
  have H6 := Lib.hid (hk.heap H5.out (fun h => h))
  clear hq hk HT HS5
  simp only [fltV]
  go_upto_region 3 with fail
  have H7 := Lib.hid (heap_alloc_new w6 (.cells #[.int .i64 0, .int .i64 0] 30))
  have KA := (Keeps.refl (fun _ => False) w6).alloc (.cells #[.int .i64 0, .int .i64 0] 30)
  have K7 := Lib.hid (K6.out.trans KA); have HP7 := Lib.hid (HP6.out.keeps0 KA); have HQ7 := Lib.hid (HQ.out.keeps0 KA)
  have H37 := Lib.hid (KA.heap H6.out (fun h => h))
  clear KA
  generalize w6.alloc (.cells #[.int .i64 0, .int .i64 0] 30) = w7 at H7 K7 HP7 HQ7 H37 ⊢
  generalize w6.heap.size = b7 at H7 ⊢
  obtain ⟨p0, p1, z0, z1, hl3⟩ := pair_cells H7.out
  obtain ⟨q0, q1, y0, y1, hl4⟩ := pair_cells H37.out
  have KA := (Keeps.refl (fun _ => False) w7).alloc (.cells #[.int .i64 0] 3)
  have HP8 := Lib.hid (HP7.out.keeps0 KA); have HQ8 := Lib.hid (HQ7.out.keeps0 KA); have K8 := Lib.hid (K7.out.trans KA)
  have HS8 := Lib.hid (Ints.one (x := 0) (heap_alloc_new w7 (.cells #[.int .i64 0] 3)))
  clear KA
  go_wp2_with fail
  refine (ints_any _ _ _ _ _ HP8.out HS8.out).mono ?_; rintro e w9 ⟨rfl, hk⟩
  have KA := (Keeps.refl (fun _ => False) w9).alloc (.cells #[.int .i64 0] 3)
  have HQ9 := Lib.hid ((HQ8.out.keeps0 hk).keeps0 KA); have K9 := Lib.hid (K8.out.trans (hk.trans KA))
  have HS9 := Lib.hid (Ints.one (x := 0) (heap_alloc_new w9 (.cells #[.int .i64 0] 3)))
  clear hk KA p0 p1 z0 z1 hl3 q0 q1 y0 y1 hl4
  rw [show (([0] : List Int) == [0]) = true from rfl]
  go_wp2_with fail
  refine (ints_any _ _ _ _ _ HQ9.out HS9.out).mono ?_; rintro e w10 ⟨rfl, hk⟩
  have K10 := Lib.hid (K9.out.trans hk)
  clear hk
  rw [show (([0] : List Int) == [0]) = true from rfl]
  go_wp2_with fail
  go_ret
  exact ⟨rfl, K10.out⟩

end Go.Proofs.Ytdonadeodioplaa

namespace Go.Proofs.Ytdonadeodioplaa
open Go.RowKit

/-- The least way, as the reference tells it. -/
def BestPost (ops : List Wop) (s : Nat) (acc : Nat → Bool) (w : World) (e : Ending) (w' : World) : Prop := Keeps (fun _ => False) w w' ∧
  ∃ (o : Option (List Nat)) (v : Value), Best ops s acc o ∧ e = .returned (.tuple #[v, .bool o.isSome]) ∧ Ints w' v (intsP (o.getD [])) ∧ ∀ k, v.ownBlock = some k → w.heap.size ≤ k

theorem short_best {ops : List Wop} {s : Nat} {L : List Nat} (hL : reached ops s = some L) {acc : Nat → Bool} {w w' : World} {e : Ending} (h : ShortPost w (arcs ops L) (L.map acc) 0 e w') : BestPost ops s acc w e w' := by
  obtain ⟨hk, d, hok, hr⟩ := h
  obtain ⟨_, _, h0, _⟩ := reached_some hL
  refine ⟨hk, ?_⟩
  rcases hr with ⟨x, h1, h2, rfl⟩ | ⟨l, v, h1, rfl, h2⟩
  · exact ⟨none, _, go_none (shut_reached hL) hok h0 h1 h2, rfl, Ints.nil _, fun k hk => by simp [Value.ownBlock] at hk⟩
  · refine ⟨some l, v, go_best (shut_reached hL) hok h1 h0, rfl, ?_, fun k hk => (World.ownsRow.lt h2 k hk).1⟩
    refine Ints.of_own (base := w.heap.size) (e := 3) ?_
    show w'.ownsRow _ _ _ _ (intsP l).length _
    unfold intsP
    rw [List.length_map, List.map_map]
    exact h2

/-- What breadth hands back, beside the least way. -/
structure WayRes (ops : List Wop) (s : Nat) (acc : Nat → Bool) (c i : Int) (bp : Bool) (lp : List Int) (o : Option (List Nat)) : Prop where
  best : Best ops s acc o
  fault : wayF (o.getD []).length (0, 0) = (c, i)
  bad : c ≠ 0 → bp = false ∧ lp = []
  good : c = 0 → bp = o.isSome ∧ lp = intsP (o.getD [])

theorem way_res {ops : List Wop} {s : Nat} {acc : Nat → Bool} {w w' : World} {e : Ending} (h : WayPost ops s acc w e w') :
    ∃ v c i bp lp o, e = .returned (.tuple #[v, .bool bp, fltV c i]) ∧ Ints w' v lp ∧ WayRes ops s acc c i bp lp o := by
  rcases h with ⟨hb, rfl⟩ | ⟨p, hb, ⟨h60, rfl⟩ | ⟨h60, v, rfl, ho⟩⟩
  · exact ⟨_, 0, 0, false, [], none, rfl, Ints.nil _, hb, by decide, fun h => absurd rfl h, fun _ => ⟨rfl, rfl⟩⟩
  · exact ⟨_, 10, -9, false, [], some p, rfl, Ints.nil _, hb, by unfold wayF; rw [if_pos ⟨rfl, h60⟩], fun _ => ⟨rfl, rfl⟩, fun h => by simp at h⟩
  · refine ⟨v, 0, 0, true, intsP p, some p, rfl, ?_, hb, by unfold wayF; rw [if_neg (fun h => by have h2 : 60 < p.length := h.2; omega)], fun h => absurd rfl h, fun _ => ⟨rfl, rfl⟩⟩
    refine Ints.of_own (base := w.heap.size) (e := 3) ?_
    have : (intsP p).length = p.length := by unfold intsP; rw [List.length_map]
    rw [this]; exact ho

theorem goalW_goalB {t : Tsk} (ok : t.Ok) {x : Nat} (hx : Good t.n x) : goalW t x = goalB (wd t.goal) x := by
  have h := appL_word (n := t.n) (o := ⟨t.goal, [], [], 0⟩) ⟨ok.goal, by rfl, by rfl, by rfl, by simp, by simp⟩ hx.1
  rw [hx.2] at h
  exact h

theorem good_next_mem {t : Tsk} (ok : t.Ok) {x y : Nat} (hx : Good t.n x) (hy : y ∈ nexts (wordsOf t.ops) x) : Good t.n y := by
  unfold nexts at hy
  obtain ⟨wo, hwo, rfl⟩ := List.mem_map.1 hy
  have hm := (List.mem_filter.1 hwo).1
  unfold wordsOf at hm
  obtain ⟨o, ho, rfl⟩ := List.mem_map.1 hm
  exact (good_next (by have := ok.n1; omega) (ok.ops o ho) hx).2.2
theorem good_reach {t : Tsk} (ok : t.Ok) {s x : Nat} (hs : Good t.n s) (h : Reach (wordsOf t.ops) s x) : Good t.n x := by
  induction h with
  | refl => exact hs
  | step _ hy ih => exact good_next_mem ok ih hy
theorem good_explored {t : Tsk} (ok : t.Ok) {L : List Nat} (h : explored t = some L) : ∀ x ∈ L, Good t.n x := by
  intro x hx
  exact good_reach ok (good_wd (by have := ok.n1; omega) ok.init) (((reached_some h).2.2.2 x).1 hx)
theorem goals_eq {t : Tsk} (ok : t.Ok) {L : List Nat} (h : ∀ x ∈ L, Good t.n x) : L.map (goalW t) = L.map (goalB (wd t.goal)) := by
  apply List.map_congr_left
  intro x hx
  exact goalW_goalB ok (h x hx)

end Go.Proofs.Ytdonadeodioplaa

namespace Go.Proofs.Ytdonadeodioplaa
open Go.RowKit

theorem facts_beq {n : Int} (hn : n ≤ 32) {x : Nat} (hx : Good n x) {s : List Int} (hs : isSetB s n = true) : (facts x == s) = (x == wd s) := by
  rw [Bool.eq_iff_iff, beq_iff_eq, beq_iff_eq]
  constructor
  · rintro rfl; exact hx.2.symm
  · rintro rfl; exact facts_wd (isSet_mono hs hn)

theorem place_mem {n : Int} (hn : n ≤ 32) {L : List Nat} (hg : ∀ x ∈ L, Good n x) {s : List Int} (hs : isSetB s n = true) :
    (∃ k : Nat, L[k]? = some (wd s) ∧ placeL (L.map facts) s = k) ∨ (wd s ∉ L ∧ placeL (L.map facts) s = -1) := by
  by_cases hm : wd s ∈ L
  · left
    unfold placeL
    cases hf : (L.map facts).findIdx? (fun l => l == s) with
    | none =>
      rw [List.findIdx?_eq_none_iff] at hf
      have := hf (facts (wd s)) (List.mem_map.2 ⟨_, hm, rfl⟩)
      simp [facts_wd (isSet_mono hs hn)] at this
    | some k =>
      obtain ⟨h1, h2, _⟩ := List.findIdx?_eq_some_iff_getElem.1 hf
      have h3 : k < L.length := by simpa using h1
      refine ⟨k, ?_, rfl⟩
      rw [List.getElem_map, facts_beq hn (hg _ (List.getElem_mem h3)) hs, beq_iff_eq] at h2
      rw [List.getElem?_eq_getElem h3, h2]
  · right
    refine ⟨hm, placeL_none fun l hl => ?_⟩
    obtain ⟨x, hx, rfl⟩ := List.mem_map.1 hl
    rw [facts_beq hn (hg x hx) hs, beq_eq_false_iff_ne]
    rintro rfl; exact hm hx

theorem only_set {L : List Nat} (hd : L.Nodup) {k y : Nat} (hk : L[k]? = some y) : (List.replicate L.length false).set k true = L.map fun x => x == y := by
  apply List.ext_getElem?
  intro j
  rw [List.getElem?_set, List.getElem?_map, List.length_replicate]
  have hkl := (List.getElem?_eq_some_iff.1 hk).1
  by_cases hj : k = j
  · subst hj
    rw [if_pos rfl, if_pos hkl, hk]; simp
  · rw [if_neg hj, List.getElem?_replicate]
    cases hx : L[j]? with
    | none => rw [if_neg (by have := List.getElem?_eq_none_iff.1 hx; omega)]; rfl
    | some x =>
      rw [if_pos (List.getElem?_eq_some_iff.1 hx).1]
      have : x ≠ y := by rintro rfl; exact hj (nodup_ix hd hk hx)
      simp [this]
theorem only_none {L : List Nat} {y : Nat} (h : y ∉ L) : List.replicate L.length false = L.map fun x => x == y := by
  rw [← List.map_const']
  apply List.map_congr_left
  intro x hx
  rw [eq_comm, beq_eq_false_iff_ne]
  rintro rfl; exact h hx

end Go.Proofs.Ytdonadeodioplaa
