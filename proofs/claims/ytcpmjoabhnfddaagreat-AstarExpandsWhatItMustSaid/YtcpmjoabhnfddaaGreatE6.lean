/- Costs in plain words: two solutions agree; the search that corrects costs. breadth.limited and breadth.Plan. The reference's Less and States; the laws' lists. strips.StateFault, breadth.Reach. The example task of the laws; breadth's example. breadth: the law that Plan is the reference's. breadth: the law that Reach is the reference's. space.Distances, space.Optimal. strips: sets, states and plans in plain words. Plans and the table of costs, in plain words. The least price of a plan, in plain Lean: what a search for best plans must find. A search from both ends, in plain Lean: what its two sides know, and that they have met on a best way when it ends. A search from both ends, in plain Lean: the way back from a state, the measure of the search, its start, and the best plan at its end. A search from both ends, in plain Lean: the state in the middle, and the costs of both parts. A search from both ends, in plain Lean: the arcs of both sides. strips.Contains, Update, Can, Next. strips.Solves, Cost, Play. breadth: BreadthAgreesWithSteps walked. No condition beyond what each theorem says. -/
import Derived.Test.YtcpmjoabhnfddaaGreatE4
import Derived.Test.YtcpmjoabhnfddaaGreatE1
import Derived.Test.YtcpmjoabhnfddaaGreatE5
import Derived.Sort.LoopGhostIn
import Derived.IntWalk
import Derived.Lib.SlicesCompact
import Derived.Sort.OwnSortedInts
import Derived.Test.YtcpmjoabhnfddaaGreatE3

namespace Go.Proofs.YtcpmjoabhnfddaaGreat

/-! ### a map of costs -/
/-! ### the queue as a list of items and keys -/
def dropA (A : List (Int × Int)) (x : Int) : List (Int × Int) := A.filter fun p => p.1 != x
def putA (A : List (Int × Int)) (x k : Int) : List (Int × Int) := A.filter (fun p => p.1 != x) ++ [(x, k)]
theorem mem_putA {A : List (Int × Int)} {x k : Int} {p : Int × Int} : p ∈ putA A x k ↔ (p ∈ A ∧ p.1 ≠ x) ∨ p = (x, k) := by unfold putA; simp
theorem putA_len (A : List (Int × Int)) (x k : Int) : (putA A x k).length ≤ A.length + 1 := by
  unfold putA; rw [List.length_append]; have := List.length_filter_le (fun p : Int × Int => p.1 != x) A; simp; omega
theorem dropA_len {A : List (Int × Int)} {x k : Int} (h : (x, k) ∈ A) : (dropA A x).length < A.length := by
  unfold dropA
  refine Nat.lt_of_le_of_ne (List.length_filter_le _ _) (fun e => ?_)
  have := List.length_filter_eq_length_iff.1 e (x, k) h
  simp at this

end Go.Proofs.YtcpmjoabhnfddaaGreat

/- A map whose values own rows apart from each other (m[k] = append(m[k], x)). Nothing here speaks of one program. -/
namespace Go.Proofs.YtcpmjoabhnfddaaGreat
open Go.RowKit

section
variable {α : Type} {B : Nat} {T : TypeId} {sz mb : Nat} {cell : α → List Value} {f : Nat → List α} {F : Nat → Prop} {W : World}

end

end Go.Proofs.YtcpmjoabhnfddaaGreat

/- space.Costs: what its loops know. -/
namespace Go.Proofs.YtcpmjoabhnfddaaGreat
open Go.RowKit Go.Shelf

/-! ### the arcs into each state -/
/-! ### the state of the walk -/
/-- The queue's blocks are no blocks of deferred calls. -/
theorem U.QRep.live {w : World} {Q : Nat} {A : List (Int × Int)} {t : Int} {F : Nat → Prop} (h : U.QRep w Q A t F) : U.QRep w Q A t (fun b => F b ∧ b < w.heap.size ∧ w.heap[b]? ≠ some (.deferred (some []))) := by
  obtain ⟨v, Mb, l, L, E, h⟩ := h
  refine ⟨v, Mb, l, L, E, { h with fQ := ⟨h.fQ, h.lt.1, cells_not_deferred h.q⟩, fM := ⟨h.fM, h.lt.2.1, map_not_deferred h.mp⟩, fH := fun b hb => ⟨h.fH b hb, h.lt.2.2 b hb, ?_⟩ }⟩
  rcases hb with hb | ⟨e, he, rfl⟩
  · exact row_not_deferred h.rep.row b hb
  · obtain ⟨j, hj⟩ := List.mem_iff_getElem?.1 he
    exact cells_not_deferred (h.rep.ent j e hj)

theorem Keeps.nd {S : Nat → Prop} {W W' : World} (hk : Keeps S W W') {k : Nat} (hl : k < W.heap.size) (hs : ¬ S k) (h : W.heap[k]? ≠ some (.deferred (some []))) : W'.heap[k]? ≠ some (.deferred (some [])) := by
  rw [hk.block k hl hs]; exact h

section
variable {w0 : World} {b5 mb bo Q : Nat} {f : Nat → List (Nat × Int)} {L : List Nat} {D : Nat → Int} {A : List (Int × Int)} {t : Int} {F G : Nat → Prop} {W W' : World}
end

theorem ownsRow_formN {w : World} {base size n : Nat} {e : TypeId} {v : Value} {xs : List Value} (h : w.ownsRow base e size v n xs) : ∃ ao cap, v = .slice ao n cap := by
  rcases h.2 with ⟨hv, h0⟩ | ⟨g, cap, cur, hv, _⟩
  · exact ⟨none, 0, by rw [hv, h0]⟩
  · exact ⟨_, cap, hv⟩
/-- Set, whether the item lies in the queue or not. -/
theorem U.set_both (w : World) (Q : Nat) (A : List (Int × Int)) (t : Int) (F : Nat → Prop) (h : U.QRep w Q A t F) (x k : Int) (ht : 0 ≤ t ∧ t ≤ 1000000000000000) (hA : A.length ≤ 999999) :
    Calls Tryz.prog 94 #[.pointer (some ⟨Q, 0, none⟩), .int .u32 x, .int .i64 k] w fun e w' => e = .returned (.tuple #[]) ∧ ∃ F2, U.QRep w' Q (putA A x k) (t + 1) F2 ∧ (∀ b, F2 b → F b ∨ w.heap.size ≤ b) ∧ Keeps F w w' := by
  by_cases hm : ∃ p ∈ A, p.1 = x
  · obtain ⟨⟨x', k0⟩, hp, rfl⟩ := hm
    exact (U.set_old w Q A t F h x' k k0 hp ht).mono fun e w' ⟨h1, h2, h3⟩ => ⟨h1, F, h2, fun b hb => .inl hb, h3⟩
  · exact (U.set_new w Q A t F h x k (fun p hp e => hm ⟨p, hp, e⟩) ht hA).mono fun e w' ⟨h1, h2, h3⟩ => ⟨h1, _, h2, fun b hb => hb, h3⟩
/-- The same; new blocks of the queue are rows of cells. -/
theorem U.set_both2 (w : World) (Q : Nat) (A : List (Int × Int)) (t : Int) (F : Nat → Prop) (h : U.QRep w Q A t F) (x k : Int) (ht : 0 ≤ t ∧ t ≤ 1000000000000000) (hA : A.length ≤ 999999) :
    Calls Tryz.prog 94 #[.pointer (some ⟨Q, 0, none⟩), .int .u32 x, .int .i64 k] w fun e w' => e = .returned (.tuple #[]) ∧ ∃ F2, U.QRep w' Q (putA A x k) (t + 1) F2 ∧ (∀ b, F2 b → (F b ∧ ((∃ cs T fr, w'.heap[b]? = some (.cells cs T fr)) ∨ ∃ es c, w.heap[b]? = some (.map es c))) ∨ (w.heap.size ≤ b ∧ ∃ cs T fr, w'.heap[b]? = some (.cells cs T fr))) ∧ Keeps F w w' := by
  by_cases hm : ∃ p ∈ A, p.1 = x
  · obtain ⟨⟨x', k0⟩, hp, rfl⟩ := hm
    exact (U.set_old2 w Q A t F h x' k k0 hp ht).mono fun e w' ⟨h1, h2, h3⟩ => ⟨h1, _, h2, fun b hb => .inl hb, h3⟩
  · exact (U.set_new2 w Q A t F h x k (fun p hp e => hm ⟨p, hp, e⟩) ht hA).mono fun e w' ⟨h1, h2, h3⟩ => ⟨h1, _, h2, fun b hb => hb, h3⟩
end Go.Proofs.YtcpmjoabhnfddaaGreat

namespace Go.Proofs.YtcpmjoabhnfddaaGreat
open Go.RowKit

/-- Whether a word holds all facts of a goal. -/
def goalB (g x : Nat) : Bool := x &&& g == g

theorem goal_bits {x g : Nat} (hx : x < 4294967296) (hg : g < 4294967296) : (bits .and .u32 (x : Int) (g : Int) == (g : Int)) = goalB g x := by
  rw [(u32_bits hx hg).1]
  unfold goalB
  cases h : x &&& g == g with
  | true => rw [beq_iff_eq] at h ⊢; exact_mod_cast h
  | false => rw [beq_eq_false_iff_ne] at h ⊢; intro e; exact h (by exact_mod_cast e)

def fltV (c i : Int) : Value := .agg #[.int .i64 c, .int .i64 i]

end Go.Proofs.YtcpmjoabhnfddaaGreat

namespace Go.Proofs.YtcpmjoabhnfddaaGreat
open Go.RowKit

def lessL (a b : List Int) : Bool := decide (cmpL a b < 0)

set_option maxRecDepth 100000 in
set_option maxHeartbeats 2000000 in
theorem less_any (w : World) (va vb : Value) (a b : List Int) (ha : Ints w va a) (hb : Ints w vb b) :
    Calls Tryz.prog 63 #[va, vb] w fun e w' => e = .returned (.bool (lessL a b)) ∧ ∃ n, w' = w.drewN n := by
  obtain ⟨ao, ca, hva, ma⟩ := ha.form
  obtain ⟨bo, cb, hvb, mb⟩ := hb.form
  have CA := Lib.hid (ha.cell hva)
  have CB := Lib.hid (hb.cell hvb)
  subst hva hvb
  clear ha hb
  go_enter Tryz.func63, Tryz.ntmps63
  go_wp2_with fail
  go_loopw [5] (fun i wr => ∃ k : Nat, k ≤ a.length ∧ k ≤ b.length ∧ i = .int .i64 (k : Int) ∧ cmpL a b = cmpL (a.drop k) (b.drop k) ∧ ∃ nd, wr = w.drewN nd) (fun i _ => a.length - (intOf i).toNat)
  case atStart => exact ⟨0, Nat.zero_le _, Nat.zero_le _, rfl, rfl, 0, rfl⟩
  case round =>
    obtain ⟨k, hka, hkb, rfl, hc, nd, rfl⟩ := hrel
    have HC := Lib.hid hc; clear hc
    by_cases h1 : k < a.length
    · by_cases h2 : k < b.length
      · obtain ⟨ba, oa, rfl, ha'⟩ := CA.out (by omega)
        obtain ⟨bb, ob, rfl, hb'⟩ := CB.out (by omega)
        obtain ⟨x, hx⟩ : ∃ x, a[k]? = some x := ⟨_, List.getElem?_eq_getElem h1⟩
        obtain ⟨y, hy⟩ : ∃ y, b[k]? = some y := ⟨_, List.getElem?_eq_getElem h2⟩
        have ha1 := ha' k x hx
        have hb1 := hb' k y hy
        have HS := Lib.hid (cmpL_step hx hy)
        have i0 : (0 : Int) ≤ (k : Int) := by omega
        have i1 : (k : Int) < (a.length : Int) := by omega
        have i2 : (k : Int) < (b.length : Int) := by omega
        clear ha' hb' hx hy
        by_cases hxy : x = y
        · have hq : (x != y) = false := by simp [hxy]
          have HN := Lib.hid (show cmpL a b = cmpL (a.drop (k + 1)) (b.drop (k + 1)) by rw [HC.out, HS.out, if_neg (by omega), if_neg (by omega)])
          clear hxy
          go_wp2_with fail
          go_quiet (fail)
          go_wp2_with fail
          go_roundw
          case rel => exact ⟨k + 1, by omega, by omega, by go_num, HN.out, _, rfl⟩
          case measure => simp [intOf]; omega
        · have hq : (x != y) = true := by simp [hxy]
          have HN := Lib.hid (show lessL a b = decide (x < y) by
            unfold lessL
            rw [HC.out, HS.out]
            by_cases h : x < y
            · simp [h]
            · rw [if_neg h, if_pos (by omega)]; simp [h])
          clear hxy
          go_wp2_with fail
          go_quiet (fail)
          go_wp2_with fail
          go_quiet (fail)
          go_wp2_with fail
          go_ret
          exact ⟨congrArg (fun b => Ending.returned (Value.bool b)) HN.out.symm, _, by rw [World.drewN_drewN, World.drewN_drewN]⟩
      · have HN := Lib.hid (show lessL a b = false by unfold lessL; rw [HC.out, cmpL_long h1 (by omega)]; rfl)
        have hbl : b.length ≤ k := by omega
        have hd : ¬ (a.length : Int) < (b.length : Int) := by omega
        have hd2 : ¬ (k : Int) < (b.length : Int) := by omega
        have hd3 : ¬ a.length < b.length := by omega
        go_wp2_with fail
        go_ret
        exact ⟨congrArg (fun b => Ending.returned (Value.bool b)) HN.out.symm, _, rfl⟩
    · by_cases h2 : k < b.length
      · have HN := Lib.hid (show lessL a b = true by unfold lessL; rw [HC.out, cmpL_short (by omega) h2]; rfl)
        have hd3 : a.length < b.length := by omega
        go_wp2_with fail
        go_ret
        exact ⟨congrArg (fun b => Ending.returned (Value.bool b)) HN.out.symm, _, rfl⟩
      · have HN := Lib.hid (show lessL a b = false by unfold lessL; rw [HC.out, cmpL_end (by omega) (by omega)]; rfl)
        have hd3 : ¬ a.length < b.length := by omega
        go_wp2_with fail
        go_ret
        exact ⟨congrArg (fun b => Ending.returned (Value.bool b)) HN.out.symm, _, rfl⟩

/-! ### lists -/
/-! ### States -/
/-- The words in increasing order (by their lists of facts). -/
def ordW (a b : Nat) : Prop := ¬ cmpW b a < 0

theorem lessL_cmpW {x y : Nat} : lessL (facts x) (facts y) = decide (cmpW x y < 0) := rfl

/-- x stands behind P and before S; all of P S is in order, x goes before S. -/
structure InsAt (P S : List (Value × Nat)) (x : Nat) : Prop where
  sorted : ((P ++ S).map Prod.snd).Pairwise ordW
  right : ∀ p ∈ S, cmpW x p.2 < 0

theorem ordW_of_lt {x y : Nat} (h : cmpW x y < 0) : ordW x y := by
  unfold ordW cmpW at *
  rw [cmpL_neg]; omega
theorem InsAt.done {P S : List (Value × Nat)} {u : Value} {x : Nat} (h : InsAt P S x) (hl : ∀ p, P.getLast? = some p → ordW p.2 x) (htr : ∀ {a b c : Nat}, ordW a b → ordW b c → ordW a c) : ((P ++ (u, x) :: S).map Prod.snd).Pairwise ordW := by
  have hs := h.sorted
  rw [List.map_append, List.pairwise_append] at hs
  rw [List.map_append, List.map_cons, List.pairwise_append, List.pairwise_cons]
  refine ⟨hs.1, ⟨fun y hy => ?_, hs.2.1⟩, fun a ha b hb => ?_⟩
  · obtain ⟨p, hp, rfl⟩ := List.mem_map.1 hy
    exact ordW_of_lt (h.right p hp)
  · rcases List.mem_cons.1 hb with rfl | hb
    · obtain ⟨p, hp, rfl⟩ := List.mem_map.1 ha
      cases hg : P.getLast? with
      | none => rw [List.getLast?_eq_none_iff] at hg; subst hg; cases hp
      | some q =>
        have hq := hl q hg
        obtain ⟨r, rfl⟩ := List.getLast?_eq_some_iff.1 hg
        rcases List.mem_append.1 hp with hp | hp
        · have h1 := hs.1
          rw [List.map_append, List.pairwise_append] at h1
          exact htr (h1.2.2 p.2 (List.mem_map.2 ⟨p, hp, rfl⟩) q.2 (by simp)) hq
        · simp at hp; subst hp; exact hq
    · exact hs.2.2 a ha b hb
theorem InsAt.down {P S : List (Value × Nat)} {p : Value × Nat} {x : Nat} (h : InsAt (P ++ [p]) S x) (hp : cmpW x p.2 < 0) : InsAt P (p :: S) x := by
  refine ⟨by have := h.sorted; rwa [List.append_assoc, List.singleton_append] at this, fun q hq => ?_⟩
  rcases List.mem_cons.1 hq with rfl | hq
  · exact hp
  · exact h.right q hq

theorem ordW_trans {a b c : Nat} (h1 : ordW a b) (h2 : ordW b c) : ordW a c := by
  unfold ordW at *
  have e : ∀ x y : Nat, cmpW y x = - cmpW x y := fun x y => cmpL_neg _ _
  intro h3
  rw [e a b] at h1; rw [e b c] at h2
  by_cases hab : cmpW a b < 0
  · have h4 : cmpW c b < 0 := cmpL_trans h3 hab
    rw [e b c] at h4; omega
  · have hab0 : cmpW a b = 0 := by omega
    have := cmpL_eq hab0
    unfold cmpW at *
    rw [this] at h3
    rw [cmpL_neg] at h3; omega

theorem set_two {α : Type} {P S : List α} {p q : α} {k : Nat} (hk : P.length = k) : ((P ++ p :: q :: S).set (k + 1) p).set k q = P ++ q :: p :: S := by
  subst hk
  rw [List.set_append_right _ _ (by omega), List.set_append_right _ _ (by omega)]
  simp

def StatesPost (l : List Nat) (w : World) (e : Ending) (w' : World) : Prop := Keeps (fun _ => False) w w' ∧
  ∃ (L : List Nat) (v : Value), L.Perm l ∧ L.Pairwise ordW ∧ e = .returned (.tuple #[v, .bool true]) ∧ Lists w' v (L.map facts)

/-- A row of slices of facts. -/
structure PRow (w1 : World) (v : Value) (ps : List (Value × Nat)) (wr : World) : Prop where
  own : wr.ownsRow w1.heap.size 22 1 v ps.length (ps.map Prod.fst)
  vals : ∀ p ∈ ps, Ints w1 p.1 (facts p.2)
  keeps : Keeps (fun _ => False) w1 wr

theorem PRow.lists {w1 : World} {v : Value} {ps : List (Value × Nat)} {wr : World} (h : PRow w1 v ps wr) : Lists wr v ((ps.map Prod.snd).map facts) := by
  obtain ⟨ao, cap, hv, hm, hc⟩ := Sl.of_own h.own
  refine ⟨ao, cap, by rw [List.length_map, List.length_map]; exact hv, by rw [List.length_map, List.length_map]; exact hm.1, fun h0 => ?_⟩
  rw [List.length_map, List.length_map] at h0
  obtain ⟨b, off, ha, hx⟩ := hc h0
  refine ⟨b, off, ha, fun i l hl => ?_⟩
  rw [List.getElem?_map, List.getElem?_map] at hl
  cases hp : ps[i]? with
  | none => rw [hp] at hl; cases hl
  | some p =>
    rw [hp] at hl; cases hl
    exact ⟨p.1, hx i p.1 (by rw [List.getElem?_map, hp]; rfl), (h.vals p (List.mem_of_getElem? hp)).keeps0 h.keeps⟩
theorem PRow.cell {w1 : World} {g cap n : Nat} {ps : List (Value × Nat)} {wr : World} (h : PRow w1 (.slice (some ⟨g, 0, none⟩) n cap) ps wr) {i : Nat} {p : Value × Nat} (hp : ps[i]? = some p) : wr.cell? ⟨g, i, none⟩ = some p.1 := by
  have := World.ownsRow.cells h.own (g := g) rfl i p.1 (by rw [List.getElem?_map, hp]; rfl)
  have hadd : (⟨g, 0, none⟩ : Addr).add i = ⟨g, i, none⟩ := by unfold Addr.add; split <;> simp_all
  rwa [hadd] at this
theorem PRow.drew {w1 : World} {v : Value} {ps : List (Value × Nat)} {wr wq : World} (h : PRow w1 v ps wr) (hk : Keeps (fun _ => False) wr wq) : PRow w1 v ps wq := ⟨hk.ownsRow h.own (fun _ _ h => h), h.vals, h.keeps.trans hk⟩
/-- Two cells of the row stored. -/
theorem PRow.swap {w1 : World} {g cap n : Nat} {P S : List (Value × Nat)} {p q : Value × Nat} {wr : World} (hn : n = (P ++ p :: q :: S).length) (h : PRow w1 (.slice (some ⟨g, 0, none⟩) n cap) (P ++ p :: q :: S) wr) {k : Nat} (hk : P.length = k) :
    PRow w1 (.slice (some ⟨g, 0, none⟩) n cap) (P ++ q :: p :: S) ((wr.setCell ⟨g, k + 1, none⟩ p.1).setCell ⟨g, k, none⟩ q.1) := by
  subst hn
  have h1 := (h.own.stored (k + 1) p.1).1
  have h2 := (h1.stored k q.1).1
  have hl : (P ++ p :: q :: S).length = (P ++ q :: p :: S).length := by simp
  have hg : w1.heap.size ≤ g := (World.ownsRow.lt h.own g rfl).1
  refine ⟨?_, fun r hr => h.vals r ?_, h.keeps.trans' (((Keeps.refl (fun b => b = g) wr).setCell (p := ⟨g, k + 1, none⟩) (.inl rfl) _).setCell (p := ⟨g, k, none⟩) (.inl rfl) _) (fun b hb => .inr (by omega))⟩
  · have e : (((P ++ p :: q :: S).map Prod.fst).set (k + 1) p.1).set k q.1 = (P ++ q :: p :: S).map Prod.fst := by
      rw [List.map_append, List.map_cons, List.map_cons, set_two (by rw [List.length_map]; exact hk), List.map_append, List.map_cons, List.map_cons]
    rw [← e, ← hl]
    exact h2
  · simp only [List.mem_append, List.mem_cons] at hr ⊢
    rcases hr with hr | hr | hr | hr
    · exact .inl hr
    · exact .inr (.inr (.inl hr))
    · exact .inr (.inl hr)
    · exact .inr (.inr (.inr hr))

theorem ins_perm {P S ps : List (Value × Nat)} {u : Value} {x i : Nat} {l : List Nat} (h : P ++ S = ps) (hp : (ps.map Prod.snd).Perm (l.take i)) (hx : l.take (i + 1) = l.take i ++ [x]) : ((P ++ (u, x) :: S).map Prod.snd).Perm (l.take (i + 1)) := by
  rw [hx, List.map_append, List.map_cons]
  refine List.perm_middle.trans ?_
  refine (List.Perm.cons x ?_).trans (List.perm_append_singleton x _).symm
  rw [← List.map_append, h]
  exact hp

theorem less_b (w : World) (va vb : Value) {a b : List Int} {r : Bool} (ha : Ints w va a) (hb : Ints w vb b) (hr : lessL a b = r) :
    Calls Tryz.prog 63 #[va, vb] w fun e w' => e = .returned (.bool r) ∧ ∃ n, w' = w.drewN n := by rw [← hr]; exact less_any w va vb a b ha hb

set_option maxRecDepth 100000 in
set_option maxHeartbeats 4000000 in
theorem states_any (w : World) (vi vg vo : Value) (t : Tsk) (h : TaskAt w vi vg vo t) (ok : t.Ok) (l : List Nat) (hx : explored t = some l) :
    Calls Tryz.prog 33 #[.agg #[.int .i64 t.n, vi, vg, vo]] w (StatesPost l w) := by
  obtain ⟨j0, hj0, jz0, jz1, jz2⟩ := info_parts Tryz.info22
  obtain ⟨ai, ci, h1, _⟩ := h.init.form
  obtain ⟨ag, cg, h2, _⟩ := h.goal.form
  obtain ⟨ao, co, h3, hmo⟩ := h.ops.form
  subst h1 h2 h3
  have HB := Lib.hid (Four.new w (.int .i64 t.n) (.slice ai t.init.length ci) (.slice ag t.goal.length cg) (.slice ao t.ops.length co) 25)
  have K1 := (Keeps.refl (fun _ => False) w).alloc (.cells #[.int .i64 t.n, .slice ai t.init.length ci, .slice ag t.goal.length cg, .slice ao t.ops.length co] 25)
  have HT := Lib.hid (h.keeps0 K1); have HK := Lib.hid K1; have OK := Lib.hid ok; have HX := Lib.hid hx
  clear h K1 ok hx
  go_enter Tryz.func33, Tryz.ntmps33
  go_upto_region 1 with fail
  generalize (w.alloc (.cells #[.int .i64 t.n, .slice ai t.init.length ci, .slice ag t.goal.length cg, .slice ao t.ops.length co] 25)) = w1 at HB HT HK ⊢
  have hbx := HB.out.lt
  obtain ⟨d0, d1, d2, d3⟩ := HB.out
  go_wp2_with fail
  refine (reached_any _ _ _ _ t HT.out OK.out).mono ?_; rintro e w2 ⟨hk, hr⟩
  rcases hr with ⟨hn, rfl⟩ | ⟨l', hn, vl, vw, vs, rfl, hr⟩
  · have hx := HX.out
    unfold explored at hx
    rw [hx] at hn; cases hn
  obtain rfl : l' = l := by
    have hx := HX.out
    unfold explored at hx
    rw [hx] at hn; exact (Option.some.inj hn).symm
  have hfew := (reached_some hn).2.1
  have hlists := hr.lists
  obtain ⟨al, cl, hvl⟩ := ownsRow_form1 hr.out
  subst hvl
  have HCL := Lib.hid (hlists.cell rfl)
  have K2 := Lib.hid (HK.out.trans hk)
  clear hk hr hn d0 d1 d2 d3 hbx hlists
  go_wp2_with fail
  go_loopw [6, 7] (fun v6 v7 wr => ∃ (i : Nat) (ps : List (Value × Nat)), i ≤ l'.length ∧ v7 = .int .i64 (i : Int) ∧ PRow w2 v6 ps wr ∧ (ps.map Prod.snd).Perm (l'.take i) ∧ (ps.map Prod.snd).Pairwise ordW) (fun _ v7 _ => l'.length - (intOf v7).toNat)
  case atStart => exact ⟨0, [], Nat.zero_le _, rfl, ⟨World.ownsRow_nil _ _ _ _, (fun _ h => by cases h), Keeps.refl _ _⟩, by simp, by simp⟩
  case round =>
    obtain ⟨i, ps, hi, rfl, hp, hperm, hord⟩ := hrel
    obtain ⟨av, cv, hav⟩ := ownsRow_form1 hp.own
    subst hav
    have hpl : ps.length ≤ 2000 := by
      have := hperm.length_eq
      rw [List.length_map, List.length_take] at this; omega
    have HP := Lib.hid hp; have HPM := Lib.hid hperm; have HORD := Lib.hid hord
    have hsz := hp.keeps.size
    clear hp hperm hord
    by_cases hlt : i < l'.length
    · obtain ⟨bl, ol, rfl, hx'⟩ := HCL.out (by rw [List.length_map]; omega)
      obtain ⟨x, hx⟩ : ∃ x, l'[i]? = some x := ⟨_, List.getElem?_eq_getElem hlt⟩
      obtain ⟨u, hu, hiu⟩ := hx' i (facts x) (by rw [List.getElem?_map, hx]; rfl)
      have hu2 := HP.out.keeps.cell hu (fun h => h)
      have HU := Lib.hid hiu
      have HTK := Lib.hid (take_getS hx)
      obtain ⟨au, cu, hfu, _⟩ := hiu.form
      subst hfu
      clear hx' hx hu hiu
      go_wp2_with (at_builtin; refine wpList_append_d rfl _ _ _ rfl w2.heap.size 22 j0 _ 1 24 Tryz.underlying38 hj0 jz0 jz1 jz2 rfl (by omega) _ ps.length (ps.map Prod.fst) (by rfl) (World.ownsRow.alloc HP.out.own (.cells #[.slice au (facts x).length cu] 22)) ⟨wr.heap.size, 0, none⟩ 1 1 [.slice au (facts x).length cu] (by rfl) (by rfl) (World.news_of_block (cs := #[.slice au (facts x).length cu]) (t := 22) (fr := (0, 0)) (heap_alloc_new _ _)) (by simp [Value.oneCell']) (by omega) (by unfold maxLen; omega) (by omega) (by simp; omega) (wr.heap.size + 1) (by simp) ?_)
      intro gg cap2 w4 hown hgrow hat hlt4 hd4
      have HN4 := Lib.hid (show PRow w2 (.slice (some ⟨gg, 0, none⟩) (ps.length + 1) cap2) (ps ++ [(.slice au (facts x).length cu, x)]) w4 from
        ⟨by rw [List.length_append, List.map_append]; exact hown, fun p hp => by
          rcases List.mem_append.1 hp with hp | hp
          · exact HP.out.vals p hp
          · simp at hp; subst hp; exact HU.out, own_grown HP.out.own HP.out.keeps ((Keeps.refl _ wr).alloc (.cells #[.slice au (facts x).length cu] 22)) hgrow⟩)
      have HAL := Lib.hid hown.2
      clear hown hgrow hat hd4 hu2
      go_wp2_with fail
      go_loopw [8] (fun v8 wq => ∃ (k : Nat) (P S : List (Value × Nat)), v8 = .int .i64 (k : Int) ∧ P.length = k ∧ P ++ S = ps ∧ PRow w2 (.slice (some ⟨gg, 0, none⟩) (ps.length + 1) cap2) (P ++ (.slice au (facts x).length cu, x) :: S) wq ∧ InsAt P S x) (fun v8 _ => (intOf v8).toNat)
      case atStart => exact ⟨ps.length, ps, [], by simp, rfl, by simp, HN4.out, ⟨by rw [List.append_nil]; exact HORD.out, fun p hp => by cases hp⟩⟩
      case round =>
        obtain ⟨k, P, S, rfl, hPk, hPS, hrow, hins⟩ := hrel
        have HROW := Lib.hid hrow; have HINS := Lib.hid hins; have HPS := Lib.hid hPS
        have hklen : k ≤ ps.length := by rw [← hPS, List.length_append]; omega
        have hgl := (World.ownsRow.lt hrow.own gg rfl).2
        clear hrow hins hPS
        by_cases hk0 : 0 < k
        · obtain ⟨P', p, rfl⟩ : ∃ P' p, P = P' ++ [p] := by
            refine ⟨P.dropLast, P.getLast (by rintro rfl; simp at hPk; omega), ?_⟩
            rw [List.dropLast_concat_getLast]
          have hPl : P'.length + 1 = k := by rw [← hPk]; simp
          have hck : (P' ++ [p] ++ (.slice au (facts x).length cu, x) :: S)[k]? = some (.slice au (facts x).length cu, x) := by
            rw [List.getElem?_append_right (by rw [hPk]; omega), hPk, Nat.sub_self]; rfl
          have hcp : (P' ++ [p] ++ (.slice au (facts x).length cu, x) :: S)[k - 1]? = some p := by
            rw [List.append_assoc, List.getElem?_append_right (by omega), show k - 1 - P'.length = 0 by omega]; rfl
          have c1 := HROW.out.cell hck
          have c2 := HROW.out.cell hcp
          have hpm : p ∈ P' ++ [p] ++ (.slice au (facts x).length cu, x) :: S := List.mem_of_getElem? hcp
          have HPV := Lib.hid ((HROW.out.vals p hpm).keeps0 HROW.out.keeps)
          have HUV := Lib.hid (show Ints wr (.slice au (facts x).length cu) (facts x) from HU.out.keeps0 HROW.out.keeps)
          obtain ⟨vp, xp⟩ := p
          obtain ⟨ap, cp, hfp, _⟩ := (HROW.out.vals _ hpm).form
          simp only at hfp
          subst hfp
          simp only at c2
          have hw1 : IntKind.i64.wrap ((k : Int) - 1) = (k : Int) - 1 := IntWalk.i64_in _ (by omega)
          have hw2 : ((k : Int) - 1).toNat = k - 1 := by omega
          have hw3 : (0 : Int) ≤ (k : Int) - 1 := by omega
          have hw4 : (k : Int) - 1 < (ps.length : Int) + 1 := by omega
          have hw5 : (k : Int) < (ps.length : Int) + 1 := by omega
          have hw6 : (0 : Int) ≤ (k : Int) := by omega
          have hq : decide (0 < (k : Int)) = true := by simpa using hk0
          clear hck hcp hpm
          cases hlb : lessL (facts x) (facts xp) with
          | false =>
            have HLB := Lib.hid hlb
            clear hlb
            have HN := Lib.hid (HINS.out.done (u := .slice au (facts x).length cu) (fun q hq => by
              simp at hq; subst hq
              have h := HLB.out
              rw [lessL_cmpW] at h
              unfold ordW
              exact of_decide_eq_false h) ordW_trans)
            go_wp2_with fail
            go_quiet ((go_at_call 63; exact Calls.quiet_of (less_b _ _ _ (HUV.out.keeps0 ((Keeps.refl _ _).drewN _)) (HPV.out.keeps0 ((Keeps.refl _ _).drewN _)) HLB.out)))
            have HRW := Lib.hid (HROW.out.drew ((Keeps.refl _ wr).drewN nq))
            clear c1 c2 hw1 hw2 hw3 hw4
            generalize wr.drewN nq = w6 at HRW ⊢
            have HPE := Lib.hid (ins_perm (u := .slice au (facts x).length cu) HPS.out HPM.out HTK.out)
            go_wp2_with fail
            go_roundw
            case rel => exact ⟨i + 1, _, by omega, by go_num, HRW.out, HPE.out, HN.out⟩
            case measure => simp [intOf]; omega
          | true =>
            have HLB := Lib.hid hlb
            clear hlb
            have HN := Lib.hid (HINS.out.down (by
              have h := HLB.out
              rw [lessL_cmpW] at h
              exact of_decide_eq_true h))
            go_wp2_with fail
            go_quiet ((go_at_call 63; exact Calls.quiet_of (less_b _ _ _ (HUV.out.keeps0 ((Keeps.refl _ _).drewN _)) (HPV.out.keeps0 ((Keeps.refl _ _).drewN _)) HLB.out)))
            have HRW := Lib.hid (HROW.out.drew ((Keeps.refl _ wr).drewN nq))
            have c1' : (wr.drewN nq).cell? ⟨gg, k, none⟩ = some (.slice au (facts x).length cu) := c1
            have c2' : (wr.drewN nq).cell? ⟨gg, k - 1, none⟩ = some (.slice ap (facts xp).length cp) := c2
            have hgl2 : gg < (wr.drewN nq).heap.size := hgl
            clear c1 c2 hgl
            generalize wr.drewN nq = w6 at HRW c1' c2' hgl2 ⊢
            have ho6 := HRW.out.own
            rw [show (P' ++ [(Value.slice ap (facts xp).length cp, xp)] ++ (Value.slice au (facts x).length cu, x) :: S).length = ps.length + 1 by rw [← HPS.out]; simp; omega] at ho6
            have HO6 := Lib.hid ho6
            clear ho6
            have fr1 := HO6.out.frozenAt k
            have HSW := Lib.hid (show PRow w2 (.slice (some ⟨gg, 0, none⟩) (ps.length + 1) cap2) (P' ++ (.slice au (facts x).length cu, x) :: (.slice ap (facts xp).length cp, xp) :: S) ((w6.setCell ⟨gg, k, none⟩ (.slice ap (facts xp).length cp)).setCell ⟨gg, k - 1, none⟩ (.slice au (facts x).length cu)) by
              have h := HRW.out
              rw [List.append_assoc, List.singleton_append] at h
              have hlen : ps.length + 1 = (P' ++ (Value.slice ap (facts xp).length cp, xp) :: (Value.slice au (facts x).length cu, x) :: S).length := by
                rw [← HPS.out]; simp; omega
              have := PRow.swap hlen h (k := k - 1) (by omega)
              rwa [show k - 1 + 1 = k by omega] at this)
            have hc2s : (w6.setCell ⟨gg, k, none⟩ (.slice ap (facts xp).length cp)).cell? ⟨gg, k - 1, none⟩ = some (.slice ap (facts xp).length cp) := by
              have h1 := (HO6.out.stored k (.slice ap (facts xp).length cp)).1
              obtain ⟨g', cap', hv', h3, h4⟩ := h1.form (by simp)
              have := h1.cellAt (k - 1) (by simp; omega)
              rw [this, List.getElem?_set, if_neg (by omega), List.getElem?_map]
              rw [List.append_assoc, List.getElem?_append_right (by omega), show k - 1 - P'.length = 0 by omega]; rfl
            have hf2s : (w6.setCell ⟨gg, k, none⟩ (.slice ap (facts xp).length cp)).frozen? ⟨gg, k - 1, none⟩ = false := ((HO6.out.stored k (.slice ap (facts xp).length cp)).1).frozenAt (k - 1)
            have HPS2 := Lib.hid (show P' ++ (Value.slice ap (facts xp).length cp, xp) :: S = ps by rw [← HPS.out, List.append_assoc]; rfl)
            have hgl3 : gg < (w6.setCell ⟨gg, k, none⟩ (.slice ap (facts xp).length cp)).heap.size := by simpa using hgl2
            clear hw1
            go_upto_region 12 with fail
            clear c1' c2' fr1 hgl2
            generalize w6.setCell ⟨gg, k, none⟩ (.slice ap (facts xp).length cp) = w7 at HSW hc2s hf2s hgl3 ⊢
            go_wp2_with fail
            go_roundw
            case rel => exact ⟨k - 1, P', (.slice ap (facts xp).length cp, xp) :: S, by congr 1; omega, by omega, HPS2.out, HSW.out, HN.out⟩
            case measure => simp [intOf]; omega
        · have hk00 : k = 0 := by omega
          have hq : decide (0 < (k : Int)) = false := by rw [hk00]; rfl
          have hP0 : P = [] := List.length_eq_zero_iff.1 (by omega)
          have HN := Lib.hid (HINS.out.done (u := .slice au (facts x).length cu) (fun q hq => by rw [hP0] at hq; cases hq) ordW_trans)
          have HPE := Lib.hid (ins_perm (u := .slice au (facts x).length cu) HPS.out HPM.out HTK.out)
          clear hk00 hP0
          go_wp2_with fail
          go_quiet (fail)
          have HRW := Lib.hid (HROW.out.drew ((Keeps.refl _ wr).drewN nq))
          generalize wr.drewN nq = w6 at HRW ⊢
          go_wp2_with fail
          go_roundw
          case rel => exact ⟨i + 1, _, by omega, by go_num, HRW.out, HPE.out, HN.out⟩
          case measure => simp [intOf]; omega
    · have HE : Hid (l'.take i = l') := by unfold Hid; exact List.take_of_length_le (by omega)
      go_wp2_with fail
      go_ret2
      exact ⟨K2.out.trans HP.out.keeps, ps.map Prod.snd, _, by have h := HPM.out; rwa [HE.out] at h, HORD.out, rfl, HP.out.lists⟩

end Go.Proofs.YtcpmjoabhnfddaaGreat

namespace Go.Proofs.YtcpmjoabhnfddaaGreat
open Go.RowKit

def stateFault (t : Tsk) (s : List Int) : Int × Int := if (taskFault t).1 = 0 then (if isSetB s t.n = true then (0, 0) else (5, -4)) else taskFault t

set_option maxHeartbeats 1000000 in
theorem stateFault_any (w : World) (vi vg vo vs : Value) (t : Tsk) (s : List Int) (h : TaskAt w vi vg vo t) (hs : Ints w vs s) :
    Calls Tryz.prog 101 #[.agg #[.int .i64 t.n, vi, vg, vo], vs] w fun e w' => e = .returned (.agg #[.int .i64 (stateFault t s).1, .int .i64 (stateFault t s).2]) ∧ Keeps (fun _ => False) w w' := by
  obtain ⟨ai, ci, h1, _⟩ := h.init.form
  obtain ⟨ag, cg, h2, _⟩ := h.goal.form
  obtain ⟨ao, co, h3, hmo⟩ := h.ops.form
  obtain ⟨aa, cs, h4, _⟩ := hs.form
  subst h1 h2 h3 h4
  have K1 := (Keeps.refl (fun _ => False) w).alloc (.cells #[.int .i64 t.n, .slice ai t.init.length ci, .slice ag t.goal.length cg, .slice ao t.ops.length co] 25)
  have HT := h.keeps0 (K1.alloc (.cells #[.int .i64 0, .int .i64 0] 31))
  have HSS : Ints _ _ s := hs.keeps0 (K1.alloc (.cells #[.int .i64 0, .int .i64 0] 31))
  have HB := (Four.new w (.int .i64 t.n) (.slice ai t.init.length ci) (.slice ag t.goal.length cg) (.slice ao t.ops.length co) 25).keeps0 ((Keeps.refl _ _).alloc (.cells #[.int .i64 0, .int .i64 0] 31))
  have HF : Flt w ((w.alloc (.cells #[.int .i64 t.n, .slice ai t.init.length ci, .slice ag t.goal.length cg, .slice ao t.ops.length co] 25)).alloc (.cells #[.int .i64 0, .int .i64 0] 31)) (w.heap.size + 1) 31 :=
    ⟨by have := heap_alloc_new (w.alloc (.cells #[.int .i64 t.n, .slice ai t.init.length ci, .slice ag t.goal.length cg, .slice ao t.ops.length co] 25)) (.cells #[.int .i64 0, .int .i64 0] 31); rwa [World.size_alloc] at this, by omega, K1.alloc _⟩
  replace HT := Lib.hid HT; replace HB := Lib.hid HB; replace HF := Lib.hid HF; replace HSS := Lib.hid HSS
  clear h hs K1
  go_enter Tryz.func101, Tryz.ntmps101
  go_upto_region 1 with fail
  generalize ((w.alloc (.cells #[.int .i64 t.n, .slice ai t.init.length ci, .slice ag t.goal.length cg, .slice ao t.ops.length co] 25)).alloc (.cells #[.int .i64 0, .int .i64 0] 31)) = w1 at HT HB HF HSS ⊢
  have hbx := HB.out.lt
  obtain ⟨d0, d1, d2, d3⟩ := HB.out
  go_wp2_with fail
  refine (validate_any _ _ _ _ t HT.out).mono ?_; rintro e w2 ⟨rfl, hk⟩
  have HF2 := Lib.hid (HF.out.keeps0 hk)
  have HB2 := HB.out.keeps0 hk
  have hbx2 := HB2.lt
  have KA := (Keeps.refl (fun _ => False) w2).alloc (.cells #[.int .i64 (taskFault t).1, .int .i64 (taskFault t).2] 31)
  have HF3 := Lib.hid (HF2.out.keeps0 KA)
  have HS3 := Lib.hid ((HSS.out.keeps0 hk : Ints w2 _ s).keeps0 KA)
  clear d0 d1 d2 d3 hk
  obtain ⟨d0, d1, d2, d3⟩ := HB2.keeps0 KA
  obtain ⟨e0, e1, z0, z1, hF⟩ := HF3.out.cells
  clear KA HB2
  by_cases hc : (taskFault t).1 = 0
  · have hok := taskFault_zero.1 hc
    have hft := taskFault_ok hok
    rw [hft] at HF3 HS3 d0 d1 d2 d3 e0 e1 z0 z1 hF ⊢
    cases b1 : isSetB s t.n with
    | true =>
      have HP : Hid (stateFault t s = (0, 0)) := by unfold Hid stateFault; rw [if_pos hc, if_pos b1]
      have B1 := Lib.hid b1
      clear hc hft hok b1
      go_wp2_with fail
      refine (sIsSet_val HS3.out B1.out).mono ?_; rintro e w5 ⟨rfl, rfl⟩
      go_wp2_with fail
      refine bodyPost_ret (results_cell_row rfl _ _ (w.heap.size + 1) 31 _ (0, 0) _ rfl (HF3.out.set (.int .i64 0) (.int .i64 0)).1 Tryz.underlying31 rfl (by kernel_rfl)) rfl ?_
      exact ⟨by rw [HP.out], (HF3.out.set _ _).2⟩
    | false =>
      have HP : Hid (stateFault t s = (5, -4)) := by unfold Hid stateFault; rw [if_pos hc, if_neg (by simp [b1])]
      have B1 := Lib.hid b1
      clear hc hft hok b1
      go_wp2_with fail
      refine (sIsSet_val HS3.out B1.out).mono ?_; rintro e w5 ⟨rfl, rfl⟩
      go_wp2_with fail
      refine bodyPost_ret (results_cell_row rfl _ _ (w.heap.size + 1) 31 _ (0, 0) _ rfl (HF3.out.set (.int .i64 5) (.int .i64 (-4))).1 Tryz.underlying31 rfl (by kernel_rfl)) rfl ?_
      exact ⟨by rw [HP.out], (HF3.out.set _ _).2⟩
  · have HP : Hid (stateFault t s = taskFault t) := by unfold Hid stateFault; rw [if_neg hc]
    have hc2 : ((taskFault t).1 == 0) = false := by simpa using hc
    clear hc
    generalize hfe : taskFault t = f at hc2 HP HF3 HS3 d0 d1 d2 d3 e0 e1 z0 z1 hF ⊢
    clear hfe
    go_wp2_with fail
    refine bodyPost_ret (results_cell_row rfl _ _ (w.heap.size + 1) 31 _ (0, 0) _ rfl (HF3.out.set (.int .i64 f.1) (.int .i64 f.2)).1 Tryz.underlying31 rfl (by kernel_rfl)) rfl ?_
    exact ⟨by rw [HP.out], (HF3.out.set _ _).2⟩

/-! ### breadth.Reach -/
end Go.Proofs.YtcpmjoabhnfddaaGreat

namespace Go.Proofs.YtcpmjoabhnfddaaGreat
open Go.RowKit

def stepT : Tsk := ⟨1, [], [0], [⟨[], [0], [], 3⟩]⟩

theorem Ints.nil (w : World) : Ints w (.slice none 0 0) [] := ⟨none, 0, rfl, by simp, fun h => by simp at h⟩
theorem Ints.one {w : World} {b : Nat} {x : Int} {T : TypeId} (h : w.heap[b]? = some (.cells #[.int .i64 x] T (0, 0))) : Ints w (.slice (some ⟨b, 0, none⟩) 1 1) [x] := by
  refine ⟨_, _, rfl, by simp [maxLen], fun _ => ⟨b, 0, rfl, fun j y hj => ?_⟩⟩
  rw [Nat.zero_add, cell_of_blk h]
  cases j with
  | zero => simpa using hj
  | succ j => simp at hj

set_option maxRecDepth 100000 in
theorem step_any (w : World) : Calls Tryz.prog 41 #[] w fun e w' => ∃ vi vg vo, e = .returned (.agg #[.int .i64 1, vi, vg, vo]) ∧ TaskAt w' vi vg vo stepT ∧ Keeps (fun _ => False) w w' := by
  go_enter Tryz.func41, Tryz.ntmps41
  go_wp2_with fail
  generalize hw1 : w.alloc (Obj.cells #[.int .i64 1, .slice none 0 0, .slice (some ⟨w.heap.size + 1, 0, none⟩) 1 1, .slice (some ⟨w.heap.size + 1 + 1 + 1, 0, none⟩) 1 1] 25) = w1
  have s1 : w1.heap.size = w.heap.size + 1 := by rw [← hw1]; simp
  have k1 : Keeps (fun _ => False) w w1 := by rw [← hw1]; exact (Keeps.refl _ _).alloc _
  have b1 : w1.heap[w.heap.size]? = some (.cells #[.int .i64 1, .slice none 0 0, .slice (some ⟨w.heap.size + 1, 0, none⟩) 1 1, .slice (some ⟨w.heap.size + 1 + 1 + 1, 0, none⟩) 1 1] 25 (0, 0)) := by rw [← hw1]; exact heap_alloc_new _ _
  clear hw1
  have b2 := heap_alloc_new w1 (.cells #[.int .i64 0] 3)
  have k2 := (Keeps.refl (fun _ => False) w1).alloc (.cells #[.int .i64 0] 3)
  have s2 : (w1.alloc (.cells #[.int .i64 0] 3)).heap.size = w1.heap.size + 1 := by simp
  generalize w1.alloc (.cells #[.int .i64 0] 3) = w2 at b2 k2 s2 ⊢
  have b3 := heap_alloc_new w2 (.cells #[.int .i64 0] 3)
  have k3 := (Keeps.refl (fun _ => False) w2).alloc (.cells #[.int .i64 0] 3)
  have s3 : (w2.alloc (.cells #[.int .i64 0] 3)).heap.size = w2.heap.size + 1 := by simp
  generalize w2.alloc (.cells #[.int .i64 0] 3) = w3 at b3 k3 s3 ⊢
  have b4 := heap_alloc_new w3 (.cells #[.slice none 0 0, .slice (some ⟨w.heap.size + 1 + 1, 0, none⟩) 1 1, .slice none 0 0, .int .i64 3] 103)
  have k4 := (Keeps.refl (fun _ => False) w3).alloc (.cells #[.slice none 0 0, .slice (some ⟨w.heap.size + 1 + 1, 0, none⟩) 1 1, .slice none 0 0, .int .i64 3] 103)
  generalize w3.alloc (.cells #[.slice none 0 0, .slice (some ⟨w.heap.size + 1 + 1, 0, none⟩) 1 1, .slice none 0 0, .int .i64 3] 103) = w4 at b4 k4 ⊢
  have k14 := k2.trans (k3.trans k4)
  refine bodyPost_ret (results_cell_row rfl _ _ w.heap.size 25 _ (0, 0) _ rfl (k14.heap b1 (fun h => h)) Tryz.underlying25 rfl (by kernel_rfl)) rfl ?_
  have e1 : w1.heap.size = w.heap.size + 1 := s1
  have e2 : w2.heap.size = w.heap.size + 1 + 1 := by omega
  have e3 : w3.heap.size = w.heap.size + 1 + 1 + 1 := by omega
  rw [e1] at b2; rw [e2] at b3; rw [e3] at b4
  refine ⟨_, _, _, rfl, ⟨Ints.nil _, Ints.one ((k3.trans k4).heap b2 (fun h => h)), ⟨_, _, rfl, by simp [maxLen, stepT], fun _ => ⟨_, 0, rfl, fun i o ho => ?_⟩⟩⟩, k1.trans k14⟩
  cases i with
  | zero =>
    simp [stepT] at ho; subst ho
    refine ⟨.slice none 0 0, .slice (some ⟨w.heap.size + 1 + 1, 0, none⟩) 1 1, .slice none 0 0, ?_, ?_, ?_, ?_, Ints.nil _, Ints.one (k4.heap b3 (fun h => h)), Ints.nil _⟩
    all_goals (rw [cell_of_blk b4]; rfl)
  | succ i => simp [stepT] at ho

theorem stepT_ok : taskFault stepT = (0, 0) := by decide
theorem stepT_reached : explored stepT = some [0, 1] := reached_of_end (i := 2) (by decide) rfl
end Go.Proofs.YtcpmjoabhnfddaaGreat

namespace Go.Proofs.YtcpmjoabhnfddaaGreat
open Go.RowKit

theorem good_next_mem {t : Tsk} (ok : t.Ok) {x y : Nat} (hx : Good t.n x) (hy : y ∈ nexts (wordsOf t.ops) x) : Good t.n y := by
  unfold nexts at hy
  obtain ⟨wo, hwo, rfl⟩ := List.mem_map.1 hy
  have hm := (List.mem_filter.1 hwo).1
  unfold wordsOf at hm
  obtain ⟨o, ho, rfl⟩ := List.mem_map.1 hm
  exact (good_next (by have := ok.n1; omega) (ok.ops o ho) hx).2.2
theorem good_reach {t : Tsk} (ok : t.Ok) {s x : Nat} (hs : Good t.n s) (h : Reach (wordsOf t.ops) s x) : Good t.n x := by
  induction h with
  | refl => exact hs
  | step _ hy ih => exact good_next_mem ok ih hy
theorem good_explored {t : Tsk} (ok : t.Ok) {L : List Nat} (h : explored t = some L) : ∀ x ∈ L, Good t.n x := by
  intro x hx
  exact good_reach ok (good_wd (by have := ok.n1; omega) ok.init) (((reached_some h).2.2.2 x).1 hx)
end Go.Proofs.YtcpmjoabhnfddaaGreat

namespace Go.Proofs.YtcpmjoabhnfddaaGreat
open Go.RowKit

theorem facts_beq {n : Int} (hn : n ≤ 32) {x : Nat} (hx : Good n x) {s : List Int} (hs : isSetB s n = true) : (facts x == s) = (x == wd s) := by
  rw [Bool.eq_iff_iff, beq_iff_eq, beq_iff_eq]
  constructor
  · rintro rfl; exact hx.2.symm
  · rintro rfl; exact facts_wd (isSet_mono hs hn)

theorem place_mem {n : Int} (hn : n ≤ 32) {L : List Nat} (hg : ∀ x ∈ L, Good n x) {s : List Int} (hs : isSetB s n = true) :
    (∃ k : Nat, L[k]? = some (wd s) ∧ placeL (L.map facts) s = k) ∨ (wd s ∉ L ∧ placeL (L.map facts) s = -1) := by
  by_cases hm : wd s ∈ L
  · left
    unfold placeL
    cases hf : (L.map facts).findIdx? (fun l => l == s) with
    | none =>
      rw [List.findIdx?_eq_none_iff] at hf
      have := hf (facts (wd s)) (List.mem_map.2 ⟨_, hm, rfl⟩)
      simp [facts_wd (isSet_mono hs hn)] at this
    | some k =>
      obtain ⟨h1, h2, _⟩ := List.findIdx?_eq_some_iff_getElem.1 hf
      have h3 : k < L.length := by simpa using h1
      refine ⟨k, ?_, rfl⟩
      rw [List.getElem_map, facts_beq hn (hg _ (List.getElem_mem h3)) hs, beq_iff_eq] at h2
      rw [List.getElem?_eq_getElem h3, h2]
  · right
    refine ⟨hm, placeL_none fun l hl => ?_⟩
    obtain ⟨x, hx, rfl⟩ := List.mem_map.1 hl
    rw [facts_beq hn (hg x hx) hs, beq_eq_false_iff_ne]
    rintro rfl; exact hm hx

end Go.Proofs.YtcpmjoabhnfddaaGreat

namespace Go.Proofs.YtcpmjoabhnfddaaGreat
open Go.RowKit

/-- What Costs asks for. -/
theorem costs_need {t : Tsk} (ok : t.Ok) {l ws : List Nat} (hx : explored t = some l) (hp : ws.Perm l) :
    wd t.init < 4294967296 ∧ wd t.goal < 4294967296 ∧ (wordsOf t.ops).length ≤ 40 ∧ Shut (wordsOf t.ops) ws ∧ ws.length ≤ 2000 ∧ (∀ x ∈ ws, x < 4294967296) ∧ (∀ o ∈ wordsOf t.ops, 0 ≤ o.cost ∧ o.cost ≤ 1000000) ∧ wd t.init ∈ ws := by
  have hs32 : wd t.init < 4294967296 := wd_lt32 (by have := ok.n1; omega : t.n ≤ 32) ok.init
  have hg32 : wd t.goal < 4294967296 := wd_lt32 (by have := ok.n1; omega : t.n ≤ 32) ok.goal
  have hsh := shut_reached (ops := wordsOf t.ops) (s := wd t.init) (L := l) hx
  have hr := reached_some (ops := wordsOf t.ops) (s := wd t.init) (l := l) hx
  refine ⟨hs32, hg32, by unfold wordsOf; rw [List.length_map]; exact ok.few, ⟨hp.nodup_iff.2 hsh.1, fun x h o ho hc => hp.mem_iff.2 (hsh.2 x (hp.mem_iff.1 h) o ho hc)⟩, by rw [hp.length_eq]; exact hr.2.1, fun x h => reach_small (wops_ok ok) hs32 ((hr.2.2.2 x).1 (hp.mem_iff.1 h)), fun o ho => ?_, hp.mem_iff.2 (List.mem_of_getElem? hr.2.2.1)⟩
  unfold wordsOf at ho
  obtain ⟨o', ho', rfl⟩ := List.mem_map.1 ho
  have h := ok.ops o' ho'
  have hc : o'.word.cost = o'.cost := rfl
  rw [hc]
  exact ⟨h.cost0, by have := h.cost1; omega⟩

end Go.Proofs.YtcpmjoabhnfddaaGreat

/- space's example. -/
namespace Go.Proofs.YtcpmjoabhnfddaaGreat
open Go.RowKit

theorem ordW_antisymm {x y : Nat} (hx : x < 4294967296) (hy : y < 4294967296) (h1 : ordW x y) (h2 : ordW y x) : x = y := by
  unfold ordW cmpW at h1 h2
  have h3 := cmpL_neg (facts x) (facts y)
  have h4 : cmpL (facts x) (facts y) = 0 := by omega
  exact facts_inj (by simpa using hx) (by simpa using hy) (cmpL_eq h4)
theorem sorted_same {a b : List Nat} (hp : a.Perm b) (ha : a.Pairwise ordW) (hb : b.Pairwise ordW) (h32 : ∀ x ∈ a, x < 4294967296) : a = b :=
  hp.eq_of_pairwise (le := ordW) (fun x y hx hy h1 h2 => ordW_antisymm (h32 x hx) (h32 y (hp.mem_iff.2 hy)) h1 h2) ha hb

theorem stepT_ws {ws l : List Nat} (hx : explored stepT = some l) (hp : ws.Perm l) (ho : ws.Pairwise ordW) : ws = [0, 1] := by
  rw [stepT_reached] at hx; cases hx
  exact sorted_same hp ho (by unfold ordW; decide) (fun x hx => by have := hp.mem_iff.1 hx; simp at this; omega)

theorem Ints.two {w : World} {b : Nat} {x y : Int} {T : TypeId} (h : w.heap[b]? = some (.cells #[.int .i64 x, .int .i64 y] T (0, 0))) : Ints w (.slice (some ⟨b, 0, none⟩) 2 2) [x, y] := by
  refine ⟨_, 2, rfl, by unfold maxLen; simp, fun _ => ⟨b, 0, rfl, fun i z hz => ?_⟩⟩
  match i, hz with
  | 0, hz => simp at hz; subst hz; rw [cell_of_blk h]; rfl
  | 1, hz => simp at hz; subst hz; rw [cell_of_blk h]; rfl
theorem Lists.two {w : World} {b c : Nat} {x : Int} {T T' : TypeId} (h : w.heap[b]? = some (.cells #[.slice none 0 0, .slice (some ⟨c, 0, none⟩) 1 1] T (0, 0))) (hc : w.heap[c]? = some (.cells #[.int .i64 x] T' (0, 0))) : Lists w (.slice (some ⟨b, 0, none⟩) 2 2) [[], [x]] := by
  refine ⟨_, 2, rfl, by unfold maxLen; simp, fun _ => ⟨b, 0, rfl, fun i l hl => ?_⟩⟩
  match i, hl with
  | 0, hl => simp at hl; subst hl; exact ⟨.slice none 0 0, by rw [cell_of_blk h]; rfl, Ints.nil _⟩
  | 1, hl => simp at hl; subst hl; exact ⟨.slice (some ⟨c, 0, none⟩) 1 1, by rw [cell_of_blk h]; rfl, Ints.one hc⟩

end Go.Proofs.YtcpmjoabhnfddaaGreat

/- space: the law that the functions are the reference's. -/
namespace Go.Proofs.YtcpmjoabhnfddaaGreat
open Go.RowKit

section
variable {w : World} {vi vg vo : Value} {t : Tsk}
/-- The sorted states of a task. -/
def WsOf (_t : Tsk) (l ws : List Nat) : Prop := ws.Perm l ∧ ws.Pairwise ordW
theorem WsOf.same {l a b : List Nat} (ok : t.Ok) (hx : explored t = some l) (ha : WsOf t l a) (hb : WsOf t l b) : a = b :=
  sorted_same (ha.1.trans hb.1.symm) ha.2 hb.2 (costs_need ok hx ha.1).2.2.2.2.2.1

end

theorem WsOf.good {t : Tsk} (ok : t.Ok) {l ws : List Nat} (hx : explored t = some l) (hw : WsOf t l ws) : (∀ x ∈ ws, Good t.n x) ∧ (∃ k : Nat, ws[k]? = some (wd t.init) ∧ placeL (ws.map facts) t.init = k) ∧ (∀ x, x ∈ ws ↔ Reach (wordsOf t.ops) (wd t.init) x) ∧ ∀ a ∈ arcs (wordsOf t.ops) ws, a.frm < ws.length ∧ a.to < ws.length ∧ 0 ≤ a.cost ∧ a.cost ≤ 100 := by
  have hn32 : t.n ≤ 32 := by have := ok.n1; omega
  have hr := (reached_some (ops := wordsOf t.ops) (s := wd t.init) (l := l) hx).2.2.2
  have hr2 : ∀ x, x ∈ ws ↔ Reach (wordsOf t.ops) (wd t.init) x := fun x => hw.1.mem_iff.trans (hr x)
  have hg : ∀ x ∈ ws, Good t.n x := fun x h => good_reach ok (good_wd hn32 ok.init) ((hr2 x).1 h)
  refine ⟨hg, ?_, hr2, fun a ha => ?_⟩
  · rcases place_mem hn32 hg ok.init with h | ⟨h, _⟩
    · exact h
    · exact absurd ((hr2 _).2 .refl) h
  · obtain ⟨x, o, h1, h2, h3, h4, h5⟩ := mem_arcs.1 ha
    refine ⟨(List.getElem?_eq_some_iff.1 h1).1, (List.getElem?_eq_some_iff.1 h5).1, ?_⟩
    rw [h4]
    have ho := List.mem_of_getElem? h2
    unfold wordsOf at ho
    obtain ⟨o', ho', rfl⟩ := List.mem_map.1 ho
    exact ⟨(ok.ops o' ho').cost0, (ok.ops o' ho').cost1⟩

end Go.Proofs.YtcpmjoabhnfddaaGreat

/- space: SpaceFunctionsMatchSpec walked. -/
namespace Go.Proofs.YtcpmjoabhnfddaaGreat
open Go.RowKit

end Go.Proofs.YtcpmjoabhnfddaaGreat

namespace Go.Proofs.YtcpmjoabhnfddaaGreat

/-! ### sets -/
theorem compact_sorted (d : Array Int) (hs : ∀ i j, i ≤ j → j < d.size → d[i]! ≤ d[j]!) : ∀ m, m ≤ d.size →
    (Lib.compactUpTo d m).Pairwise (· < ·) ∧ (∀ x, x ∈ Lib.compactUpTo d m ↔ ∃ j, j < m ∧ d[j]! = x)
  | 0, _ => ⟨by simp [Lib.compactUpTo], fun x => by simp [Lib.compactUpTo]⟩
  | m + 1, hm => by
    obtain ⟨h1, h2⟩ := compact_sorted d hs m (by omega)
    rw [Lib.compactUpTo_succ]
    by_cases hk : Lib.keeps d m = true
    · rw [if_pos hk]
      have hlt : ∀ x ∈ Lib.compactUpTo d m, x < d[m]! := fun x hx => by
        obtain ⟨j, hj, rfl⟩ := (h2 x).1 hx
        have e1 := hs j (m - 1) (by omega) (by omega)
        have e2 := hs (m - 1) m (by omega) (by omega)
        have e3 : d[m]! ≠ d[m - 1]! := by
          unfold Lib.keeps at hk
          rcases of_decide_eq_true hk with h | h
          · omega
          · exact h
        omega
      refine ⟨List.pairwise_append.2 ⟨h1, by simp, fun a ha b hb => by rw [List.mem_singleton] at hb; subst hb; exact hlt a ha⟩, fun x => ?_⟩
      rw [List.mem_append, h2, List.mem_singleton]
      constructor
      · rintro (⟨j, hj, e⟩ | h)
        · exact ⟨j, by omega, e⟩
        · exact ⟨m, by omega, h.symm⟩
      · rintro ⟨j, hj, e⟩
        by_cases hjm : j = m
        · subst hjm; exact .inr e.symm
        · exact .inl ⟨j, by omega, e⟩
    · have hk' : m ≠ 0 ∧ d[m]! = d[m - 1]! := by
        unfold Lib.keeps at hk
        rw [decide_eq_true_eq] at hk
        exact ⟨fun h => hk (.inl h), Decidable.byContradiction fun h => hk (.inr h)⟩
      rw [if_neg hk, List.append_nil]
      refine ⟨h1, fun x => ?_⟩
      rw [h2]
      constructor
      · rintro ⟨j, hj, e⟩; exact ⟨j, by omega, e⟩
      · rintro ⟨j, hj, e⟩
        by_cases hjm : j = m
        · subst hjm; exact ⟨j - 1, by omega, by rw [← hk'.2]; exact e⟩
        · exact ⟨j, by omega, e⟩

theorem compact_list {l : List Int} (hs : l.Pairwise (· ≤ ·)) : (Lib.compact l).Pairwise (· < ·) ∧ ∀ x, x ∈ Lib.compact l ↔ x ∈ l := by
  have hs' : ∀ i j, i ≤ j → j < l.toArray.size → l.toArray[i]! ≤ l.toArray[j]! := fun i j hij hj => by
    have hj' : j < l.length := by simpa using hj
    rw [getElem!_pos l.toArray i (by simp; omega), getElem!_pos l.toArray j hj]
    simp only [List.getElem_toArray]
    rcases Nat.lt_or_ge i j with h | h
    · exact List.pairwise_iff_getElem.1 hs i j (by omega) hj' h
    · have : i = j := by omega
      subst this; exact Int.le_refl _
  obtain ⟨h1, h2⟩ := compact_sorted l.toArray hs' l.length (by simp)
  have e : Lib.compact l = Lib.compactUpTo l.toArray l.length := by unfold Lib.compact; simp
  rw [e]
  refine ⟨h1, fun x => ?_⟩
  rw [h2]
  constructor
  · rintro ⟨j, hj, rfl⟩
    rw [getElem!_pos l.toArray j (by simpa using hj)]
    simp
  · intro h
    obtain ⟨j, hj, e⟩ := List.mem_iff_getElem.1 h
    exact ⟨j, hj, by rw [getElem!_pos l.toArray j (by simpa using hj)]; simpa using e⟩

def preL (s add del : List Int) : List Int := (s.filter fun x => !decide (x ∈ del)) ++ add
def updL (s add del : List Int) : List Int := Lib.compact ((preL s add del).mergeSort fun x y => decide (x ≤ y))
theorem sort_sorted (l : List Int) : (l.mergeSort fun x y => decide (x ≤ y)).Pairwise (· ≤ ·) := by
  have := List.pairwise_mergeSort (le := fun x y : Int => decide (x ≤ y)) (fun a b c h1 h2 => by simp at *; omega) (fun a b => by simp; omega) l
  exact this.imp (fun h => by simpa using h)
theorem updL_spec (s add del : List Int) : (updL s add del).Pairwise (· < ·) ∧ ∀ x, x ∈ updL s add del ↔ (x ∈ s ∧ x ∉ del) ∨ x ∈ add := by
  obtain ⟨h1, h2⟩ := compact_list (sort_sorted (preL s add del))
  refine ⟨h1, fun x => ?_⟩
  unfold updL
  rw [h2, List.mem_mergeSort, preL, List.mem_append, List.mem_filter]
  simp
theorem preL_len (s add del : List Int) : (preL s add del).length ≤ s.length + add.length := by
  unfold preL; rw [List.length_append]
  have := List.length_filter_le (fun x => !decide (x ∈ del)) s
  omega

/-! ### plans -/
end Go.Proofs.YtcpmjoabhnfddaaGreat

namespace Go.Proofs.YtcpmjoabhnfddaaGreat

def costN (ops : List Wop) : List Nat → Int
  | [] => 0
  | a :: r => ((ops[a]?.map Wop.cost).getD 0) + costN ops r
theorem costN_bound {ops : List Wop} (h : ∀ o ∈ ops, 0 ≤ o.cost ∧ o.cost ≤ 100) : ∀ p : List Nat, 0 ≤ costN ops p ∧ costN ops p ≤ 100 * (p.length : Int)
  | [] => by simp [costN]
  | a :: r => by
    have h2 := costN_bound h r
    rw [costN]
    cases ho : ops[a]? with
    | none => simp; omega
    | some o =>
      have h1 := h o (List.mem_of_getElem? ho)
      simp; omega

section
variable {ops : List Wop} {L : List Nat} {acc : Nat → Bool} {D : Nat → Int}
theorem arcs_cost0 (h0 : ∀ o ∈ ops, 0 ≤ o.cost ∧ o.cost ≤ 100) : ∀ a ∈ arcs ops L, 0 ≤ a.cost := fun a ha => by
  obtain ⟨y, o, _, h2, _, h4, _⟩ := mem_arcs.1 ha
  rw [h4]; exact (h0 o (List.mem_of_getElem? h2)).1
/-! ### the finite costs are small -/
def below (L : List Nat) (D : Nat → Int) (z : Int) : Nat := (L.filter fun y => decide (D y < z)).length
end

end Go.Proofs.YtcpmjoabhnfddaaGreat

namespace Go.Proofs.YtcpmjoabhnfddaaGreat

/-- k for each cost, st for each step. -/
def wayN (k st : Int) (ops : List Wop) (p : List Nat) : Int := k * costN ops p + st * (p.length : Int)
theorem wayN_nil (k st : Int) (ops : List Wop) : wayN k st ops [] = 0 := by unfold wayN costN; simp
theorem costN_append (ops : List Wop) : ∀ p q : List Nat, costN ops (p ++ q) = costN ops p + costN ops q
  | [], q => by simp [costN]
  | a :: p, q => by rw [List.cons_append, costN, costN, costN_append ops p q]; omega
theorem wayN_append (k st : Int) (ops : List Wop) (p q : List Nat) : wayN k st ops (p ++ q) = wayN k st ops p + wayN k st ops q := by
  unfold wayN
  rw [costN_append, List.length_append, Int.natCast_add, Int.mul_add, Int.mul_add]; omega
theorem wayN_one {k st : Int} {ops : List Wop} {a : Nat} {o : Wop} (h : ops[a]? = some o) : wayN k st ops [a] = k * o.cost + st := by
  unfold wayN; simp [costN, h]
/-- A way of the arcs is a run of the operators, and the other way round. -/
theorem run_of_walk {ops : List Wop} {L : List Nat} {k st : Int} {s i : Nat} {c : Int} (h : WalkA (arcs ops L) (fun a => k * a.cost + st) s i c) {x : Nat} (hx : L[s]? = some x) : ∃ p y, L[i]? = some y ∧ runOps ops x p = some y ∧ wayN k st ops p = c := by
  induction h with
  | nil => exact ⟨[], x, hx, rfl, wayN_nil _ _ _⟩
  | @snoc a _ _ ha ih =>
    obtain ⟨p, y, hy, hr, hc⟩ := ih
    obtain ⟨y', o, h1, h2, h3, h4, h5⟩ := mem_arcs.1 ha
    rw [h1] at hy; cases hy
    refine ⟨p ++ [a.op], _, h5, ?_, ?_⟩
    · rw [runOps_append, hr]; simp [runOps, h2, h3]
    · rw [wayN_append, hc, wayN_one h2, ← h4]
theorem walk_of_run {ops : List Wop} {L : List Nat} (hsh : Shut ops L) {k st : Int} {s : Nat} : ∀ {p : List Nat} {x y i : Nat} {c : Int}, WalkA (arcs ops L) (fun a => k * a.cost + st) s i c → L[i]? = some x → runOps ops x p = some y → ∃ j, L[j]? = some y ∧ WalkA (arcs ops L) (fun a => k * a.cost + st) s j (c + wayN k st ops p)
  | [], x, y, i, c, hw, hi, hr => by cases hr; exact ⟨i, hi, by rw [wayN_nil, Int.add_zero]; exact hw⟩
  | a :: p, x, y, i, c, hw, hi, hr => by
    rw [runOps] at hr
    cases ho : ops[a]? with
    | none => rw [ho] at hr; cases hr
    | some o =>
      rw [ho] at hr; simp only at hr
      by_cases hc : o.can x = true
      · rw [if_pos hc] at hr
        have hm := hsh.2 x (List.mem_of_getElem? hi) o (List.mem_of_getElem? ho) hc
        obtain ⟨j, hj⟩ := List.mem_iff_getElem?.1 hm
        have hd := WalkA.snoc (a := ⟨i, j, a, o.cost⟩) hw (mem_arcs.2 ⟨x, o, hi, ho, hc, rfl, hj⟩)
        obtain ⟨m, hm, hz⟩ := walk_of_run hsh hd hj hr
        refine ⟨m, hm, ?_⟩
        rw [show a :: p = [a] ++ p from rfl, wayN_append, wayN_one ho, ← Int.add_assoc]
        exact hz
      · rw [if_neg hc] at hr; cases hr

/-- b is the least price of a plan, or -1 where there is none. -/
def LeastOf (k st : Int) (ops : List Wop) (s : Nat) (acc : Nat → Bool) (b : Int) : Prop :=
  (b = -1 ∧ ∀ p y, runOps ops s p = some y → acc y = false) ∨
  (0 ≤ b ∧ (∃ p y, runOps ops s p = some y ∧ acc y = true ∧ wayN k st ops p = b) ∧ ∀ p y, runOps ops s p = some y → acc y = true → b ≤ wayN k st ops p)
theorem LeastOf.unique {k st : Int} {ops : List Wop} {s : Nat} {acc : Nat → Bool} {b b' : Int} (h : LeastOf k st ops s acc b) (h' : LeastOf k st ops s acc b') : b = b' := by
  rcases h with ⟨h1, h2⟩ | ⟨h1, ⟨p, y, hp, hy, hb⟩, h3⟩ <;> rcases h' with ⟨g1, g2⟩ | ⟨g1, ⟨q, z, hq, hz, hc⟩, g3⟩
  · rw [h1, g1]
  · rw [h2 q z hq] at hz; cases hz
  · rw [g2 p y hp] at hy; cases hy
  · have := h3 q z hq hz; have := g3 p y hp hy; omega

/-- All reached states have a price. -/
theorem PriOk.low {ops : List Wop} {s : Nat} {L : List Nat} (hsh : Shut ops L) (hr : ∀ x ∈ L, ∃ p, runOps ops s p = some x) {i0 : Nat} (h0 : L[i0]? = some s) {k st : Int} {d : List Int} (hA : ∀ a ∈ arcs ops L, 0 ≤ k * a.cost + st) (h : PriOk (arcs ops L) (fun a => k * a.cost + st) L.length i0 d) : ∀ x ∈ d, 0 ≤ x := by
  intro z hz
  obtain ⟨i, hi⟩ := List.mem_iff_getElem?.1 hz
  have hil : i < L.length := by rw [← h.len]; exact (List.getElem?_eq_some_iff.1 hi).1
  obtain ⟨x, hx⟩ : ∃ x, L[i]? = some x := ⟨_, List.getElem?_eq_getElem hil⟩
  obtain ⟨p, hp⟩ := hr x (List.mem_of_getElem? hx)
  obtain ⟨j, hj, hw⟩ := walk_of_run hsh .nil h0 hp
  obtain rfl : j = i := nodup_ix hsh.1 hj hx
  obtain ⟨_, y, hy, hy0, _⟩ := h.walk hA hw
  rw [hi] at hy; cases hy; exact hy0
end Go.Proofs.YtcpmjoabhnfddaaGreat

namespace Go.Proofs.YtcpmjoabhnfddaaGreat

structure SArc where
  op : Nat
  price : Int
  to : Nat

/-- How many states of L have a price. -/
def knownB (L : List Nat) (P : Nat → Option Int) : Nat := L.countP fun x => (P x).isSome
/-- The prices after one of them is set. -/
def putP {α : Type} (P : Nat → Option α) (x : Nat) (v : α) : Nat → Option α := fun y => if y = x then some v else P y
theorem putP_same {α : Type} (P : Nat → Option α) (x : Nat) (v : α) : putP P x v x = some v := by simp [putP]
theorem putP_other {α : Type} (P : Nat → Option α) {x y : Nat} (v : α) (h : y ≠ x) : putP P x v y = P y := by simp [putP, h]
theorem knownB_put {L : List Nat} {P : Nat → Option Int} {x : Nat} {v : Int} (hn : L.Nodup) (hx : x ∈ L) (hP : P x = none) : knownB L (putP P x v) = knownB L P + 1 := by
  unfold knownB
  induction L with
  | nil => simp at hx
  | cons y r ih =>
    rw [List.nodup_cons] at hn
    by_cases hyx : y = x
    · subst hyx
      rw [List.countP_cons, List.countP_cons, putP_same, hP]
      have : r.countP (fun z => (putP P y v z).isSome) = r.countP fun z => (P z).isSome := by
        apply List.countP_congr
        intro z hz
        rw [putP_other P v (fun e => hn.1 (by rw [← e]; exact hz))]
      simp [this]
    · have hxr : x ∈ r := by
        rcases List.mem_cons.1 hx with h | h
        · exact absurd h.symm hyx
        · exact h
      rw [List.countP_cons, List.countP_cons, putP_other P v hyx, ih hn.2 hxr]; omega
theorem knownB_same {L : List Nat} {P : Nat → Option Int} {x : Nat} {v u : Int} (hP : P x = some u) : knownB L (putP P x v) = knownB L P := by
  unfold knownB
  apply List.countP_congr
  intro z _
  by_cases h : z = x
  · subst h; rw [putP_same, hP]; simp
  · rw [putP_other P v h]
theorem knownB_le (L : List Nat) (P : Nat → Option Int) : knownB L P ≤ L.length := List.countP_le_length

/-- What stays of a side while arcs of the state s are looked at: the arcs in R are still to do. -/
structure SideI (G : Nat → List SArc) (S0 : Nat → Prop) (L : List Nat) (C : Int) (P : Nat → Option Int) (par : Nat → Option SArc) (A : List (Int × Int)) (s : Nat) (R : List SArc) : Prop where
  dom : ∀ x p, P x = some p → x ∈ L
  lo : ∀ x p, P x = some p → 0 ≤ p ∧ p ≤ C * (knownB L P : Int)
  start : ∀ x, S0 x → P x = some 0 ∧ par x = none
  from_ : ∀ x p, P x = some p → ¬ S0 x → ∃ a, par x = some a ∧ ⟨a.op, a.price, x⟩ ∈ G a.to ∧ ∃ q, P a.to = some q ∧ q + a.price ≤ p
  key : ∀ z ∈ A, ∃ x : Nat, z.1 = (x : Int) ∧ P x = some z.2
  pend : ∀ x p, P x = some p → ((x : Int), p) ∈ A ∨ ∀ a ∈ G x, (∃ q, P a.to = some q ∧ q ≤ p + a.price) ∨ (x = s ∧ a ∈ R)
theorem SideI.anyS {G : Nat → List SArc} {S0 : Nat → Prop} {L : List Nat} {C : Int} {P : Nat → Option Int} {par : Nat → Option SArc} {A : List (Int × Int)} {s s' : Nat} (h : SideI G S0 L C P par A s []) : SideI G S0 L C P par A s' [] :=
  ⟨h.dom, h.lo, h.start, h.from_, h.key, fun x p hp => by
    rcases h.pend x p hp with h1 | h1
    · exact .inl h1
    · refine .inr fun a ha => ?_
      rcases h1 a ha with h2 | ⟨_, h2⟩
      · exact .inl h2
      · simp at h2⟩

/-- The state at the head of the queue is taken. -/
theorem SideI.take {G : Nat → List SArc} {S0 : Nat → Prop} {L : List Nat} {C : Int} {P : Nat → Option Int} {par : Nat → Option SArc} {A : List (Int × Int)} {s x : Nat} {p : Int} (h : SideI G S0 L C P par A s []) (hp : P x = some p) :
    SideI G S0 L C P par (A.filter fun z => z.1 != (x : Int)) x (G x) :=
  ⟨h.dom, h.lo, h.start, h.from_, fun z hz => h.key z (List.mem_filter.1 hz).1, fun y q hq => by
    by_cases hyx : y = x
    · subst hyx
      exact .inr fun a ha => .inr ⟨rfl, ha⟩
    · rcases h.pend y q hq with h1 | h1
      · refine .inl (List.mem_filter.2 ⟨h1, ?_⟩)
        simp; omega
      · refine .inr fun a ha => ?_
        rcases h1 a ha with h2 | ⟨_, h2⟩
        · exact .inl h2
        · simp at h2⟩
/-- An arc that leads to nothing better. -/
theorem SideI.skip {G : Nat → List SArc} {S0 : Nat → Prop} {L : List Nat} {C : Int} {P : Nat → Option Int} {par : Nat → Option SArc} {A : List (Int × Int)} {x : Nat} {p q : Int} {a : SArc} {R : List SArc} (h : SideI G S0 L C P par A x (a :: R)) (hp : P x = some p) (hq : P a.to = some q) (hle : q ≤ p + a.price) : SideI G S0 L C P par A x R :=
  ⟨h.dom, h.lo, h.start, h.from_, h.key, fun y u hu => by
    rcases h.pend y u hu with h1 | h1
    · exact .inl h1
    · refine .inr fun b hb => ?_
      rcases h1 b hb with h2 | ⟨rfl, h2⟩
      · exact .inl h2
      · rcases List.mem_cons.1 h2 with rfl | h3
        · rw [hp] at hu; cases hu; exact .inl ⟨q, hq, hle⟩
        · exact .inr ⟨rfl, h3⟩⟩
/-- An arc that gives a better price. -/
theorem SideI.fall {G : Nat → List SArc} {S0 : Nat → Prop} {L : List Nat} {C : Int} {P : Nat → Option Int} {par : Nat → Option SArc} {A : List (Int × Int)} {x : Nat} {p : Int} {a : SArc} {R : List SArc} (h : SideI G S0 L C P par A x (a :: R)) (hn : L.Nodup) (hC : ∀ y, ∀ b ∈ G y, 1 ≤ b.price ∧ b.price ≤ C) (hin : a.to ∈ L) (ha : a ∈ G x) (hp : P x = some p) (hlt : ∀ q, P a.to = some q → p + a.price < q) :
    SideI G S0 L C (putP P a.to (p + a.price)) (putP par a.to ⟨a.op, a.price, x⟩) (putA A (a.to : Int) (p + a.price)) x R := by
  have hc := hC x a ha
  have hxp := h.lo x p hp
  have hne : a.to ≠ x := fun e => by have := hlt p (by rw [e]; exact hp); omega
  have hns : ¬ S0 a.to := fun e => by have := hlt 0 (h.start _ e).1; omega
  have hkn : (knownB L P : Int) ≤ knownB L (putP P a.to (p + a.price)) ∧ (P a.to = none → (knownB L (putP P a.to (p + a.price)) : Int) = knownB L P + 1) := by
    cases hq : P a.to with
    | none => rw [knownB_put hn hin hq]; exact ⟨by omega, fun _ => by omega⟩
    | some u => rw [knownB_same hq]; exact ⟨Int.le_refl _, fun e => by cases e⟩
  have hmono : C * (knownB L P : Int) ≤ C * (knownB L (putP P a.to (p + a.price)) : Int) := Int.mul_le_mul_of_nonneg_left hkn.1 (by omega)
  refine ⟨fun y u hu => ?_, fun y u hu => ?_, fun y hy => ?_, fun y u hu hs => ?_, fun z hz => ?_, fun y u hu => ?_⟩
  · by_cases hy : y = a.to
    · subst hy; exact hin
    · rw [putP_other P _ hy] at hu; exact h.dom y u hu
  · by_cases hy : y = a.to
    · subst hy
      rw [putP_same] at hu; cases hu
      refine ⟨by omega, ?_⟩
      cases hq : P a.to with
      | none =>
        rw [hkn.2 hq, Int.mul_add]; omega
      | some u => have := hlt u hq; have := (h.lo _ u hq).2; omega
    · rw [putP_other P _ hy] at hu
      have := h.lo y u hu; omega
  · have hy' : y ≠ a.to := fun e => hns (e ▸ hy)
    rw [putP_other P _ hy', putP_other par _ hy']; exact h.start y hy
  · by_cases hy : y = a.to
    · subst hy
      rw [putP_same] at hu; cases hu
      refine ⟨⟨a.op, a.price, x⟩, putP_same _ _ _, ha, p, ?_, Int.le_refl _⟩
      rw [putP_other P _ (fun e => hne e.symm)]; exact hp
    · rw [putP_other P _ hy] at hu
      obtain ⟨b, hb, hg, q, hq, hle⟩ := h.from_ y u hu hs
      refine ⟨b, by rw [putP_other par _ hy]; exact hb, hg, ?_⟩
      by_cases hbt : b.to = a.to
      · rw [hbt, putP_same]
        have := hlt q (by rw [← hbt]; exact hq)
        exact ⟨_, rfl, by omega⟩
      · rw [putP_other P _ hbt]; exact ⟨q, hq, hle⟩
  · rcases mem_putA.1 hz with ⟨h1, h2⟩ | rfl
    · obtain ⟨y, hy, hPy⟩ := h.key z h1
      refine ⟨y, hy, ?_⟩
      rw [putP_other P _ (fun e => h2 (by rw [hy, e]))]; exact hPy
    · exact ⟨a.to, rfl, putP_same _ _ _⟩
  · by_cases hy : y = a.to
    · subst hy
      rw [putP_same] at hu; cases hu
      exact .inl (mem_putA.2 (.inr rfl))
    · rw [putP_other P _ hy] at hu
      rcases h.pend y u hu with h1 | h1
      · exact .inl (mem_putA.2 (.inl ⟨h1, by simp; omega⟩))
      · refine .inr fun b hb => ?_
        have low : ∀ q, P b.to = some q → q ≤ u + b.price → ∃ q', putP P a.to (p + a.price) b.to = some q' ∧ q' ≤ u + b.price := fun q hq hle => by
          by_cases hbt : b.to = a.to
          · rw [hbt, putP_same]
            have := hlt q (by rw [← hbt]; exact hq)
            exact ⟨_, rfl, by omega⟩
          · rw [putP_other P _ hbt]; exact ⟨q, hq, hle⟩
        rcases h1 b hb with ⟨q, hq, hle⟩ | ⟨rfl, h2⟩
        · exact .inl (low q hq hle)
        · rcases List.mem_cons.1 h2 with rfl | h3
          · rw [hp] at hu; cases hu
            exact .inl ⟨_, putP_same _ _ _, Int.le_refl _⟩
          · exact .inr ⟨rfl, h3⟩

/-! ### where the sides meet -/
/-! ### the end -/
section
variable {ops : List Wop} {L : List Nat} {Gf Gb : Nat → List SArc} {Sf Sb : Nat → Prop} {C : Int} {F B : Nat → Option Int} {pf pb : Nat → Option SArc} {Af Ab : List (Int × Int)} {sf sb : Nat} {best : Int} {at_ : Nat} {found : Bool}
end

end Go.Proofs.YtcpmjoabhnfddaaGreat

namespace Go.Proofs.YtcpmjoabhnfddaaGreat

/-- The operators from a state back to the end of a side. -/
inductive Chain (par : Nat → Option SArc) : Nat → List Nat → Nat → Prop
  | nil {x : Nat} : par x = none → Chain par x [] x
  | cons {x : Nat} {a : SArc} {out : List Nat} {e : Nat} : par x = some a → Chain par a.to out e → Chain par x (a.op :: out) e

section
variable {G : Nat → List SArc} {S0 : Nat → Prop} {L : List Nat} {C : Int} {P : Nat → Option Int} {par : Nat → Option SArc} {A : List (Int × Int)} {s : Nat}
/-- Every state with a price has a way back; the states on it fall in price, so it is no longer than L. -/
theorem SideI.chain (h : SideI G S0 L C P par A s []) (hC : ∀ y, ∀ b ∈ G y, 1 ≤ b.price) [∀ x, Decidable (S0 x)] : ∀ (n : Nat) (x : Nat) (p : Int), P x = some p → p.toNat ≤ n →
    ∃ (out : List Nat) (e : Nat) (vs : List Nat), Chain par x out e ∧ S0 e ∧ vs.length = out.length ∧ vs.Nodup ∧ (∀ y ∈ vs, ∃ q, P y = some q ∧ q ≤ p ∧ y ∈ L)
  | n, x, p, hp, hn => by
    by_cases hs : S0 x
    · exact ⟨[], x, [], .nil (h.start x hs).2, hs, rfl, List.nodup_nil, by simp⟩
    · obtain ⟨a, ha, hg, q, hq, hle⟩ := h.from_ x p hp hs
      have h1 := hC _ _ hg
      simp only at h1
      have hq0 := (h.lo _ q hq).1
      cases n with
      | zero => omega
      | succ n =>
        obtain ⟨out, e, vs, hc, he, hl, hnd, hall⟩ := SideI.chain h hC n a.to q hq (by omega)
        refine ⟨a.op :: out, e, x :: vs, .cons ha hc, he, by simp [hl], List.nodup_cons.2 ⟨fun hx => ?_, hnd⟩, fun y hy => ?_⟩
        · obtain ⟨q', hq', hle', _⟩ := hall x hx
          rw [hp] at hq'; cases hq'; omega
        · rcases List.mem_cons.1 hy with rfl | hy
          · exact ⟨p, hp, Int.le_refl _, h.dom _ _ hp⟩
          · obtain ⟨q', hq', hle', hL⟩ := hall y hy
            exact ⟨q', hq', by omega, hL⟩
theorem SideI.back (h : SideI G S0 L C P par A s []) (hC : ∀ y, ∀ b ∈ G y, 1 ≤ b.price) [∀ x, Decidable (S0 x)] {x : Nat} {p : Int} (hp : P x = some p) : ∃ out e, Chain par x out e ∧ S0 e ∧ out.length ≤ L.length := by
  obtain ⟨out, e, vs, hc, he, hl, hnd, hall⟩ := h.chain hC p.toNat x p hp (Nat.le_refl _)
  exact ⟨out, e, hc, he, by rw [← hl]; exact nodup_sub_length hnd (fun y hy => (hall y hy).choose_spec.2.2)⟩
/-- From the front side: the way back, turned round, leads to the state, for no more than its price. -/
theorem SideI.chainF {ops : List Wop} (h : SideI G S0 L C P par A s []) (hG : ∀ y, ∀ b ∈ G y, ∃ o, ops[b.op]? = some o ∧ o.can y = true ∧ b.to = o.next y ∧ b.price = 4096 * o.cost + 1) {x e : Nat} {out : List Nat} (hc : Chain par x out e) : ∀ {p : Int}, P x = some p → runOps ops e out.reverse = some x ∧ wayN 4096 1 ops out.reverse ≤ p := by
  induction hc with
  | nil hn => intro p hp; exact ⟨rfl, by rw [List.reverse_nil, wayN_nil]; exact (h.lo _ p hp).1⟩
  | @cons x a out e ha hc ih =>
    intro p hp
    have hs : ¬ S0 x := fun hs => by rw [(h.start x hs).2] at ha; cases ha
    obtain ⟨a', ha', hg, q, hq, hle⟩ := h.from_ x p hp hs
    rw [ha] at ha'; cases ha'
    obtain ⟨o, h1, h2, h3, h4⟩ := hG _ _ hg
    simp only at h1 h2 h3 h4
    obtain ⟨i1, i2⟩ := ih hq
    rw [List.reverse_cons, wayN_append, wayN_one h1, runOps_append, i1]
    refine ⟨?_, by omega⟩
    simp only [Option.bind_some, runOps, h1, h2, if_true]
    rw [← h3]
/-! ### the measure -/
def weightB (L : List Nat) (m : Nat) (P : Nat → Option Int) : Nat := (L.map fun x => match P x with | some p => p.toNat | none => m).sum
theorem weightB_put {m x : Nat} {v : Int} (hv : v.toNat < m) : ∀ {L : List Nat}, x ∈ L → (∀ q, P x = some q → v.toNat < q.toNat) → weightB L m (putP P x v) < weightB L m P := by
  have one : ∀ y, (match putP P x v y with | some p => p.toNat | none => m) ≤ (match P y with | some p => p.toNat | none => m) ∨ y = x := fun y => by
    by_cases hy : y = x
    · exact .inr hy
    · rw [putP_other P v hy]; exact .inl (Nat.le_refl _)
  have hx0 : (∀ q, P x = some q → v.toNat < q.toNat) → (match putP P x v x with | some p => p.toNat | none => m) < (match P x with | some p => p.toNat | none => m) := fun h => by
    rw [putP_same]
    cases hq : P x with
    | none => exact hv
    | some q => exact h q hq
  have le : (∀ q, P x = some q → v.toNat < q.toNat) → ∀ L : List Nat, weightB L m (putP P x v) ≤ weightB L m P := fun h L => by
    induction L with
    | nil => exact Nat.le_refl _
    | cons y r ih =>
      unfold weightB at ih ⊢
      rw [List.map_cons, List.map_cons, List.sum_cons, List.sum_cons]
      rcases one y with h1 | rfl
      · omega
      · have := hx0 h; omega
  intro L
  induction L with
  | nil => intro h; simp at h
  | cons y r ih =>
    intro hx h
    have hle := le h r
    have hlt := hx0 h
    by_cases hy : y = x
    · subst hy
      unfold weightB at hle ⊢
      rw [List.map_cons, List.map_cons, List.sum_cons, List.sum_cons]; omega
    · have hxr : x ∈ r := by
        rcases List.mem_cons.1 hx with e | e
        · exact absurd e.symm hy
        · exact e
      have ih' := ih hxr h
      have h1 := one y
      unfold weightB at ih' ⊢
      rw [List.map_cons, List.map_cons, List.sum_cons, List.sum_cons]
      rcases h1 with h1 | h1
      · omega
      · exact absurd h1 hy
end

/-! ### the start -/
def startP (S : List Nat) : Nat → Option Int := fun x => if x ∈ S then some 0 else none
def startA (S : List Nat) : List (Int × Int) := S.foldl (fun A (x : Nat) => putA A (x : Int) 0) []
theorem startA_mem (S : List Nat) : ∀ z, z ∈ startA S ↔ ∃ x ∈ S, z = ((x : Int), 0) := by
  have key : ∀ (S : List Nat) (A : List (Int × Int)), (∀ z ∈ A, z.2 = 0) → ∀ z, z ∈ S.foldl (fun A (x : Nat) => putA A (x : Int) 0) A ↔ z ∈ A ∨ ∃ x ∈ S, z = ((x : Int), 0) := by
    intro S
    induction S with
    | nil => intro A _ z; simp
    | cons x r ih =>
      intro A hA z
      rw [List.foldl_cons, ih _ (fun z hz => by
        rcases mem_putA.1 hz with ⟨h, _⟩ | rfl
        · exact hA z h
        · rfl), mem_putA]
      constructor
      · rintro ((⟨h, _⟩ | rfl) | ⟨y, hy, rfl⟩)
        · exact .inl h
        · exact .inr ⟨x, by simp, rfl⟩
        · exact .inr ⟨y, by simp [hy], rfl⟩
      · rintro (h | ⟨y, hy, rfl⟩)
        · by_cases e : z.1 = (x : Int)
          · refine .inl (.inr ?_)
            have := hA z h
            cases z; simp at this e; rw [this, e]
          · exact .inl (.inl ⟨h, e⟩)
        · rcases List.mem_cons.1 hy with rfl | hy
          · exact .inl (.inr rfl)
          · exact .inr ⟨y, hy, rfl⟩
  intro z
  unfold startA
  rw [key S [] (by simp)]; simp
theorem SideI.init {G : Nat → List SArc} {L S : List Nat} {C : Int} (hC : 0 ≤ C) (hS : ∀ x ∈ S, x ∈ L) (s : Nat) : SideI G (fun x => x ∈ S) L C (startP S) (fun _ => none) (startA S) s [] := by
  have hP : ∀ {x : Nat} {p : Int}, startP S x = some p → x ∈ S ∧ p = 0 := fun {x p} h => by
    unfold startP at h
    split at h
    · cases h; exact ⟨by assumption, rfl⟩
    · cases h
  refine ⟨fun x p h => hS x (hP h).1, fun x p h => ?_, fun x hx => ⟨by unfold startP; rw [if_pos hx], rfl⟩, fun x p h hn => absurd (hP h).1 hn, fun z hz => ?_, fun x p h => .inl ?_⟩
  · rw [(hP h).2]; exact ⟨Int.le_refl _, Int.mul_nonneg hC (Int.natCast_nonneg _)⟩
  · obtain ⟨x, hx, rfl⟩ := (startA_mem S z).1 hz
    exact ⟨x, rfl, by unfold startP; rw [if_pos hx]⟩
  · rw [(hP h).2]; exact (startA_mem S _).2 ⟨x, (hP h).1, rfl⟩
end Go.Proofs.YtcpmjoabhnfddaaGreat

namespace Go.Proofs.YtcpmjoabhnfddaaGreat

theorem run_cut {ops : List Wop} {p : List Nat} {x y : Nat} (h : runOps ops x p = some y) (i : Nat) : ∃ z, runOps ops x (p.take i) = some z ∧ runOps ops z (p.drop i) = some y := by
  rw [← List.take_append_drop i p, runOps_append] at h
  cases hz : runOps ops x (p.take i) with
  | none => rw [hz] at h; cases h
  | some z => rw [hz] at h; exact ⟨z, rfl, h⟩
/-- Every run has one of no greater cost that is no longer than there are states. -/
theorem short_run {ops : List Wop} {L : List Nat} (h0 : ∀ o ∈ ops, 0 ≤ o.cost ∧ o.cost ≤ 100) {x : Nat} (hL : ∀ p y, runOps ops x p = some y → y ∈ L) : ∀ (n : Nat) {p : List Nat} {y : Nat}, p.length ≤ n → runOps ops x p = some y → ∃ q, runOps ops x q = some y ∧ costN ops q ≤ costN ops p ∧ q.length ≤ L.length
  | n, p, y, hn, hr => by
    by_cases hle : p.length ≤ L.length
    · exact ⟨p, hr, Int.le_refl _, hle⟩
    · have hrep : ∃ i j, i < j ∧ j ≤ p.length ∧ runOps ops x (p.take i) = runOps ops x (p.take j) := by
        refine Classical.byContradiction fun hno => hle ?_
        have hnd : ((List.range (p.length + 1)).map fun i => (runOps ops x (p.take i)).getD 0).Nodup := by
          unfold List.Nodup
          rw [List.pairwise_iff_getElem]
          intro i j hi hj hij e
          simp only [List.getElem_map, List.getElem_range] at e
          simp only [List.length_map, List.length_range] at hi hj
          obtain ⟨zi, hzi, _⟩ := run_cut hr i
          obtain ⟨zj, hzj, _⟩ := run_cut hr j
          rw [hzi, hzj] at e
          simp only [Option.getD_some] at e
          exact hno ⟨i, j, hij, by omega, by rw [hzi, hzj, e]⟩
        have := nodup_sub_length hnd (b := L) (fun z hz => by
          obtain ⟨i, _, rfl⟩ := List.mem_map.1 hz
          obtain ⟨zi, hzi, _⟩ := run_cut hr i
          rw [hzi]; exact hL _ _ hzi)
        rw [List.length_map, List.length_range] at this; omega
      obtain ⟨i, j, hij, hj, he⟩ := hrep
      obtain ⟨z, hz1, hz2⟩ := run_cut hr j
      have hrq : runOps ops x (p.take i ++ p.drop j) = some y := by rw [runOps_append, he, hz1]; exact hz2
      have hlen : (p.take i ++ p.drop j).length < p.length := by simp only [List.length_append, List.length_take, List.length_drop]; omega
      have hcost : costN ops (p.take i ++ p.drop j) ≤ costN ops p := by
        have e1 : costN ops p = costN ops (p.take j) + costN ops (p.drop j) := by rw [← costN_append, List.take_append_drop]
        have e2 : p.take j = p.take i ++ (p.take j).drop i := by
          have := List.take_append_drop i (p.take j)
          rw [List.take_take, Nat.min_eq_left (by omega)] at this
          exact this.symm
        have e3 : costN ops (p.take j) = costN ops (p.take i) + costN ops ((p.take j).drop i) := by rw [← costN_append, ← e2]
        have := (costN_bound h0 ((p.take j).drop i)).1
        rw [costN_append]; omega
      cases n with
      | zero => omega
      | succ n =>
        obtain ⟨q, h1, h2, h3⟩ := short_run h0 hL n (by omega) hrq
        exact ⟨q, h1, by omega, h3⟩

theorem wayN_split (ops : List Wop) (p : List Nat) : wayN 4096 1 ops p = 4096 * costN ops p + (p.length : Int) := by unfold wayN; omega

end Go.Proofs.YtcpmjoabhnfddaaGreat

namespace Go.Proofs.YtcpmjoabhnfddaaGreat

def arcOf (e : Stp) : SArc := ⟨e.op, 4096 * e.cost + 1, e.to⟩
/-- The arcs from the states of a list. -/
def nextG (ops : List Wop) (ss : List Nat) (x : Nat) : List SArc := if x ∈ ss then (wsteps ops x).map arcOf else []
section
variable {ops : List Wop} {L : List Nat}
theorem nextG_all : ∀ x o (i : Nat), x ∈ L → ops[i]? = some o → o.can x = true → (⟨i, 4096 * o.cost + 1, o.next x⟩ : SArc) ∈ nextG ops L x := fun x o i hx ho hc => by
  unfold nextG
  rw [if_pos hx]
  exact List.mem_map.2 ⟨⟨i, o.cost, o.next x⟩, wsteps_mem.2 ⟨o, ho, hc, rfl, rfl⟩, rfl⟩
theorem nextG_only : ∀ y, ∀ b ∈ nextG ops L y, ∃ o, ops[b.op]? = some o ∧ o.can y = true ∧ b.to = o.next y ∧ b.price = 4096 * o.cost + 1 := fun y b hb => by
  unfold nextG at hb
  split at hb
  · obtain ⟨e, he, rfl⟩ := List.mem_map.1 hb
    obtain ⟨o, h1, h2, h3, h4⟩ := wsteps_mem.1 he
    exact ⟨o, h1, h2, h4, by unfold arcOf; simp only; rw [h3]⟩
  · simp at hb
theorem nextG_in (hsh : Shut ops L) : ∀ y, ∀ b ∈ nextG ops L y, b.to ∈ L := fun y b hb => by
  obtain ⟨o, h1, h2, h3, _⟩ := nextG_only y b hb
  unfold nextG at hb
  split at hb
  · rename_i hy; rw [h3]; exact hsh.2 y hy o (List.mem_of_getElem? h1) h2
  · simp at hb
theorem nextG_price (h0 : ∀ o ∈ ops, 0 ≤ o.cost ∧ o.cost ≤ 100) : ∀ y, ∀ b ∈ nextG ops L y, 1 ≤ b.price ∧ b.price ≤ 409601 := fun y b hb => by
  obtain ⟨o, h1, _, _, h4⟩ := nextG_only y b hb
  have := h0 o (List.mem_of_getElem? h1); omega
end

end Go.Proofs.YtcpmjoabhnfddaaGreat

namespace Go.Proofs.YtcpmjoabhnfddaaGreat
open Go.RowKit Go.Sort Go.Proofs

/-! ### Contains -/
def Behind (s : List Int) (x : Int) (i : Nat) : Prop := i ≤ s.length ∧ ∀ j y, j < i → s[j]? = some y → y < x
theorem behind_end {s : List Int} {x : Int} {i : Nat} (h : Behind s x i) (hi : s.length ≤ i) : x ∉ s := fun hm => by
  obtain ⟨j, hj⟩ := List.mem_iff_getElem?.1 hm
  have := (List.getElem?_eq_some_iff.1 hj).1
  have := h.2 j x (by omega) hj
  omega
theorem behind_not {s : List Int} (hs : s.Pairwise (· < ·)) {x y : Int} {i : Nat} (h : Behind s x i) (hy : s[i]? = some y) (hxy : x < y) : x ∉ s := fun hm => by
  obtain ⟨j, hj⟩ := List.mem_iff_getElem?.1 hm
  by_cases hji : j < i
  · have := h.2 j x hji hj; omega
  · obtain ⟨hjl, ej⟩ := List.getElem?_eq_some_iff.1 hj
    obtain ⟨hil, ei⟩ := List.getElem?_eq_some_iff.1 hy
    rcases Nat.lt_or_ge i j with h2 | h2
    · have := List.pairwise_iff_getElem.1 hs i j hil hjl h2; omega
    · have : i = j := by omega
      subst this; omega
theorem subB_false {a b : List Int} {x : Int} (hx : x ∈ a) (hn : x ∉ b) : subB a b = false := by
  unfold subB; rw [List.all_eq_false]; exact ⟨x, hx, by simp [hn]⟩

set_option maxHeartbeats 1000000 in
theorem contains_any (w : World) (vs vp : Value) (s part : List Int) (hs : Ints w vs s) (hp : Ints w vp part) (ss : s.Pairwise (· < ·)) (sp : part.Pairwise (· < ·)) :
    Calls Tryz.prog 133 #[vs, vp] w fun e w' => e = .returned (.bool (subB part s)) ∧ w = w' := by
  obtain ⟨ao, ca, h1, ma⟩ := hs.form
  obtain ⟨po, cp, h2, mp⟩ := hp.form
  have CS := Lib.hid (hs.cell h1); have CP := Lib.hid (hp.cell h2); have SS := Lib.hid ss; have SP := Lib.hid sp
  subst h1 h2
  clear hs hp ss sp
  go_enter Tryz.func133, Tryz.ntmps133
  go_wp2_with fail
  go_loop [5, 10] (fun v5 v10 => ∃ k i : Nat, k ≤ part.length ∧ v10 = .int .i64 (k : Int) ∧ v5 = .int .i64 (i : Int) ∧ i ≤ s.length ∧ subB (part.take k) s = true ∧ ∀ x, part[k]? = some x → Behind s x i) (fun _ v10 => part.length - (intOf v10).toNat)
  case atStart => exact ⟨0, 0, Nat.zero_le _, rfl, rfl, Nat.zero_le _, rfl, fun x _ => ⟨Nat.zero_le _, fun j _ hj => by omega⟩⟩
  case round =>
    obtain ⟨k, i, hk, rfl, rfl, hi, ht, hb⟩ := hrel
    have HT := Lib.hid ht; have HB := Lib.hid hb
    clear ht hb
    by_cases hlt : k < part.length
    · obtain ⟨bp, op, rfl, hc⟩ := CP.out (by omega)
      obtain ⟨x, hx⟩ : ∃ x, part[k]? = some x := ⟨_, List.getElem?_eq_getElem hlt⟩
      have hcx := hc k _ hx
      have HX := Lib.hid hx
      have HB0 := Lib.hid (HB.out x hx)
      clear hc hx HB
      go_wp2_with fail
      go_loop [5] (fun v5 => ∃ i : Nat, v5 = .int .i64 (i : Int) ∧ Behind s x i) (fun v5 => s.length - (intOf v5).toNat)
      case atStart => exact ⟨i, rfl, HB0.out⟩
      case round =>
        obtain ⟨i, rfl, hb⟩ := hrel
        have hil := hb.1
        have HB := Lib.hid hb
        clear hb
        by_cases hin : i < s.length
        · obtain ⟨bs, os, rfl, hc⟩ := CS.out (by omega)
          obtain ⟨y, hy⟩ : ∃ y, s[i]? = some y := ⟨_, List.getElem?_eq_getElem hin⟩
          have hcy := hc i _ hy
          have HY := Lib.hid hy
          clear hc hy
          by_cases hyx : y < x
          · have HB1 : Hid (Behind s x (i + 1)) := by
              unfold Hid
              refine ⟨by omega, fun j z hj hz => ?_⟩
              rcases Nat.lt_or_ge j i with h | h
              · exact HB.out.2 j z h hz
              · have : j = i := by omega
                subst this
                rw [HY.out] at hz; cases hz; exact hyx
            go_wp2_with fail
            go_round
            case rel => exact ⟨i + 1, by go_num, HB1.out⟩
            case measure => simp [intOf]; omega
          · by_cases hne : y = x
            · subst hne
              have HN : Hid (subB (part.take (k + 1)) s = true) := by
                unfold Hid
                rw [take_getS HX.out]
                have := HT.out
                unfold subB at this ⊢
                rw [List.all_append, this]
                simp [List.mem_of_getElem? HY.out]
              have HB2 : Hid (∀ z, part[k + 1]? = some z → Behind s z i) := by
                unfold Hid
                intro z hz
                obtain ⟨l1, e1⟩ := List.getElem?_eq_some_iff.1 HX.out
                obtain ⟨l2, e2⟩ := List.getElem?_eq_some_iff.1 hz
                have := List.pairwise_iff_getElem.1 SP.out k (k + 1) l1 l2 (by omega)
                refine ⟨HB.out.1, fun j u hj hu => ?_⟩
                have := HB.out.2 j u hj hu
                omega
              have hd1 : decide (y < y) = false := by simp
              have hd2 : (y != y) = false := by simp
              clear hyx
              go_wp2_with fail
              go_round
              case rel => exact ⟨k + 1, i, by omega, by go_num, rfl, hil, HN.out, HB2.out⟩
              case measure => simp [intOf]; omega
            · have hf : Hid (subB part s = false) := by
                unfold Hid
                exact subB_false (List.mem_of_getElem? HX.out) (behind_not SS.out HB.out HY.out (by omega))
              have hd1 : decide (y < x) = false := by simpa using hyx
              have hd2 : (y != x) = true := by simpa using hne
              clear hyx hne
              go_wp2_with fail
              go_ret
              exact ⟨congrArg (fun b => Ending.returned (Value.bool b)) hf.out.symm, rfl⟩
        · have hf : Hid (subB part s = false) := by
            unfold Hid
            exact subB_false (List.mem_of_getElem? HX.out) (behind_end HB.out (by omega))
          have hie : i = s.length := by omega
          subst hie
          clear hin hil
          go_wp2_with fail
          go_ret
          exact ⟨congrArg (fun b => Ending.returned (Value.bool b)) hf.out.symm, rfl⟩
    · have hf : Hid (subB part s = true) := by
        unfold Hid
        have := HT.out
        rwa [List.take_of_length_le (by omega)] at this
      go_wp2_with fail
      go_ret
      exact ⟨congrArg (fun b => Ending.returned (Value.bool b)) hf.out.symm, rfl⟩

/-! ### the library's Sort and Compact over a row of the call's own -/
theorem sortI_any (w : World) (base : Nat) (v : Value) (l : List Int) (hown : w.ownsRow base 3 1 v l.length (l.map (Value.int .i64))) (hlen : l.length < 4611686018427387904) :
    Calls Tryz.prog 166 #[v] w fun e w' => e = .returned (.tuple #[]) ∧ w'.ownsRow base 3 1 v l.length ((l.mergeSort fun x y => decide (x ≤ y)).map (Value.int .i64)) ∧ Keeps (fun b => v.ownBlock = some b) w w' := by
  rcases hown.2 with ⟨rfl, h0⟩ | ⟨g, cap, cur, rfl, hb, hg, hn, hm, hs, ht⟩
  · have hz : l = [] := List.length_eq_zero_iff.1 h0
    subst hz
    refine (Tryz.slices_Sort_int_none none 0 w).mono ?_
    rintro e w' ⟨rfl, rfl⟩
    exact ⟨rfl, by simpa using World.ownsRow_nil _ _ _ _, Keeps.refl _ _⟩
  · have ht' : cur.toList.take l.length = l.map (Value.int .i64) := by simpa using ht
    refine (Tryz.slices_Sort_int g 0 cap l w (holds_of_blockI hg ht') (lt_of_heap hg) hlen).mono ?_
    rintro e w' ⟨rfl, n, os, rfl⟩
    exact ⟨rfl, ownsRow_sortedI (by simp) hb hg hn hm hs, (steady_keeps (grownBy_sortedI _)).mono (fun i _ h => by cases h; rfl)⟩

theorem keeps_putRow {w : World} {g q : Nat} (d : Array Int) : Keeps (fun b => b = g) w (putRow (Value.int .i64) (Sort.ahead w q) g 0 d) := by
  refine ⟨rfl, rfl, rfl, by simp [putRow, mapBlock, Sort.ahead], fun k _ hne => ?_⟩
  have : g ≠ k := fun e => hne e.symm
  simp [putRow, mapBlock, Sort.ahead, Array.getElem?_modify, this]
theorem heap_putRow {w : World} {g q : Nat} {cur : Array Value} {e : TypeId} {fr : Nat × Nat} (d : Array Int) (hb : w.heap[g]? = some (.cells cur e fr)) :
    (putRow (Value.int .i64) (Sort.ahead w q) g 0 d).heap[g]? = some (.cells (putCells (Value.int .i64) 0 d cur) e fr) := by
  simp [putRow, mapBlock, Sort.ahead, Array.getElem?_modify, hb, onCells]

theorem compactI_any (w : World) (base : Nat) (v : Value) (l : List Int) (hown : w.ownsRow base 3 1 v l.length (l.map (Value.int .i64))) (hlen : l.length < 4611686018427387904) :
    Calls Tryz.prog 167 #[v] w fun e w' => ∃ v', e = .returned v' ∧ w'.ownsRow base 3 1 v' (Lib.compact l).length ((Lib.compact l).map (Value.int .i64)) ∧ v'.ownBlock = v.ownBlock ∧ Keeps (fun b => v.ownBlock = some b) w w' := by
  rcases hown.2 with ⟨rfl, h0⟩ | ⟨g, cap, cur, rfl, hb, hg, hn, hm, hs, ht⟩
  · have hz : l = [] := List.length_eq_zero_iff.1 h0
    subst hz
    refine (Tryz.slices_Compact_int_empty none 0 w).mono ?_
    rintro e w' ⟨rfl, rfl⟩
    exact ⟨_, rfl, by simpa [Lib.compact, Lib.compactUpTo] using World.ownsRow_nil _ _ _ _, rfl, Keeps.refl _ _⟩
  · have ht' : cur.toList.take l.length = l.map (Value.int .i64) := by simpa using ht
    have hcl := Lib.compact_length_le l
    refine (Tryz.slices_Compact_int g 0 cap l w (holds_of_blockI hg ht') (by omega) hn).mono ?_
    rintro e w' ⟨rfl, q, rfl⟩
    have hsz : cur.size = cap := by simpa using hs
    have htk := take_putCellsI cur (Lib.compact l ++ List.replicate (l.length - (Lib.compact l).length) 0) (by simp; omega)
    refine ⟨_, rfl, ⟨by simp, .inr ⟨g, cap, _, rfl, hb, heap_putRow _ hg, by omega, hm, by simp [putCells, hs], ?_⟩⟩, rfl, (keeps_putRow _).mono (fun i _ h => by cases h; rfl)⟩
    have := congrArg (List.take (Lib.compact l).length) htk
    rw [List.take_take, List.map_append, List.take_left' (by simp)] at this
    rw [Nat.mul_one]
    rw [Nat.min_eq_left (by simp)] at this
    exact this

/-! ### an append of whatever slice -/
section
variable {P : Program} {w : World}
theorem run_appendS_zero (base : Nat) (t ty e : TypeId) (i : TypeInfo) (size : Nat) (ht : P.underlying t = some (.slice e)) (hi : P.info? e = some i)
    (v : Value) (n : Nat) (xs : List Value) (hown : w.ownsRow base e size v n xs) (ao : Option Addr) (c : Nat) :
    (Builtin.append_ #[t, t] ty #[v, .slice ao 0 c]).run P w = .ok v w := by
  rcases hown.2 with ⟨rfl, rfl⟩ | ⟨g, cap, cur, rfl, _, _, hnc, _⟩
  · cases ao <;> simp [Builtin.append_, run_underlying ht, sizeOf, typeInfo, hi, Builtin.lenOf, Builtin.firstCells, loadCells, loadCellsFrom]
  · cases ao <;> simp [Builtin.append_, run_underlying ht, sizeOf, typeInfo, hi, Builtin.lenOf, Builtin.firstCells, hnc, storeCells, loadCells, loadCellsFrom]
theorem wpList_appendS_zero {ops : Array Oper} {rest : List Oper} {o : Oper} {a : Act} {Q : Exit → Act → World → Prop} (hgd : o.guard = none) (s x : Operand) (t : TypeId)
    (ho : o.op = .call { callee := .builtin .append, args := #[s, x], argTypes := #[t, t] })
    (base : Nat) (e : TypeId) (i : TypeInfo) (size : Nat) (ht : P.underlying t = some (.slice e)) (hi : P.info? e = some i)
    (v : Value) (n : Nat) (xs : List Value) (hs : a.eval s = v) (hown : w.ownsRow base e size v n xs) (ao : Option Addr) (c : Nat) (hx : a.eval x = .slice ao 0 c)
    (h : wpList P ops Q rest (a.put o.dst v) w) : wpList P ops Q (o :: rest) a w := by
  refine wpList_plain hgd fun K hK => ?_
  have hrun := run_appendS_zero (P := P) (w := w) base t o.type e i size ht hi v n xs hown ao c
  unfold Oper.wp
  simp [execOp, ho, resolve, invoke, builtin, hs, hx, hrun, Result.andThen]
  exact hK _ _ h
theorem grownBy_refl (w : World) (row : Option Nat) : w.grownBy w row := ⟨rfl, rfl, rfl, Nat.le_refl _, fun _ _ _ => rfl⟩
/-- append(out, x...) to a row of the call's own, x whatever slice. -/
theorem wpList_append_src {ops : Array Oper} {rest : List Oper} {o : Oper} {a : Act} {Q : Exit → Act → World → Prop} (hgd : o.guard = none) (s x : Operand) (t : TypeId)
    (ho : o.op = .call { callee := .builtin .append, args := #[s, x], argTypes := #[t, t] })
    (base : Nat) (e : TypeId) (i : TypeInfo) (z : Value) (bytes : Nat) (ht : P.underlying t = some (.slice e)) (hi : P.info? e = some i) (hz : i.zero = some z)
    (hsize : i.size = 1) (hby : i.bytes = bytes) (hzs : z.cells.size = 1)
    (v : Value) (n : Nat) (xs : List Value) (hs : a.eval s = v) (hown : w.ownsRow base e 1 v n xs)
    (vx : Value) (m : Nat) (news : List Value) (hx : a.eval x = vx) (hsl : Sl w vx m news) (hl : news.length = m) (h1 : ∀ u ∈ news, u.oneCell' = true)
    (h63 : n + m ≤ maxLen) (hbytes : (n + m) * bytes ≤ 140737488355328) (hbase : base ≤ w.heap.size)
    (h : ∀ v' w', w'.ownsRow base e 1 v' (n + m) (xs ++ news) → w.grownBy w' v.ownBlock → (∀ g, v'.ownBlock = some g → v.ownBlock = some g ∨ w.heap.size ≤ g) → w.drawn ≤ w'.drawn → wpList P ops Q rest (a.put o.dst v') w') : wpList P ops Q (o :: rest) a w := by
  obtain ⟨ao, c, rfl, hm, hc⟩ := hsl
  rcases Nat.eq_zero_or_pos m with h0 | h0
  · subst h0
    have : news = [] := List.length_eq_zero_iff.1 hl
    subst this
    refine wpList_appendS_zero hgd s x t ho base e i 1 ht hi v n xs hs hown ao c hx (h v w (by simpa using hown) (grownBy_refl w _) (fun g hg => .inl hg) (Nat.le_refl _))
  · obtain ⟨b, off, rfl, hcell⟩ := hc h0
    refine wpList_append_d hgd s x t ho base e i z 1 bytes ht hi hz hsize hby hzs (by omega) v n xs hs hown ⟨b, off, none⟩ m c news hx (by omega) (fun j u hj => by
      have h := hcell j u hj
      by_cases hj0 : j = 0
      · subst hj0; simpa [Addr.add] using h
      · simpa [Addr.add, hj0] using h) h1 h0 h63 hbytes hbase w.heap.size rfl fun g cap w' h2 h3 h4 _ h6 => h _ w' h2 h3 (fun k hk => ?_) h6
    rcases h4 with h4 | h4
    · left; rw [h4]; exact hk
    · right; cases (show some g = some k from hk); omega
end

/-! ### Update -/
def sansL (s del : List Int) : List Int := s.filter fun x => !decide (x ∈ del)
theorem sansL_step {s del : List Int} {k : Nat} {x : Int} (hx : s[k]? = some x) : sansL (s.take (k + 1)) del = if x ∈ del then sansL (s.take k) del else sansL (s.take k) del ++ [x] := by
  unfold sansL
  rw [take_getS hx, List.filter_append]
  by_cases h : x ∈ del <;> simp [h]
theorem sansL_le (s del : List Int) (k : Nat) : (sansL (s.take k) del).length ≤ k := by
  unfold sansL
  have := List.length_filter_le (fun x => !decide (x ∈ del)) (s.take k)
  have := List.length_take_le k s
  omega

set_option maxRecDepth 100000 in
set_option maxHeartbeats 1000000 in
theorem update_any (w : World) (vs va vd : Value) (s add del : List Int) (hs : Ints w vs s) (ha : Ints w va add) (hd : Ints w vd del) (sd : del.Pairwise (· < ·)) (ls : s.length ≤ 1000) (la : add.length ≤ 1000) (ld : del.length ≤ 1000) :
    Calls Tryz.prog 162 #[vs, va, vd] w fun e w' => ∃ v, e = .returned v ∧ w'.ownsRow w.heap.size 3 1 v (updL s add del).length ((updL s add del).map (Value.int .i64)) ∧ Keeps (fun _ => False) w w' := by
  obtain ⟨i0, hi0, hz0, hz1, hz2⟩ := info_parts Tryz.info3
  obtain ⟨ao, ca, h1, _⟩ := hs.form
  obtain ⟨bo, cb, h2, _⟩ := ha.form
  obtain ⟨co, cc, h3, _⟩ := hd.form
  have CS := Lib.hid (hs.cell h1); have HA := Lib.hid ha; have HD := Lib.hid hd; have SD := Lib.hid sd
  subst h1 h2 h3
  clear hs ha hd sd
  go_enter Tryz.func162, Tryz.ntmps162
  go_wp2_with fail
  go_loopw [7, 14] (fun v7 v14 wr => ∃ k : Nat, k ≤ s.length ∧ v14 = .int .i64 (k : Int) ∧ wr.ownsRow w.heap.size 3 1 v7 (sansL (s.take k) del).length ((sansL (s.take k) del).map (Value.int .i64)) ∧ Keeps (fun _ => False) w wr) (fun _ v14 _ => s.length - (intOf v14).toNat)
  case atStart => exact ⟨0, Nat.zero_le _, rfl, World.ownsRow_nil _ _ _ _, Keeps.refl _ _⟩
  case round =>
    obtain ⟨k, hk, rfl, hown, hkw⟩ := hrel
    have HO := Lib.hid hown; have KW := Lib.hid hkw
    have hle := sansL_le s del k
    obtain ⟨av, cv, hv⟩ := ownsRow_form1 hown
    subst hv
    clear hown hkw
    by_cases hlt : k < s.length
    · obtain ⟨bs, os, rfl, hc⟩ := CS.out (by omega)
      obtain ⟨x, hx⟩ : ∃ x, s[k]? = some x := ⟨_, List.getElem?_eq_getElem hlt⟩
      have hcx := KW.out.cell (hc k _ hx) (fun h => h)
      have HST := Lib.hid (sansL_step (del := del) hx)
      clear hc hx
      go_wp2_with fail
      refine (bsearch_any _ _ _ x (HD.out.keeps0 KW.out) SD.out (by omega)).mono ?_; rintro e w2 ⟨j, rfl, q, rfl⟩
      have KQ := Lib.hid (KW.out.drewN q)
      have HOQ := Lib.hid (((Keeps.refl (fun _ => False) wr).drewN q).ownsRow HO.out (fun _ _ h => h))
      clear hcx HO KW
      generalize wr.drewN q = wq at KQ HOQ ⊢
      have hsz := KQ.out.size
      by_cases hm : x ∈ del
      · have HE := Lib.hid (show sansL (s.take (k + 1)) del = sansL (s.take k) del by rw [HST.out, if_pos hm])
        rw [decide_eq_true hm]
        clear hm
        go_wp2_with fail
        go_roundw
        case rel => exact ⟨k + 1, by omega, by go_num, by rw [HE.out]; exact HOQ.out, KQ.out⟩
        case measure => simp only [intOf]; omega
      · have HE := Lib.hid (show sansL (s.take (k + 1)) del = sansL (s.take k) del ++ [x] by rw [HST.out, if_neg hm])
        rw [decide_eq_false hm]
        clear hm
        go_wp2_with (at_builtin; refine wpList_append_d rfl _ _ _ rfl w.heap.size 3 i0 _ 1 8 Tryz.underlying22 hi0 hz0 hz1 hz2 rfl (by omega) _ (sansL (s.take k) del).length ((sansL (s.take k) del).map (Value.int .i64)) (by rfl) (World.ownsRow.alloc HOQ.out (.cells #[.int .i64 x] 3)) ⟨wq.heap.size, 0, none⟩ 1 1 [.int .i64 x] (by rfl) (by rfl) (World.news_of_block (cs := #[.int .i64 x]) (t := 3) (fr := (0, 0)) (heap_alloc_new _ _)) (by simp [Value.oneCell']) (by omega) (by unfold maxLen; omega) (by omega) (by simp; omega) (wq.heap.size + 1) (by simp) ?_)
        intro gg cap2 w4 hown hgrow hat hlt4 hd4
        have HN := Lib.hid (show w4.ownsRow w.heap.size 3 1 (.slice (some ⟨gg, 0, none⟩) ((sansL (s.take k) del).length + 1) cap2) (sansL (s.take (k + 1)) del).length ((sansL (s.take (k + 1)) del).map (Value.int .i64)) by
          rw [HE.out, List.map_append, List.length_append]; exact hown)
        have HKN := Lib.hid (own_grown HOQ.out KQ.out ((Keeps.refl _ wq).alloc (.cells #[.int .i64 x] 3)) hgrow)
        clear hown hgrow hat hd4
        go_wp2_with fail
        go_roundw
        case rel => exact ⟨k + 1, by omega, by go_num, HN.out, HKN.out⟩
        case measure => simp only [intOf]; omega
    · have hke : k = s.length := by omega
      subst hke
      have HO2 := Lib.hid (show wr.ownsRow w.heap.size 3 1 (.slice av (sansL (s.take s.length) del).length cv) (sansL s del).length ((sansL s del).map (Value.int .i64)) by
        have h := HO.out
        have e : sansL (s.take s.length) del = sansL s del := by rw [List.take_length]
        generalize (Value.slice av (sansL (s.take s.length) del).length cv) = v at h ⊢
        rw [e] at h; exact h)
      have hle2 : (sansL s del).length ≤ s.length := by have := sansL_le s del s.length; rwa [List.take_length] at this
      have hsz := KW.out.size
      have HAw := Lib.hid (HA.out.keeps0 KW.out)
      clear HO hle
      generalize (sansL (s.take s.length) del).length = nn at HO2 ⊢
      go_wp2_with (at_builtin; refine wpList_append_src rfl _ _ _ rfl w.heap.size 3 i0 _ 8 Tryz.underlying22 hi0 hz0 hz1 hz2 rfl _ (sansL s del).length ((sansL s del).map (Value.int .i64)) (by rfl) HO2.out _ add.length (add.map (Value.int .i64)) (by rfl) HAw.out (by simp) (by simp [Value.oneCell']) (by unfold maxLen; omega) (by omega) (by omega) ?_)
      intro v4 w4 hown hgrow hblk hd4
      have HN := Lib.hid (show w4.ownsRow w.heap.size 3 1 v4 (preL s add del).length ((preL s add del).map (Value.int .i64)) by
        unfold preL; rw [List.map_append, List.length_append]; exact hown)
      have HK4 := Lib.hid (own_grown HO2.out KW.out (Keeps.refl _ wr) hgrow)
      have hpl := preL_len s add del
      clear hown hgrow hblk hd4 HO2 KW
      go_wp2_with fail
      refine (sortI_any _ _ _ (preL s add del) HN.out (by omega)).mono ?_; rintro e w5 ⟨rfl, hown, hk⟩
      have HN5 := Lib.hid (show w5.ownsRow w.heap.size 3 1 v4 ((preL s add del).mergeSort fun x y => decide (x ≤ y)).length (((preL s add del).mergeSort fun x y => decide (x ≤ y)).map (Value.int .i64)) by rw [List.length_mergeSort]; exact hown)
      have HK5 := Lib.hid (HK4.out.trans' hk (fun b hb => .inr (World.ownsRow.lt HN.out b hb).1))
      clear hown hk HN HK4
      go_wp2_with fail
      refine (compactI_any _ _ _ _ HN5.out (by rw [List.length_mergeSort]; omega)).mono ?_; rintro e w6 ⟨v6, rfl, hown, _, hk⟩
      have HN6 := Lib.hid hown
      have HK6 := Lib.hid (HK5.out.trans' hk (fun b hb => .inr (World.ownsRow.lt HN5.out b hb).1))
      clear hown hk HN5 HK5
      go_wp2_with fail
      go_ret
      exact ⟨_, rfl, HN6.out, HK6.out⟩

/-! ### Can, Next -/
end Go.Proofs.YtcpmjoabhnfddaaGreat

namespace Go.Proofs.YtcpmjoabhnfddaaGreat
open Go.RowKit

theorem ops_cost0 {t : Tsk} (ok : t.Ok) : ∀ o ∈ wordsOf t.ops, 0 ≤ o.cost ∧ o.cost ≤ 100 := fun o ho => by
  unfold wordsOf at ho
  obtain ⟨o', ho', rfl⟩ := List.mem_map.1 ho
  exact ⟨(ok.ops o' ho').cost0, (ok.ops o' ho').cost1⟩

end Go.Proofs.YtcpmjoabhnfddaaGreat

namespace Go.Proofs.YtcpmjoabhnfddaaGreat
open Go.RowKit

theorem reach_path {ops : List Wop} {s x : Nat} (h : Reach ops s x) : ∃ q, runOps ops s q = some x := by
  induction h with
  | refl => exact ⟨[], rfl⟩
  | step _ hy ih =>
    obtain ⟨q, hq⟩ := ih
    obtain ⟨o, ho, rfl⟩ := List.mem_map.1 hy
    obtain ⟨ho, hc⟩ := List.mem_filter.1 ho
    obtain ⟨k, hk⟩ := List.mem_iff_getElem?.1 ho
    exact ⟨q ++ [k], runOps_snoc' hq hk hc⟩
section
variable {w : World} {vi vg vo vs : Value} {t : Tsk}
end

end Go.Proofs.YtcpmjoabhnfddaaGreat
