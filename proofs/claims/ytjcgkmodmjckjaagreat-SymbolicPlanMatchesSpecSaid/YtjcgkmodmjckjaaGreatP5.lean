/- cmp.Compare at int, slices.Compare at []int, the comparison of two words. space.All: a search with a stack. space.Checked. The reference's Goals and Explored; the laws' wayFault and wide. The reference's Prices. slices.Reverse over owned rows; space.Path. breadth.First: the tree of a breadth-first search. Prices: two solutions agree; the depths of a breadth-first tree are one. No condition beyond what each theorem says. -/
import Derived.Test.YtjcgkmodmjckjaaGreatP3
import Derived.Test.YtjcgkmodmjckjaaGreatShelf
import Derived.Sort.OwnSorted
import Derived.Test.YtjcgkmodmjckjaaGreatP4
import Derived.Test.YtjcgkmodmjckjaaGreatP1
import Derived.Deep.AppendSrc

namespace Go.Proofs.YtjcgkmodmjckjaaGreat
open Go.RowKit

def cmpI (a b : Int) : Int := if a < b then -1 else if b < a then 1 else 0

def cmpL : List Int → List Int → Int
  | [], [] => 0
  | [], _ :: _ => -1
  | _ :: _, [] => 1
  | a :: r, b :: s => if a < b then -1 else if b < a then 1 else cmpL r s

theorem nan_any (w : World) (x : Int) : Calls Tryz.prog 117 #[.int .i64 x] w fun e w' => e = .returned (.bool false) ∧ w = w' := by
  go_enter Tryz.func117, Tryz.ntmps117
  go_wp2_with fail
  go_ret
  exact ⟨rfl, rfl⟩

set_option maxHeartbeats 1000000 in
theorem compare_any (w : World) (x y : Int) : Calls Tryz.prog 93 #[.int .i64 x, .int .i64 y] w fun e w' => e = .returned (.int .i64 (cmpI x y)) ∧ w = w' := by
  by_cases h1 : x < y
  · have hf : Hid (cmpI x y = -1) := by unfold Hid cmpI; rw [if_pos h1]
    go_enter Tryz.func93, Tryz.ntmps93
    go_wp2_with (go_at_call 117; refine (nan_any _ _).mono ?_; rintro e w' ⟨rfl, rfl⟩)
    go_ret
    exact ⟨by rw [hf.out]; rfl, rfl⟩
  · by_cases h2 : y < x
    · have hf : Hid (cmpI x y = 1) := by unfold Hid cmpI; rw [if_neg h1, if_pos h2]
      go_enter Tryz.func93, Tryz.ntmps93
      go_wp2_with (go_at_call 117; refine (nan_any _ _).mono ?_; rintro e w' ⟨rfl, rfl⟩)
      go_ret
      exact ⟨by rw [hf.out]; rfl, rfl⟩
    · have hf : Hid (cmpI x y = 0) := by unfold Hid cmpI; rw [if_neg h1, if_neg h2]
      go_enter Tryz.func93, Tryz.ntmps93
      go_wp2_with (go_at_call 117; refine (nan_any _ _).mono ?_; rintro e w' ⟨rfl, rfl⟩)
      go_ret
      exact ⟨by rw [hf.out]; rfl, rfl⟩

theorem cmpL_step {a b : List Int} {k : Nat} {x y : Int} (hx : a[k]? = some x) (hy : b[k]? = some y) : cmpL (a.drop k) (b.drop k) = if x < y then -1 else if y < x then 1 else cmpL (a.drop (k + 1)) (b.drop (k + 1)) := by
  obtain ⟨h1, h2⟩ := List.getElem?_eq_some_iff.1 hx
  obtain ⟨h3, h4⟩ := List.getElem?_eq_some_iff.1 hy
  rw [List.drop_eq_getElem_cons h1, List.drop_eq_getElem_cons h3, h2, h4, cmpL]

theorem cmpL_long {a b : List Int} {k : Nat} (h1 : k < a.length) (h2 : b.length ≤ k) : cmpL (a.drop k) (b.drop k) = 1 := by
  rw [List.drop_eq_getElem_cons h1, List.drop_eq_nil_of_le h2, cmpL]
theorem cmpL_short {a b : List Int} {k : Nat} (h1 : a.length ≤ k) (h2 : k < b.length) : cmpL (a.drop k) (b.drop k) = -1 := by
  rw [List.drop_eq_getElem_cons h2, List.drop_eq_nil_of_le h1, cmpL]
theorem cmpL_end {a b : List Int} {k : Nat} (h1 : a.length ≤ k) (h2 : b.length ≤ k) : cmpL (a.drop k) (b.drop k) = 0 := by
  rw [List.drop_eq_nil_of_le h1, List.drop_eq_nil_of_le h2, cmpL]

set_option maxHeartbeats 1000000 in
theorem sliceCompare_any (w : World) (va vb : Value) (a b : List Int) (ha : Ints w va a) (hb : Ints w vb b) :
    Calls Tryz.prog 60 #[va, vb] w fun e w' => e = .returned (.int .i64 (cmpL a b)) ∧ w = w' := by
  obtain ⟨ao, ca, hva, ma⟩ := ha.form
  obtain ⟨bo, cb, hvb, mb⟩ := hb.form
  have CA := Lib.hid (ha.cell hva)
  have CB := Lib.hid (hb.cell hvb)
  subst hva hvb
  clear ha hb
  go_enter Tryz.func60, Tryz.ntmps60
  go_wp2_with fail
  go_loop [11] (fun i => ∃ k : Nat, k ≤ a.length ∧ k ≤ b.length ∧ i = .int .i64 (k : Int) ∧ cmpL a b = cmpL (a.drop k) (b.drop k)) (fun i => a.length - (intOf i).toNat)
  case atStart => exact ⟨0, Nat.zero_le _, Nat.zero_le _, rfl, rfl⟩
  case round =>
    obtain ⟨k, hk, hk2, rfl, ht⟩ := hrel
    have HT := Lib.hid ht; clear ht
    by_cases hlt : k < a.length
    · obtain ⟨ba, oa, rfl, ha'⟩ := CA.out (by omega)
      obtain ⟨x, hx⟩ : ∃ x, a[k]? = some x := ⟨_, List.getElem?_eq_getElem hlt⟩
      have ha1 := ha' k _ hx
      by_cases hlt2 : k < b.length
      · obtain ⟨bb, ob, rfl, hb'⟩ := CB.out (by omega)
        obtain ⟨y, hy⟩ : ∃ y, b[k]? = some y := ⟨_, List.getElem?_eq_getElem hlt2⟩
        have hb1 := hb' k _ hy
        have HS := Lib.hid (cmpL_step hx hy)
        clear ha' hb' hx hy
        by_cases hz : cmpI x y = 0
        · have hne : (cmpI x y != 0) = false := by simpa using hz
          have HN : Hid (cmpL a b = cmpL (a.drop (k + 1)) (b.drop (k + 1))) := by
            unfold Hid
            rw [HT.out, HS.out]
            unfold cmpI at hz
            by_cases h1 : x < y
            · rw [if_pos h1] at hz; cases hz
            · rw [if_neg h1] at hz ⊢
              by_cases h2 : y < x
              · rw [if_pos h2] at hz; cases hz
              · rw [if_neg h2]
          clear hz
          go_wp2_with fail
          refine (compare_any _ _ _).mono ?_; rintro e w1 ⟨rfl, rfl⟩
          generalize cmpI x y = c at hne ⊢
          go_wp2_with fail
          go_round
          case rel => exact ⟨k + 1, by omega, by omega, by go_num, HN.out⟩
          case measure => simp [intOf]; omega
        · have hne : (cmpI x y != 0) = true := by simpa using hz
          have HN : Hid (cmpL a b = cmpI x y) := by
            unfold Hid
            rw [HT.out, HS.out]
            unfold cmpI at hz ⊢
            by_cases h1 : x < y
            · rw [if_pos h1, if_pos h1]
            · rw [if_neg h1] at hz ⊢
              by_cases h2 : y < x
              · rw [if_pos h2, if_neg h1, if_pos h2]
              · rw [if_neg h2] at hz; exact absurd rfl hz
          clear hz
          go_wp2_with fail
          refine (compare_any _ _ _).mono ?_; rintro e w1 ⟨rfl, rfl⟩
          generalize cmpI x y = c at hne HN ⊢
          go_wp2_with fail
          go_ret
          exact ⟨congrArg (fun u : Int => Ending.returned (Value.int .i64 u)) HN.out.symm, rfl⟩
      · have HN : Hid (cmpL a b = 1) := by unfold Hid; rw [HT.out]; exact cmpL_long hlt (by omega)
        clear ha' hx
        go_wp2_with fail
        go_ret
        exact ⟨congrArg (fun u : Int => Ending.returned (Value.int .i64 u)) HN.out.symm, rfl⟩
    · by_cases hlt2 : k < b.length
      · have HN : Hid (cmpL a b = -1) := by unfold Hid; rw [HT.out]; exact cmpL_short (by omega) hlt2
        have hl : a.length < b.length := by omega
        go_wp2_with fail
        go_ret
        exact ⟨congrArg (fun u : Int => Ending.returned (Value.int .i64 u)) HN.out.symm, rfl⟩
      · have HN : Hid (cmpL a b = 0) := by unfold Hid; rw [HT.out]; exact cmpL_end (by omega) (by omega)
        have hl : b.length ≤ a.length := by omega
        go_wp2_with fail
        go_ret
        exact ⟨congrArg (fun u : Int => Ending.returned (Value.int .i64 u)) HN.out.symm, rfl⟩

/-- How two words compare. -/
def cmpW (x y : Nat) : Int := cmpL (facts x) (facts y)

set_option maxHeartbeats 1000000 in
theorem checked1_any (w : World) (x y : Nat) :
    Calls Tryz.prog 59 #[.int .u32 (x : Int), .int .u32 (y : Int)] w fun e w' => e = .returned (.int .i64 (cmpW x y)) ∧ Keeps (fun _ => False) w w' ∧ w.drawn ≤ w'.drawn := by
  go_enter Tryz.func59, Tryz.ntmps59
  go_wp2_with fail
  refine (facts_any _ _).mono ?_; rintro e w1 ⟨va, rfl, ho, hk, hd1⟩
  have OA := Lib.hid (Ints.of_own ho)
  have K1 := Lib.hid hk
  clear ho hk
  go_wp2_with fail
  refine (facts_any _ _).mono ?_; rintro e w2 ⟨vb, rfl, ho, hk, hd2⟩
  have OB := Lib.hid (Ints.of_own ho)
  have K2 := Lib.hid hk
  clear ho hk
  go_wp2_with fail
  refine (sliceCompare_any _ _ _ _ _ (OA.out.keeps0 K2.out) OB.out).mono ?_; rintro e w3 ⟨rfl, rfl⟩
  go_wp2_with fail
  go_ret
  exact ⟨rfl, K1.out.trans K2.out, Nat.le_trans hd1 hd2⟩

end Go.Proofs.YtjcgkmodmjckjaaGreat

/- slices.SortFunc over words, by the library's contract. -/
namespace Go.Proofs.YtjcgkmodmjckjaaGreat
open Go.RowKit Go.Sort Go.Proofs

/-! ### lists compare as a strict order -/
theorem cmpL_self (a : List Int) : cmpL a a = 0 := by
  induction a with
  | nil => rfl
  | cons x r ih => rw [cmpL, if_neg (by omega), if_neg (by omega), ih]

theorem cmpL_eq : ∀ {a b : List Int}, cmpL a b = 0 → a = b
  | [], [], _ => rfl
  | [], _ :: _, h => by rw [cmpL] at h; cases h
  | _ :: _, [], h => by rw [cmpL] at h; cases h
  | x :: r, y :: s, h => by
    rw [cmpL] at h
    split at h
    · cases h
    · split at h
      · cases h
      · rw [cmpL_eq h]; congr 1; omega

theorem cmpL_neg : ∀ (a b : List Int), cmpL b a = - cmpL a b
  | [], [] => rfl
  | [], _ :: _ => rfl
  | _ :: _, [] => rfl
  | x :: r, y :: s => by
    rw [cmpL, cmpL]
    by_cases h1 : x < y
    · have h2 : ¬ y < x := by omega
      simp [h1, h2]
    · by_cases h2 : y < x
      · simp [h1, h2]
      · simp only [h1, h2, if_false]; exact cmpL_neg r s

theorem cmpL_trans : ∀ {a b c : List Int}, cmpL a b < 0 → cmpL b c < 0 → cmpL a c < 0
  | [], [], _, h, _ => by rw [cmpL] at h; omega
  | [], _ :: _, [], _, h => by rw [cmpL] at h; omega
  | [], _ :: _, _ :: _, _, _ => by rw [cmpL]; omega
  | _ :: _, [], _, h, _ => by rw [cmpL] at h; omega
  | _ :: _, _ :: _, [], _, h => by rw [cmpL] at h; omega
  | x :: r, y :: s, z :: t, h1, h2 => by
    rw [cmpL] at h1 h2 ⊢
    split at h1
    · split at h2
      · rw [if_pos (by omega)]; omega
      · split at h2
        · omega
        · rw [if_pos (by omega)]; omega
    · split at h1
      · omega
      · split at h2
        · rw [if_pos (by omega)]; omega
        · split at h2
          · omega
          · rw [if_neg (by omega), if_neg (by omega)]; exact cmpL_trans h1 h2

theorem swoW : SWO (ltOf cmpW) where
  irrefl x := by unfold ltOf cmpW; rw [cmpL_self]; rfl
  trans x y z h1 h2 := by
    unfold ltOf cmpW at *
    rw [decide_eq_true_eq] at *
    exact cmpL_trans h1 h2
  ntrans x y z h1 h2 := by
    unfold ltOf cmpW at *
    rw [decide_eq_false_iff_not] at *
    intro h3
    have n1 := cmpL_neg (facts x) (facts y)
    have n2 := cmpL_neg (facts y) (facts z)
    by_cases e1 : cmpL (facts x) (facts y) = 0
    · rw [cmpL_eq e1] at h3; exact h2 h3
    · have : cmpL (facts y) (facts x) < 0 := by omega
      exact h2 (cmpL_trans this h3)

def encW (x : Nat) : Value := .int .u32 (x : Int)

/-! ### the two vocabularies -/
theorem holdsW_of_block {w : World} {g : Nat} {cur : Array Value} {e : TypeId} {ss : List Nat} (hb : w.heap[g]? = some (.cells cur e (0, 0))) (ht : cur.toList.take ss.length = ss.map encW) : Holds encW w g 0 ss.toArray := by
  intro j hj
  have hj' : j < ss.length := by simpa using hj
  refine ⟨?_, by simp [World.frozen?, hb]⟩
  have h1 : (cur.toList.take ss.length)[j]? = (ss.map encW)[j]? := by rw [ht]
  rw [List.getElem?_take_of_lt hj'] at h1
  simp only [World.cell?, hb, Nat.zero_add]
  simp only [Option.isSome_none, Bool.false_eq_true, if_false]
  rw [← Array.getElem?_toList, h1]
  simp [hj']

theorem take_putCellsW (cur : Array Value) (ts : List Nat) (h : ts.length ≤ cur.size) : (putCells encW 0 ts.toArray cur).toList.take ts.length = ts.map encW := by
  apply List.ext_getElem?
  intro j
  by_cases hj : j < ts.length
  · rw [List.getElem?_take_of_lt hj, Array.getElem?_toList]
    simp [putCells, hj, show j < cur.size by omega]
  · rw [List.getElem?_take_eq_none (by omega), List.getElem?_eq_none (by simp; omega)]

theorem heap_sortedW {w : World} {g n : Nat} {os : Array Obj} {cur : Array Value} {e : TypeId} {fr : Nat × Nat} (d : Array Nat) (hb : w.heap[g]? = some (.cells cur e fr)) :
    (sortWorld encW w g 0 n d os).heap[g]? = some (.cells (putCells encW 0 d cur) e fr) := by
  have hg : g < w.heap.size := (Array.getElem?_eq_some_iff.1 hb).1
  unfold sortWorld
  rw [heap_grow_old _ _ (by simpa using hg)]
  simp [putRow, mapBlock, Sort.ahead, Array.getElem?_modify, hb, onCells]

theorem keeps_sortedW {w : World} {g n : Nat} {os : Array Obj} (d : Array Nat) : Keeps (fun b => b = g) w (sortWorld encW w g 0 n d os) := by
  unfold sortWorld
  refine ⟨rfl, rfl, rfl, by simp, fun k hk hne => ?_⟩
  rw [heap_grow_old _ _ (by simpa using hk)]
  have : g ≠ k := fun e => hne e.symm
  simp [putRow, mapBlock, Sort.ahead, Array.getElem?_modify, this]

theorem cmpLaysW (blk off size : Nat) (w : World) : CmpLays1 Tryz.prog 59 #[] encW cmpW blk off size w := by
  intro m os dk hs x y
  refine (checked1_any _ x y).mono ?_
  rintro e w' ⟨he, hk, hd⟩
  refine ⟨he, ?_⟩
  obtain ⟨q, os', hw⟩ := grow_of_keeps hk hd
  exact ⟨q, os', hw⟩

theorem sort_any (w : World) (base : Nat) (T : TypeId) (v : Value) (ws : List Nat) (hown : w.ownsRow base T 1 v ws.length (ws.map encW)) (hlen : ws.length < 4611686018427387904) :
    Calls Tryz.prog 58 #[v, .func (.func 59) #[] #[]] w fun e w' => e = .returned (.tuple #[]) ∧ ∃ ws' : List Nat, ws'.Perm ws ∧ ws'.Pairwise (fun a b => ¬ cmpW b a < 0) ∧ w'.ownsRow base T 1 v ws'.length (ws'.map encW) ∧ Keeps (fun b => v.ownBlock = some b) w w' := by
  have eg : ∀ args w, (callFunc 59 args).run Tryz.prog w = .ok (.enter 59 args) w := enters_of Tryz.func59 (by kernel_rfl) rfl
  rcases hown.2 with ⟨rfl, h0⟩ | ⟨g, cap, cur, rfl, hb, hg, hn, hm, hs, ht⟩
  · have hz : ws = [] := List.length_eq_zero_iff.1 h0
    subst hz
    refine (Tryz.slices_SortFunc_none (α := Nat) none 0 _ w).mono ?_
    rintro e w' ⟨rfl, rfl⟩
    exact ⟨rfl, [], List.Perm.refl _, List.Pairwise.nil, World.ownsRow_nil _ _ _ _, Keeps.refl _ _⟩
  · have ht' : cur.toList.take ws.length = ws.map encW := by simpa using ht
    have hH := holdsW_of_block hg ht'
    have hl := lt_of_heap hg
    have hc := Tryz.slices_SortFunc encW (fun _ => rfl) cmpW swoW 59 #[] g 0 cap ws.toArray w eg (cmpLaysW g 0 _ w) hH hl (by simpa using hlen)
    simp only [List.size_toArray] at hc
    refine hc.mono ?_
    rintro e w' ⟨rfl, d', n, os, hp, hsort, rfl⟩
    obtain ⟨hsz, _, hperm⟩ := hp
    simp only [List.size_toArray] at hsz
    have hd : (d'.extract 0 ws.length).toList = d'.toList := by rw [← hsz]; simp
    have hd2 : (ws.toArray.extract 0 ws.length).toList = ws := by simp
    rw [hd, hd2] at hperm
    refine ⟨rfl, d'.toList, hperm, ?_, ?_, (keeps_sortedW _).mono (fun i _ h => by subst h; rfl)⟩
    · rw [List.pairwise_iff_getElem]
      intro i j hi hj hij
      have hj' : j < d'.size := by simpa using hj
      have := hsort i j (by omega) hij (by omega)
      unfold ltOf at this
      rw [decide_eq_false_iff_not, getElem!_pos d' i (by omega), getElem!_pos d' j hj'] at this
      simpa using this
    · have hll : d'.toList.length = ws.length := by simpa using hsz
      refine ⟨by simp, .inr ⟨g, cap, _, by rw [hll], hb, heap_sortedW d' hg, by rw [hll]; exact hn, hm, by simp [putCells, hs], ?_⟩⟩
      have := take_putCellsW cur d'.toList (by omega)
      simpa using this

end Go.Proofs.YtjcgkmodmjckjaaGreat

namespace Go.Proofs.YtjcgkmodmjckjaaGreat
open Go.RowKit Go.Shelf
attribute [local go_sem] Oper.semAt_some

theorem Tryz.info_u32 : (Tryz.prog.info? 60).map (fun i => (i.zero, i.size, i.bytes)) = some (some (.int .u32 0), 1, 4) := by kernel_rfl

def seenL (seen : List Nat) : List (Int × Value) := seen.map fun x : Nat => ((x : Int), Value.agg #[])

theorem seenL_nodup {l : List Nat} (h : l.Nodup) : ((seenL l).map Prod.fst).Nodup := by
  unfold seenL
  rw [List.map_map]
  have e : (Prod.fst ∘ fun x : Nat => ((x : Int), Value.agg #[])) = fun x : Nat => (x : Int) := rfl
  rw [e]
  exact List.Pairwise.map _ (fun a b hab => by omega) h
theorem seenL_mem {l : List Nat} {x : Nat} (h : x ∈ l) : ((x : Int), Value.agg #[]) ∈ seenL l := List.mem_map.2 ⟨x, h, rfl⟩
theorem seenL_miss {l : List Nat} {x : Nat} (h : x ∉ l) : ∀ p ∈ seenL l, p.1 ≠ (x : Int) := by
  intro p hp e
  obtain ⟨y, hy, rfl⟩ := List.mem_map.1 hp
  have : y = x := by simp only at e; omega
  exact h (this ▸ hy)

theorem wsteps_le (ops : List Wop) (s : Nat) : (wsteps ops s).length ≤ ops.length := by
  have h := congrArg List.length (wsteps_nexts ops s)
  rw [List.length_map] at h
  rw [h]
  unfold nexts
  rw [List.length_map]
  exact List.length_filter_le _ _

/-- What All knows between two steps. -/
structure AllS (w0 : World) (b1 b2 b3 : Nat) (stk seen out : List Nat) (vs vo : Value) (W : World) : Prop where
  keep : Keeps (fun _ => False) w0 W
  x1 : Boxed W b1 51 vs
  x3 : Boxed W b3 143 (.map (some b2))
  stack : W.ownsRow w0.heap.size 60 1 vs stk.length (stk.map encW)
  map : IMap W b2 .u32 (seenL seen)
  out : W.ownsRow w0.heap.size 60 1 vo out.length (out.map encW)
  apart : ∀ k, vs.ownBlock = some k → vo.ownBlock ≠ some k
  some_ : vs ≠ .slice none 0 0
  l1 : w0.heap.size ≤ b1
  l2 : w0.heap.size ≤ b2
  l3 : w0.heap.size ≤ b3

theorem AllS.by {w0 : World} {b1 b2 b3 : Nat} {stk seen out : List Nat} {vs vo : Value} {W W' : World} {S : Nat → Prop} (h : AllS w0 b1 b2 b3 stk seen out vs vo W) (hk : Keeps S W W')
    (s1 : ¬ S b1) (s2 : ¬ S b2) (s3 : ¬ S b3) (ss : ∀ k, vs.ownBlock = some k → ¬ S k) (so : ∀ k, vo.ownBlock = some k → ¬ S k) (hS : ∀ k, S k → w0.heap.size ≤ k) : AllS w0 b1 b2 b3 stk seen out vs vo W' :=
  ⟨h.keep.trans' hk (fun i hi => .inr (hS i hi)), hk.heap h.x1 s1, hk.heap h.x3 s3, hk.ownsRow h.stack ss, h.map.keeps hk s2, hk.ownsRow h.out so, h.apart, h.some_, h.l1, h.l2, h.l3⟩
theorem AllS.keeps0 {w0 : World} {b1 b2 b3 : Nat} {stk seen out : List Nat} {vs vo : Value} {W W' : World} (h : AllS w0 b1 b2 b3 stk seen out vs vo W) (hk : Keeps (fun _ => False) W W') : AllS w0 b1 b2 b3 stk seen out vs vo W' :=
  h.by hk (fun h => h) (fun h => h) (fun h => h) (fun _ _ h => h) (fun _ _ h => h) (fun _ h => h.elim)

section
variable {w0 : World} {b1 b2 b3 : Nat} {stk seen out : List Nat} {vs vo : Value} {W : World}
theorem AllS.row1 (h : AllS w0 b1 b2 b3 stk seen out vs vo W) : vs.ownBlock ≠ some b1 := fun e => h.x1.not_row (by decide) h.stack e.symm
theorem AllS.row3 (h : AllS w0 b1 b2 b3 stk seen out vs vo W) : vs.ownBlock ≠ some b3 := fun e => h.x3.not_row (by decide) h.stack e.symm
theorem AllS.orow1 (h : AllS w0 b1 b2 b3 stk seen out vs vo W) : vo.ownBlock ≠ some b1 := fun e => h.x1.not_row (by decide) h.out e.symm
theorem AllS.orow3 (h : AllS w0 b1 b2 b3 stk seen out vs vo W) : vo.ownBlock ≠ some b3 := fun e => h.x3.not_row (by decide) h.out e.symm
theorem not_map {base : Nat} {e : TypeId} {size n : Nat} {v : Value} {xs : List Value} {kd : IntKind} {l : List (Int × Value)} {b : Nat} (hm : IMap W b kd l) (hr : W.ownsRow base e size v n xs) : v.ownBlock ≠ some b := by
  intro e'
  rcases hr.2 with ⟨rfl, _⟩ | ⟨g, cap, cur, rfl, _, hgg, _⟩
  · simp [Value.ownBlock] at e'
  · simp [Value.ownBlock] at e'; subst e'
    obtain ⟨es, c, hb, _⟩ := hm
    rw [hgg] at hb; cases hb
theorem box_not_map {t : TypeId} {v : Value} {kd : IntKind} {l : List (Int × Value)} {b c : Nat} (hm : IMap W b kd l) (hx : Boxed W c t v) : b ≠ c := by
  rintro rfl
  obtain ⟨es, c, hb, _⟩ := hm
  rw [show W.heap[b]? = _ from hx] at hb; cases hb
theorem AllS.box13 (h : AllS w0 b1 b2 b3 stk seen out vs vo W) : b1 ≠ b3 := by
  rintro rfl
  have := (show W.heap[b1]? = _ from h.x1).symm.trans h.x3
  simp at this

/-- The last of the stack is taken. -/
theorem AllS.pop {g n cap : Nat} {x : Nat} (h : AllS w0 b1 b2 b3 (stk ++ [x]) seen out (.slice (some ⟨g, 0, none⟩) (n + 1) cap) vo W) (hn : stk.length = n) :
    AllS w0 b1 b2 b3 stk seen out (.slice (some ⟨g, 0, none⟩) n cap) vo (W.setCell ⟨b1, 0, none⟩ (.slice (some ⟨g, 0, none⟩) n cap)) := by
  have hk : Keeps (fun b => b = b1) W (W.setCell ⟨b1, 0, none⟩ (.slice (some ⟨g, 0, none⟩) n cap)) := (Keeps.refl (fun b => b = b1) W).setCell (p := ⟨b1, 0, none⟩) (.inl rfl) _
  have hs := h.stack
  rw [List.length_append, List.map_append, List.length_singleton, hn] at hs
  have hr := ownsRow_init hs
  refine ⟨h.keep.trans' hk (fun i hi => .inr (by subst hi; exact h.l1)), h.x1.set _, hk.heap h.x3 (fun e => h.box13 e.symm), ?_, h.map.keeps hk (box_not_map h.map h.x1), hk.ownsRow h.out (fun k hk' e => by subst e; exact h.orow1 hk'), h.apart, by simp, h.l1, h.l2, h.l3⟩
  rw [hn]
  refine hk.ownsRow hr (fun k hk' e => by subst e; exact h.row1 (by simpa [Value.ownBlock] using hk'))

theorem lt_of_heap_map {b : Nat} {kd : IntKind} {l : List (Int × Value)} (h : IMap W b kd l) : b < W.heap.size := h.lt
/-- Blocks that are no cells and lie beyond may turn. -/
theorem AllS.steady {W' : World} {row : Option Nat} {B : Nat} (h : AllS w0 b1 b2 b3 stk seen out vs vo W) (hg : W.grownBy W' row) (hr : ∀ r, row = some r → B ≤ r ∧ ∃ o : Obj, W.heap[r]? = some o ∧ o.isCells = false) (hB : w0.heap.size ≤ B) (hb2 : b2 < B) : AllS w0 b1 b2 b3 stk seen out vs vo W' :=
  ⟨steady_keeps0 hg (fun r e => (hr r e).1) hB h.keep, steady_heap hg (fun r e => (hr r e).2) h.x1, steady_heap hg (fun r e => (hr r e).2) h.x3, steady_row hg (fun r e => (hr r e).2) h.stack, steady_map hg (fun r e => (hr r e).1) hb2 h.map, steady_row hg (fun r e => (hr r e).2) h.out, h.apart, h.some_, h.l1, h.l2, h.l3⟩

/-- One more is put out. -/
theorem AllS.put {W3 : World} {o : Obj} {gg m cap x : Nat} (h : AllS w0 b1 b2 b3 stk seen out vs vo W) (hm : out.length + 1 = m) (hown : W3.ownsRow w0.heap.size 60 1 (.slice (some ⟨gg, 0, none⟩) m cap) m (out.map encW ++ [encW x]))
    (hg : (W.alloc o).grownBy W3 vo.ownBlock) (hat : vo.ownBlock = some gg ∨ gg = W.heap.size + 1) : AllS w0 b1 b2 b3 stk seen (out ++ [x]) vs (.slice (some ⟨gg, 0, none⟩) m cap) W3 := by
  have h' := h.keeps0 ((Keeps.refl (fun _ => False) W).alloc o)
  have hk : Keeps (fun b => vo.ownBlock = some b) (W.alloc o) W3 := (Keeps.refl _ _).grown hg (fun k hk => .inl hk)
  refine ⟨h'.keep.trans' hk (fun i e => .inr (World.ownsRow.lt h.out i e).1), hk.heap h'.x1 h.orow1, hk.heap h'.x3 h.orow3, hk.ownsRow h'.stack (fun k hk' e => h.apart k hk' e), h'.map.keeps hk (not_map h.map h.out), ?_, ?_, h.some_, h.l1, h.l2, h.l3⟩
  · rw [List.length_append, List.length_singleton, hm, List.map_append]; exact hown
  · intro k hk' e
    simp [Value.ownBlock] at e
    subst e
    rcases hat with e | e
    · exact h.apart gg hk' e
    · have := (World.ownsRow.lt h.stack gg hk').2; omega

/-- One more is put on the stack. -/
theorem AllS.push {W3 : World} {o : Obj} {gg m cap x : Nat} (h : AllS w0 b1 b2 b3 stk seen out vs vo W) (hm : stk.length + 1 = m) (hown : W3.ownsRow w0.heap.size 60 1 (.slice (some ⟨gg, 0, none⟩) m cap) m (stk.map encW ++ [encW x]))
    (hg : (W.alloc o).grownBy W3 vs.ownBlock) (hat : vs.ownBlock = some gg ∨ gg = W.heap.size + 1) : AllS w0 b1 b2 b3 (stk ++ [x]) seen out (.slice (some ⟨gg, 0, none⟩) m cap) vo (W3.setCell ⟨b1, 0, none⟩ (.slice (some ⟨gg, 0, none⟩) m cap)) := by
  have h' := h.keeps0 ((Keeps.refl (fun _ => False) W).alloc o)
  have hk1 : Keeps (fun b => vs.ownBlock = some b) (W.alloc o) W3 := (Keeps.refl _ _).grown hg (fun k hk => .inl hk)
  have hx1 : Boxed W3 b1 51 vs := hk1.heap h'.x1 h.row1
  have hk2 : Keeps (fun b => b = b1) W3 (W3.setCell ⟨b1, 0, none⟩ (.slice (some ⟨gg, 0, none⟩) m cap)) := (Keeps.refl (fun b => b = b1) W3).setCell (p := ⟨b1, 0, none⟩) (.inl rfl) _
  have hgb : gg ≠ b1 := by
    rcases hat with e | e
    · intro e'; exact h.row1 (by rw [e, e'])
    · have := h.x1.lt; omega
  have ho : W3.ownsRow w0.heap.size 60 1 vo out.length (out.map encW) := hk1.ownsRow h'.out (fun k hk' e => h.apart k e hk')
  refine ⟨(h'.keep.trans' hk1 (fun i e => .inr (World.ownsRow.lt h.stack i e).1)).trans' hk2 (fun i e => .inr (by subst e; exact h.l1)), hx1.set _, hk2.heap (hk1.heap h'.x3 h.row3) (fun e => h.box13 e.symm), ?_, (h'.map.keeps hk1 (not_map h.map h.stack)).keeps hk2 (box_not_map h.map h.x1), hk2.ownsRow ho (fun k hk' e => by subst e; exact h.orow1 hk'), ?_, by simp, h.l1, h.l2, h.l3⟩
  · rw [List.length_append, List.length_singleton, hm, List.map_append]
    exact hk2.ownsRow hown (fun k hk' e => by simp [Value.ownBlock] at hk'; omega)
  · intro k hk' e
    simp [Value.ownBlock] at hk'
    subst hk'
    rcases hat with e' | e'
    · exact h.apart gg e' e
    · have := (World.ownsRow.lt h.out gg e).2; omega

/-- One more is seen. -/
theorem AllS.see {W' : World} {x : Nat} (h : AllS w0 b1 b2 b3 stk seen out vs vo W) (hI : IMap W' b2 .u32 (seenL seen ++ [((x : Int), .agg #[])])) (hk : Keeps (fun k => k = b2) W W') : AllS w0 b1 b2 b3 stk (seen ++ [x]) out vs vo W' :=
  ⟨h.keep.trans' hk (fun i e => .inr (by subst e; exact h.l2)), hk.heap h.x1 (fun e => box_not_map h.map h.x1 e.symm), hk.heap h.x3 (fun e => box_not_map h.map h.x3 e.symm), hk.ownsRow h.stack (fun k hk' e => by subst e; exact not_map h.map h.stack hk'),
    by simpa [seenL] using hI, hk.ownsRow h.out (fun k hk' e => by subst e; exact not_map h.map h.out hk'), h.apart, h.some_, h.l1, h.l2, h.l3⟩
end

def sliceLen : Value → Nat
  | .slice _ n _ => n
  | _ => 0

structure AllLoop (ops : List Wop) (st : Nat) (w0 : World) (b1 b2 b3 : Nat) (stk seen out : List Nat) (vs vo : Value) (ds : List Deferred) (W : World) : Prop where
  s : AllS w0 b1 b2 b3 stk seen out vs vo W
  dfs : Dfs ops st stk seen out
  few : seen.length ≤ 2000
  small : ∀ x ∈ seen, x < 4294967296
  marks : Marks ds W w0.heap.size

/-- Within the loop over the steps of x, when the words l have come. -/
def AllI (w0 : World) (b1 b2 b3 : Nat) (stk seen out : List Nat) (x : Nat) (vo : Value) (ds : List Deferred) (Bs : Nat) (l : List Nat) (W : World) : Prop :=
  ∃ vs, AllS w0 b1 b2 b3 (stk ++ freshs seen l) (seen ++ freshs seen l) (out ++ [x]) vs vo W ∧ Marks ds W w0.heap.size ∧ W.heap[Bs]? = some (.cells #[.int .u32 (x : Int)] 60 (0, 0)) ∧ ∀ k, vs.ownBlock = some k → k ≠ Bs

/-- What All hands back. -/
def AllPost (ops : List Wop) (st : Nat) (w : World) (e : Ending) (w' : World) : Prop := Keeps (fun _ => False) w w' ∧
  ((reached ops st = none ∧ e = .returned (.tuple #[.slice none 0 0, .bool false])) ∨
   (∃ l, reached ops st = some l ∧ ∃ (v' : Value) (out : List Nat), e = .returned (.tuple #[v', .bool true]) ∧ out.Perm l ∧ w'.ownsRow w.heap.size 60 1 v' out.length (out.map encW)))

set_option maxRecDepth 100000 in
set_option maxHeartbeats 4000000 in
theorem all_in (w : World) (b st g0 base : Nat) (v : Value) (ops : List Wop) (hw : WordsAt w base b st g0 v ops) (hops : WopsOk ops) (hmany : ops.length ≤ 40) (hst : st < 4294967296) :
    CallsIn Fence.wide 9 Tryz.prog 57 #[.iface 50 (.pointer (some ⟨b, 0, none⟩))] w (AllPost ops st w) := by
  have HW := Lib.hid hw
  have hmm := @run_makeMap Tryz.prog
  have mS := method_Start ⟨b, 0, none⟩
  have mT := method_Steps ⟨b, 0, none⟩
  clear hw
  refine callsIn_of_wp_marks Tryz.func57 rfl trivial ?_ rfl
  simp only [Tryz.ntmps57, List.size_toArray, List.length_cons, List.length_nil, Nat.reduceAdd, Nat.reduceSub, Array.replicate_succ, Array.replicate_zero, List.push_toArray, List.append_toArray, List.nil_append, List.cons_append]
  gi_wp2
  refine ⟨trivial, ?_⟩
  refine (callsIn_wide.2 (start_any _ _ _ _ _ _ _ HW.out)).mono ?_; rintro e w1 ⟨rfl, rfl⟩
  gi_wp2
  have kA := (((Keeps.refl (fun _ => False) w).alloc (.cells #[.int .u32 (st : Int)] 60)).alloc (.cells #[.slice (some ⟨w.heap.size, 0, none⟩) 1 1] 51))
  have kB := kA.alloc (.map #[] 0)
  refine ⟨trivial, ?_⟩
  refine (callsIn_wide.2 (start_any _ _ _ _ _ _ _ (HW.out.keeps0 kB))).mono ?_; rintro e w1 ⟨rfl, rfl⟩
  have hm0 : IMap (((w.alloc (.cells #[.int .u32 (st : Int)] 60)).alloc (.cells #[.slice (some ⟨w.heap.size, 0, none⟩) 1 1] 51)).alloc (.map #[] 0)) (w.heap.size + 1 + 1) .u32 [] := by
    have := IMap.made ((w.alloc (.cells #[.int .u32 (st : Int)] 60)).alloc (.cells #[.slice (some ⟨w.heap.size, 0, none⟩) 1 1] 51)) .u32
    rwa [World.size_alloc, World.size_alloc] at this
  obtain ⟨W4, hrun, hI4, hk4⟩ := hm0.run_update_new (P := Tryz.prog) Tryz.underlying143 Tryz.underlying60 (x := (st : Int)) (by simp) (.agg #[])
  have hx0 := heap_alloc_new w (.cells #[.int .u32 (st : Int)] 60)
  have hx1 := heap_alloc_new (w.alloc (.cells #[.int .u32 (st : Int)] 60)) (.cells #[.slice (some ⟨w.heap.size, 0, none⟩) 1 1] 51)
  rw [World.size_alloc] at hx1
  have hS : AllS w (w.heap.size + 1) (w.heap.size + 1 + 1) W4.heap.size [st] [st] [] (.slice (some ⟨w.heap.size, 0, none⟩) 1 1) (.slice none 0 0) (W4.alloc (.cells #[.map (some (w.heap.size + 1 + 1))] 143)) := by
    have n0 : ¬ w.heap.size = w.heap.size + 1 + 1 := by omega
    have n1 : ¬ w.heap.size + 1 = w.heap.size + 1 + 1 := by omega
    have g0 := hk4.heap (((Below.heap_alloc _ _ _ (by simp; omega)).trans ((Below.heap_alloc _ _ _ (by simp)).trans hx0))) n0
    have g1 := hk4.heap ((Below.heap_alloc _ _ _ (by simp)).trans hx1) n1
    have a0 := ((Keeps.refl (fun _ => False) W4).alloc (.cells #[.map (some (w.heap.size + 1 + 1))] 143))
    refine ⟨(kB.trans' hk4 (fun i e => .inr (by omega))).alloc _, a0.heap g1 (fun h => h), Boxed.new W4 _ _, ?_, ?_, World.ownsRow_nil _ _ _ _, fun k _ => by simp [Value.ownBlock], by simp, by omega, by omega, ?_⟩
    · exact ⟨by simp, .inr ⟨w.heap.size, 1, _, rfl, Nat.le_refl _, a0.heap g0 (fun h => h), by simp, by unfold maxLen; omega, by simp, by simp [encW]⟩⟩
    · have := hI4.alloc (.cells #[.map (some (w.heap.size + 1 + 1))] 143)
      simpa [seenL] using this
    · have := hk4.size; simp at this; omega
  have HS := Lib.hid hS
  have HK4 := Lib.hid hk4
  clear hS hI4 hx0 hx1 hm0 kA kB hk4
  gi_wp2
  generalize W4.heap.size = b3 at HS ⊢
  generalize (W4.alloc (.cells #[.map (some (w.heap.size + 1 + 1))] 143)) = W5 at HS ⊢
  generalize w.heap.size + 1 + 1 = b2 at HS ⊢
  generalize w.heap.size + 1 = b1 at HS ⊢
  clear hrun HK4
  obtain ⟨i0, hi0, hz0, hz1, hz2⟩ := info_parts Tryz.info_u32
  refine wpIn_loop (fun a' wr => ∃ (ds : List Deferred) (u6 u7 u8 u9 u10 u11 u12 u13 u14 u15 u16 u17 u18 u19 u20 u21 u22 u23 u24 u25 u26 u27 u28 u29 u30 u31 u32 u33 u34 u35 u36 u37 u38 u39 u40 u41 u42 u43 u44 u45 u46 u47 u48 u49 u50 u51 u52 u53 u54 u55 u56 u57 u58 u59 u60 u61 u62 : Value) (stk seen out : List Nat) (vs : Value), AllLoop ops st w b1 b2 b3 stk seen out vs u6 ds wr ∧
      a' = { tmps := #[.iface 50 (.pointer (some ⟨b, 0, none⟩)), undef, .slice none 0 0, .bool false, .pointer (some ⟨b1, 0, none⟩), .pointer (some ⟨b3, 0, none⟩), u6, u7, u8, u9, u10, u11, u12, u13, u14, u15, u16, u17, u18, u19, u20, u21, u22, u23, u24, u25, u26, u27, u28, u29, u30, u31, u32, u33, u34, u35, u36, u37, u38, u39, u40, u41, u42, u43, u44, u45, u46, u47, u48, u49, u50, u51, u52, u53, u54, u55, u56, u57, u58, u59, u60, u61, u62], defers := ds })
    (fun a' _ => 2001 - sliceLen (a'.tmps.getD 6 undef)) ?start ?round
  case start => exact ⟨[], _, _, _, _, _, _, _, _, _, _, _, _, _, _, _, _, _, _, _, _, _, _, _, _, _, _, _, _, _, _, _, _, _, _, _, _, _, _, _, _, _, _, _, _, _, _, _, _, _, _, _, _, _, _, _, _, _, [st], [st], [], _, ⟨HS.out, Dfs.start ops st, by simp, by simpa using hst, Marks.nil _ _⟩, rfl⟩
  case round =>
    rintro a wr ⟨ds, u6, u7, u8, u9, u10, u11, u12, u13, u14, u15, u16, u17, u18, u19, u20, u21, u22, u23, u24, u25, u26, u27, u28, u29, u30, u31, u32, u33, u34, u35, u36, u37, u38, u39, u40, u41, u42, u43, u44, u45, u46, u47, u48, u49, u50, u51, u52, u53, u54, u55, u56, u57, u58, u59, u60, u61, u62, stk, seen, out, vs, hL, rfl⟩
    have HL := Lib.hid hL
    clear hL
    have x1c := HL.out.s.x1.cell
    have x1f := HL.out.s.x1.frozen
    have x3c := HL.out.s.x3.cell
    by_cases hstk : stk = []
    · subst hstk
      obtain ⟨g1, c1, hv⟩ := ownsRow_form1 HL.out.s.stack
      subst hv
      gi_wp2
      refine leaves_marks HL.out.marks (fun W' hk => ?_)
      obtain ⟨l, hl1, hl2⟩ := HL.out.dfs.found HL.out.few
      refine ⟨.tuple #[u6, .bool true], by simp [results, Tryz.results57, go_sem], HL.out.s.keep.trans' hk (fun i hi => .inr hi.1), .inr ⟨l, hl1, u6, out, rfl, hl2, hk.ownsRow HL.out.s.out (fun k hk' hs => row_not_deferred HL.out.s.out k hk' hs.2)⟩⟩
    · obtain ⟨stk', x, rfl⟩ : ∃ stk' x, stk = stk' ++ [x] := ⟨stk.dropLast, stk.getLast hstk, (List.dropLast_concat_getLast hstk).symm⟩
      have hsv := HL.out.s.stack
      rw [List.length_append, List.map_append, List.length_singleton] at hsv
      obtain ⟨g, cap, hv, hg1, hg2⟩ := hsv.form (by omega)
      subst hv
      have hcx : wr.cell? ⟨g, stk'.length, none⟩ = some (encW x) := by
        have := World.ownsRow.cells hsv (g := g) rfl stk'.length (encW x) (by rw [List.getElem?_append_right (by simp)]; simp)
        have hadd : (⟨g, 0, none⟩ : Addr).add stk'.length = ⟨g, stk'.length, none⟩ := by unfold Addr.add; split <;> simp_all
        rwa [hadd] at this
      have hin := ownsRow_init hsv
      have hcap : stk'.length + 1 ≤ cap := by
        rcases hsv.2 with ⟨_, h0⟩ | ⟨_, _, _, hv', _, _, hn', _⟩
        · omega
        · simp only [Value.slice.injEq] at hv'; obtain ⟨_, _, rfl⟩ := hv'; exact hn'
      have hcapi : (stk'.length : Int) ≤ (cap : Int) := by omega
      have hbig : stk'.length ≤ 2000 := by
        have h1 := HL.out.dfs.perm.length_eq
        have h2 := HL.out.few
        simp at h1; omega
      have hout : out.length ≤ 2000 := by
        have h1 := HL.out.dfs.perm.length_eq
        have h2 := HL.out.few
        simp at h1; omega
      unfold encW at hcx
      have HSV := Lib.hid hsv; have HIN := Lib.hid hin
      clear hsv hin hstk
      have HP := Lib.hid (HL.out.s.pop (n := stk'.length) rfl)
      have HPO := Lib.hid (HP.out.out.alloc (.cells #[.int .u32 (x : Int)] 60))
      have hsz : (wr.setCell ⟨b1, 0, none⟩ (.slice (some ⟨g, 0, none⟩) stk'.length cap)).heap.size = wr.heap.size := by simp
      have hlow : w.heap.size ≤ wr.heap.size := HL.out.s.keep.size
      gi_wp2_with (gi_at_builtin; refine wpListIn_append_lies _ rfl (.tmp 33) (.tmp 35) 51 rfl w.heap.size 60 i0 _ 1 4 Tryz.underlying51 hi0 hz0 hz1 hz2 rfl (by omega) u6 out.length (out.map encW) rfl HPO.out ⟨wr.heap.size, 0, none⟩ 1 1 [.int .u32 (x : Int)] rfl rfl ?hnews ?hone (by omega) (by unfold maxLen; omega) (by omega) (by simp; omega) (wr.heap.size + 1) (by simp) ?_)
      case hnews =>
        have := World.news_of_block (cs := #[.int .u32 (x : Int)]) (t := 60) (fr := (0, 0)) (heap_alloc_new (wr.setCell ⟨b1, 0, none⟩ (.slice (some ⟨g, 0, none⟩) stk'.length cap)) (.cells #[.int .u32 (x : Int)] 60))
        rwa [hsz] at this
      case hone => simp [Value.oneCell']
      intro g2 cap2 w3 hown hgrow hat hlt3
      have HA := Lib.hid (HP.out.put (x := x) rfl hown hgrow (by rw [hsz]; exact hat))
      have HD := Lib.hid (show KeepsD wr w3 from by
        have k1 : Keeps (fun b => b = b1) wr (wr.setCell ⟨b1, 0, none⟩ (.slice (some ⟨g, 0, none⟩) stk'.length cap)) := (Keeps.refl (fun b => b = b1) wr).setCell (p := ⟨b1, 0, none⟩) (.inl rfl) _
        have k2 : Keeps (fun b => u6.ownBlock = some b) ((wr.setCell ⟨b1, 0, none⟩ (.slice (some ⟨g, 0, none⟩) stk'.length cap)).alloc (.cells #[.int .u32 (x : Int)] 60)) w3 := (Keeps.refl _ _).grown hgrow (fun k hk => .inl hk)
        exact (KeepsD.of k1 (fun b e => by subst e; exact cells_not_deferred HL.out.s.x1)).trans ((KeepsD.of0 ((Keeps.refl _ _).alloc _)).trans (KeepsD.of k2 (fun b e => row_not_deferred HPO.out b e))))
      have HDF := Lib.hid HL.out.dfs.step
      have hx32 : x < 4294967296 := HL.out.small x (HL.out.dfs.perm.mem_iff.2 (by simp))
      have HM := Lib.hid (HL.out.marks.keeps HD.out)
      obtain ⟨ao6, c6, h6⟩ := ownsRow_form1 HL.out.s.out
      have H6 := Lib.hid h6
      clear h6
      have HND := Lib.hid HL.out.dfs.nodup
      have HWL := Lib.hid (show (wsteps ops x).length ≤ 40 from Nat.le_trans (wsteps_le ops x) hmany)
      have HFEW := Lib.hid HL.out.few; have HSM := Lib.hid HL.out.small
      clear hown hgrow hat hlt3 hcx x1c x1f x3c hg1 hg2 hsz HPO HP HIN HSV HD HL
      gi_wp2
      refine ⟨trivial, ?_⟩
      refine (callsIn_wide.2 (steps_any w3 b x)).mono ?_; rintro e w4 ⟨rfl, rfl⟩
      gi_wp2
      obtain ⟨W6, hW6⟩ : ∃ W6, ((w3.alloc (.cells #[.pointer (some ⟨b, 0, none⟩)] 50)).alloc (.cells #[.int .u32 (x : Int)] 60)) = W6 := ⟨_, rfl⟩
      have hz6 : W6.heap.size = w3.heap.size + 1 + 1 := by rw [← hW6]; simp
      have k6 : Keeps (fun _ => False) w3 W6 := by rw [← hW6]; exact ((Keeps.refl _ _).alloc _).alloc _
      have hBw : W6.cell? ⟨w3.heap.size, 0, none⟩ = some (.pointer (some ⟨b, 0, none⟩)) := by
        rw [← hW6]; exact ((Boxed.new w3 _ _).alloc _).cell
      have hBs : W6.heap[w3.heap.size + 1]? = some (.cells #[.int .u32 (x : Int)] 60 (0, 0)) := by
        rw [← hW6]
        have := heap_alloc_new (w3.alloc (.cells #[.pointer (some ⟨b, 0, none⟩)] 50)) (.cells #[.int .u32 (x : Int)] 60)
        rwa [World.size_alloc] at this
      have hBsc : W6.cell? ⟨w3.heap.size + 1, 0, none⟩ = some (.int .u32 (x : Int)) := by rw [cell_of_blk hBs]; rfl
      rw [hW6]
      have hlow3 : w.heap.size ≤ w3.heap.size := HA.out.keep.size
      have HA6 := Lib.hid (HA.out.keeps0 k6)
      have HM6 := Lib.hid (HM.out.keeps (KeepsD.of0 k6))
      have HWW := Lib.hid (show ∃ w0 : World, WordsAt w0 base b st g0 v ops ∧ w0.heap.size ≤ w.heap.size ∧ Below w.heap.size w0 W6 from ⟨w, HW.out, Nat.le_refl _, HA6.out.keep.below⟩)
      have hgrow0 : ∀ k, (Value.slice (some ⟨g, 0, none⟩) stk'.length cap).ownBlock = some k → k ≠ w3.heap.size + 1 := fun k hk => by have := (World.ownsRow.lt HA.out.stack k hk).2; omega
      have HG0 := Lib.hid hgrow0
      have HBS := Lib.hid hBs
      clear hgrow0 hBs
      refine wpIn_rangeFunc_ownH (α := StpOf ops x) rfl (by omega) (gf := 190) (lb := #[.pointer (some ⟨w3.heap.size, 0, none⟩), .pointer (some ⟨w3.heap.size + 1, 0, none⟩)]) rfl trivial (enters_of Tryz.func190 (by kernel_rfl) rfl)
        (steps_stops Fence.wide 8 trivial rfl (by omega) w3.heap.size (w3.heap.size + 1) w.heap.size base b st g0 x v ops hops (by omega) hx32 W6 (by omega) hBw hBsc (by omega) (by omega) HWW.out)
        KpS.trans (kpS_b (by omega) (by omega)) (Below.refl _ _) (fun _ => rfl)
        (fun pre W => AllI w b1 b2 b3 stk' seen out x (.slice (some ⟨g2, 0, none⟩) (out.length + 1) cap2) ds (w3.heap.size + 1) (pre.map fun y => y.1.to) W)
        (fun _ _ _ => False) ?hI (fun _ _ _ _ _ hs _ _ => hs) ?h0
        (fun (y : StpOf ops x) (a' : Act) (W : World) => ∃ Bx : Nat, W.heap[Bx]? = some (Obj.cells #[.int .i64 (y.1.op : Int), .int .i64 y.1.cost, .int .u32 (y.1.to : Int)] 153 (0, 0)) ∧ a' = { tmps := #[.iface 50 (.pointer (some ⟨b, 0, none⟩)), undef, .slice none 0 0, .bool false, .pointer (some ⟨b1, 0, none⟩), .pointer (some ⟨b3, 0, none⟩), .slice (some ⟨g2, 0, none⟩) (out.length + 1) cap2, .int .u32 (x : Int), .pointer (some ⟨Bx, 0, none⟩), u9, u10, u11, u12, u13, u14, u15, u16, u17, u18, (.slice (some ⟨g, 0, none⟩) (stk'.length + 1) cap), .int .i64 ((stk'.length : Int) + 1), .bool true, (.slice (some ⟨g, 0, none⟩) (stk'.length + 1) cap), (.slice (some ⟨g, 0, none⟩) (stk'.length + 1) cap), .int .i64 ((stk'.length : Int) + 1), .int .i64 (stk'.length : Int), .pointer (some ⟨g, stk'.length, none⟩), .int .u32 (x : Int), (.slice (some ⟨g, 0, none⟩) (stk'.length + 1) cap), (.slice (some ⟨g, 0, none⟩) (stk'.length + 1) cap), .int .i64 ((stk'.length : Int) + 1), .int .i64 (stk'.length : Int), .slice (some ⟨g, 0, none⟩) stk'.length cap, u6, .int .u32 (x : Int), .slice (some ⟨wr.heap.size, 0, none⟩) 1 1, .slice (some ⟨g2, 0, none⟩) (out.length + 1) cap2, .iface 50 (.pointer (some ⟨b, 0, none⟩)), .int .u32 (x : Int), .func (.func 190) #[] #[.pointer (some ⟨w3.heap.size, 0, none⟩), .pointer (some ⟨w3.heap.size + 1, 0, none⟩)], y.1.val, u41, u42, u43, u44, u45, u46, u47, u48, u49, u50, u51, u52, u53, u54, u55, u56, u57, u58, u59, u60, u61, u62], defers := [] }) ?hAx ?assign ?body ?done ?stop
      case hI =>
        intro l W W' row hs hg hr
        obtain ⟨vs', h1, h2, h3, h4⟩ := hs
        exact ⟨vs', h1.steady hg hr (by omega) (by have := lt_of_heap_map HA6.out.map; omega), Marks.steady HM6.out h2 hg hr, steady_heap hg (fun r e => (hr r e).2) h3, h4⟩
      case h0 => exact ⟨_, by simpa [freshs] using HA6.out, HM6.out, HBS.out, HG0.out⟩
      case hAx =>
        intro y a' _ W W' row hs hg hr
        obtain ⟨Bx, h1, h2⟩ := hs
        exact ⟨Bx, steady_heap hg (fun r e => (hr r e).2) h1, h2⟩
      case assign =>
        intro l pre y W K hi hK
        simp only [Stp.val]
        gi_wp2
        obtain ⟨vs', h1, h2, h3, h4⟩ := hi
        refine hK _ _ ((KeepsOthers.alloc _ _).from _) ((KpS.refl _ _ W).alloc h1.keep.size (lt_of_heap h3) _) ⟨vs', h1.keeps0 ((Keeps.refl _ _).alloc _), h2.keeps (KeepsD.of0 ((Keeps.refl _ _).alloc _)), ((Keeps.refl (fun _ => False) W).alloc _).heap h3 (fun h => h), h4⟩ ⟨W.heap.size, heap_alloc_new W _, rfl⟩
      case body =>
        rintro l pre y a' W hl - ⟨vs', h1, h2, h3, h4⟩ ⟨Bx, hBx, rfl⟩ hlt
        have x1c := h1.x1.cell
        have x1f := h1.x1.frozen
        have x3c := h1.x3.cell
        have y2 : W.cell? ⟨Bx, 2, none⟩ = some (.int .u32 (y.1.to : Int)) := by rw [cell_of_blk hBx]; rfl
        have hBxl := lt_of_heap hBx
        have l1 := h1.x1.lt
        have l3 := h1.x3.lt
        have hnd := nodup_freshs (xs := pre.map fun y => y.1.to) HND.out
        have hsn := freshs_snoc (pre.map fun y => y.1.to) y.1.to seen
        by_cases hm : y.1.to ∈ seen ++ freshs seen (pre.map fun y => y.1.to)
        · have hlk := (h1.map.run_lookup_hit (P := Tryz.prog) Tryz.underlying143 Tryz.underlying60 (seenL_nodup hnd) (seenL_mem hm)).1
          rw [if_pos hm, List.append_nil] at hsn
          have H1 := Lib.hid h1; have H2 := Lib.hid h2; have H3 := Lib.hid h3; have H4 := Lib.hid h4; have HSN := Lib.hid hsn
          clear h1 h2 h3 h4 hsn hm hnd hBx
          gi_wp2
          refine ⟨(KeepsOthers.alloc _ _).from _, (KpS.refl _ _ W).alloc H1.out.keep.size (lt_of_heap H3.out) _, ⟨vs', ?_, H2.out.keeps (KeepsD.of0 ((Keeps.refl _ _).alloc _)), ((Keeps.refl (fun _ => False) W).alloc _).heap H3.out (fun h => h), H4.out⟩⟩
          have e : freshs seen ((pre ++ [y]).map fun y => y.1.to) = freshs seen (pre.map fun y => y.1.to) := by rw [List.map_append]; exact HSN.out
          rw [e]
          exact H1.out.keeps0 ((Keeps.refl _ _).alloc _)
        · have kal := (Keeps.refl (fun _ => False) W).alloc (.cells #[] 148)
          have hlk := ((h1.map).run_lookup_miss (P := Tryz.prog) Tryz.underlying143 Tryz.underlying60 (z := .agg #[]) (by simp [Tryz.zeroValue148]) (seenL_miss hm)).1
          obtain ⟨W1, hrunU, hI1, hK1⟩ := ((h1.map.alloc (.cells #[] 148))).run_update_new (P := Tryz.prog) Tryz.underlying143 Tryz.underlying60 (seenL_miss hm) (.agg #[])
          have hS1 := (h1.keeps0 kal).see (x := y.1.to) hI1 hK1
          have hb2 := box_not_map h1.map h1.x1
          have hbx2 : Bx ≠ b2 := by rintro rfl; obtain ⟨es, c, hb, _⟩ := h1.map; rw [hBx] at hb; cases hb
          have hbs2 : w3.heap.size + 1 ≠ b2 := by rintro rfl; obtain ⟨es, c, hb, _⟩ := h1.map; rw [h3] at hb; cases hb
          have z1c := hS1.x1.cell
          have z1f := hS1.x1.frozen
          have z3c := hS1.x3.cell
          have y2' : W1.cell? ⟨Bx, 2, none⟩ = some (.int .u32 (y.1.to : Int)) := hK1.cell (kal.cell y2 (fun h => h)) hbx2
          have zs := hS1.x1.lt
          have zb := lt_of_heap (hK1.heap (kal.heap hBx (fun h => h)) hbx2)
          rw [if_neg hm] at hsn
          have hfl : (freshs seen (pre.map fun y => y.1.to)).length ≤ 40 := by
            have e1 := freshs_le (seen := seen) (xs := pre.map fun y => y.1.to)
            rw [List.length_map] at e1
            have := HWL.out; omega
          obtain ⟨sk, hsk⟩ : ∃ sk, stk' ++ freshs seen (pre.map fun y => y.1.to) = sk := ⟨_, rfl⟩
          have hlen : sk.length ≤ 2040 := by rw [← hsk, List.length_append]; omega
          rw [hsk] at hS1
          have HSK := Lib.hid hsk
          clear hsk
          have hlowW : w.heap.size ≤ W1.heap.size := hS1.keep.size
          have HROW := Lib.hid (hS1.stack.alloc (.cells #[.int .u32 (y.1.to : Int)] 60))
          have H1 := Lib.hid h1; have H2 := Lib.hid h2; have H3 := Lib.hid h3; have H4 := Lib.hid h4; have HSN := Lib.hid hsn; have HS1 := Lib.hid hS1; have HK1 := Lib.hid hK1; have HNB := Lib.hid hbs2; have HI1 := Lib.hid hI1
          clear h1 h2 h3 h4 hsn hm hnd hBx hS1 hK1 hI1 kal hb2 hbx2 hbs2 hfl
          gi_wp2_with (gi_at_builtin; refine wpListIn_append_lies _ rfl (.tmp 54) (.tmp 57) 51 rfl w.heap.size 60 i0 _ 1 4 Tryz.underlying51 hi0 hz0 hz1 hz2 rfl (by omega) vs' sk.length (sk.map encW) rfl HROW.out ⟨W1.heap.size, 0, none⟩ 1 1 [.int .u32 (y.1.to : Int)] rfl rfl ?hnews2 ?hone2 (by omega) (by unfold maxLen; omega) (by omega) (by simp; omega) (W1.heap.size + 1) (by simp) ?_)
          case hnews2 => exact World.news_of_block (cs := #[.int .u32 (y.1.to : Int)]) (t := 60) (fr := (0, 0)) (heap_alloc_new W1 (.cells #[.int .u32 (y.1.to : Int)] 60))
          case hone2 => simp [Value.oneCell']
          intro g4 cap4 W2 hown2 hgrow2 hat2 hlt2
          have hbx1 : W2.heap[b1]? = some (.cells #[vs'] 51 (0, 0)) := ((Keeps.refl (fun b => vs'.ownBlock = some b) _).grown hgrow2 (fun k hk => .inl hk)).heap (((Keeps.refl (fun _ => False) W1).alloc _).heap HS1.out.x1 (fun h => h)) HS1.out.row1
          have v1c : W2.cell? ⟨b1, 0, none⟩ = some vs' := (cell_of_blk hbx1).trans rfl
          have v1f : W2.frozen? ⟨b1, 0, none⟩ = false := frozen_of_blk hbx1
          have v1l := lt_of_heap hbx1
          have HP2 := Lib.hid (HS1.out.push (x := y.1.to) rfl hown2 hgrow2 hat2)
          have HX1 := Lib.hid hbx1
          have HG2 := Lib.hid hgrow2
          have HAT2 := Lib.hid hat2
          clear hown2 hgrow2 hat2 hlt2 hbx1
          gi_wp2
          have hk : Keeps (fun b => b = b2 ∨ b = b1 ∨ vs'.ownBlock = some b) W (W2.setCell ⟨b1, 0, none⟩ (.slice (some ⟨g4, 0, none⟩) (sk.length + 1) cap4)) := by
            have q1 : Keeps (fun b => b = b2 ∨ b = b1 ∨ vs'.ownBlock = some b) W W1 := (((Keeps.refl (fun _ => False) W).alloc (.cells #[] 148)).mono (fun _ _ h => h.elim)).trans (HK1.out.mono (fun _ _ h => .inl h))
            have q2 : Keeps (fun b => b = b2 ∨ b = b1 ∨ vs'.ownBlock = some b) W1 W2 := (((Keeps.refl (fun _ => False) W1).alloc (.cells #[.int .u32 (y.1.to : Int)] 60)).mono (fun _ _ h => h.elim)).trans (((Keeps.refl (fun b => vs'.ownBlock = some b) _).grown HG2.out (fun k hk => .inl hk)).mono (fun _ _ h => .inr (.inr h)))
            exact (q1.trans q2).trans ((Keeps.refl _ W2).setCell (p := ⟨b1, 0, none⟩) (.inl (.inr (.inl rfl))) _)
          have hS : ∀ b, b = b2 ∨ b = b1 ∨ vs'.ownBlock = some b → w.heap.size ≤ b ∧ b < W6.heap.size + W.heap.size ∧ b ≠ w3.heap.size + 1 ∧ W.heap[b]? ≠ some (.deferred (some [])) ∧ (b = b2 ∨ ∃ cs t fr, W.heap[b]? = some (.cells cs t fr)) := by
            rintro b (rfl | rfl | hb)
            · exact ⟨H1.out.l2, by have := H1.out.map.lt; omega, fun e => HNB.out e.symm, map_not_deferred H1.out.map, .inl rfl⟩
            · refine ⟨H1.out.l1, by have := H1.out.x1.lt; omega, ?_, cells_not_deferred H1.out.x1, .inr ⟨_, _, _, H1.out.x1⟩⟩
              intro e
              have h := (show W.heap[b]? = _ from H1.out.x1)
              rw [e, H3.out] at h
              simp at h
            · refine ⟨(World.ownsRow.lt H1.out.stack b hb).1, by have := (World.ownsRow.lt H1.out.stack b hb).2; omega, H4.out b hb, row_not_deferred H1.out.stack b hb, .inr ?_⟩
              rcases H1.out.stack.2 with ⟨e, _⟩ | ⟨gq, cq, curq, e, _, hgq, _⟩
              · rw [e] at hb; simp [Value.ownBlock] at hb
              · rw [e] at hb; simp [Value.ownBlock] at hb; subst hb; exact ⟨_, _, _, hgq⟩
          refine ⟨⟨hk.size, fun k o hB hk0 hc => ?_⟩, KpS.ofKeeps hk H1.out.keep.size (fun k hlt hs => by have := (hS k hs).1; omega) (lt_of_heap H3.out) (fun hs => (hS _ hs).2.2.1 rfl), ⟨.slice (some ⟨g4, 0, none⟩) (sk.length + 1) cap4, ?_, H2.out.keeps (KeepsD.of hk (fun b hs => (hS b hs).2.2.2.1)), hk.heap H3.out (fun hs => (hS _ hs).2.2.1 rfl), ?_⟩⟩
          · refine hk.heap hk0 (fun hs => ?_)
            rcases (hS k hs).2.2.2.2 with rfl | ⟨cs, t, fr, e⟩
            · have := HA6.out.map.lt; omega
            · rw [e] at hk0; cases hk0; cases hc
          · have e : freshs seen ((pre ++ [y]).map fun y => y.1.to) = freshs seen (pre.map fun y => y.1.to) ++ [y.1.to] := by rw [List.map_append]; exact HSN.out
            rw [e, ← List.append_assoc, ← List.append_assoc, HSK.out]
            exact HP2.out
          · intro k hk' e
            simp [Value.ownBlock] at hk'
            subst hk'
            rcases HAT2.out with e' | e'
            · exact H4.out g4 e' e
            · have := lt_of_heap H3.out; have := HK1.out.size; simp at this; omega
      case done =>
        rintro D ys W hD hys ⟨vs', h1, h2, h3, h4⟩ hd
        have hl : (ys.map fun y => y.1.to) = nexts ops x := by
          have := congrArg (List.map Stp.to) hys
          rw [wsteps_nexts] at this
          rw [← this, List.map_map]; rfl
        rw [hl] at h1
        have HM7 := Lib.hid (HM6.out.cons h2 hD (by omega) hd)
        obtain ⟨sn, hsn⟩ : ∃ sn, seen ++ freshs seen (nexts ops x) = sn := ⟨_, rfl⟩
        obtain ⟨sk, hsk⟩ : ∃ sk, stk' ++ freshs seen (nexts ops x) = sk := ⟨_, rfl⟩
        have hdf := HDF.out
        rw [hsn, hsk] at hdf h1
        have HDF2 := Lib.hid hdf
        have hsmall : ∀ z ∈ sn, z < 4294967296 := by
          rw [← hsn]
          intro z hz
          rcases mem_freshs.1 hz with hz | hz
          · exact HSM.out z hz
          · unfold nexts at hz
            obtain ⟨o, ho, rfl⟩ := List.mem_map.1 hz
            have ho' := List.mem_filter.1 ho
            exact next_lt hx32 (hops o ho'.1).2.1
        have HSMN := Lib.hid hsmall
        have hlen := h1.map.run_len (P := Tryz.prog) Tryz.underlying143 3
        have hll : (seenL sn).length = sn.length := by unfold seenL; simp
        rw [hll] at hlen
        have H1 := Lib.hid h1
        have x3c := h1.x3.cell
        have hsn40 : sn.length ≤ 2040 := by
          have e1 := freshs_le (seen := seen) (xs := nexts ops x)
          have e2 := congrArg List.length (wsteps_nexts ops x)
          rw [List.length_map] at e2
          have := HWL.out; have := HFEW.out
          rw [← hsn, List.length_append]; omega
        clear h1 h2 h3 h4 hl hd hll hdf hsn hsk hsmall HDF HSM HND HBS HG0 HWW HA6 HA HM6 HM
        by_cases hbig2 : 2000 < sn.length
        · gi_wp2
          refine leaves_marks (ds := mark D :: ds) HM7.out (fun W' hk => ?_)
          refine ⟨.tuple #[.slice none 0 0, .bool false], by simp [results, Tryz.results57, go_sem], H1.out.keep.trans' hk (fun i hi => .inr hi.1), .inl ⟨HDF2.out.many hbig2, rfl⟩⟩
        · have hle2 : sn.length ≤ 2000 := by omega
          gi_wp2
          refine ⟨⟨mark D :: ds, _, _, _, _, _, _, _, _, _, _, _, _, _, _, _, _, _, _, _, _, _, _, _, _, _, _, _, _, _, _, _, _, _, _, _, _, _, _, _, _, _, _, _, _, _, _, _, _, _, _, _, _, _, _, _, _, _, sk, sn, out ++ [x], vs', ⟨H1.out, HDF2.out, hle2, HSMN.out, HM7.out⟩, rfl⟩, ?_⟩
          simp [sliceLen, H6.out]
          omega
      case stop => exact fun _ _ _ _ _ _ h _ => h.elim

theorem all_any (w : World) (b st g0 base : Nat) (v : Value) (ops : List Wop) (hw : WordsAt w base b st g0 v ops) (hops : WopsOk ops) (hmany : ops.length ≤ 40) (hst : st < 4294967296) :
    Calls Tryz.prog 57 #[.iface 50 (.pointer (some ⟨b, 0, none⟩))] w (AllPost ops st w) := callsIn_wide.1 (all_in w b st g0 base v ops hw hops hmany hst)

end Go.Proofs.YtjcgkmodmjckjaaGreat

namespace Go.Proofs.YtjcgkmodmjckjaaGreat
open Go.RowKit

theorem wops_ok {t : Tsk} (ok : t.Ok) : WopsOk (wordsOf t.ops) := by
  intro o ho
  unfold wordsOf at ho
  obtain ⟨p, hp, rfl⟩ := List.mem_map.1 ho
  have h := ok.ops p hp
  have hn : t.n ≤ 32 := by have := ok.n1; omega
  exact ⟨wd_lt32 hn h.pre, wd_lt32 hn h.add, wd_lt32 hn h.del⟩

/-- The states that a task explores, if they are few. -/
def explored (t : Tsk) : Option (List Nat) := reached (wordsOf t.ops) (wd t.init)

/-- What Checked hands back. -/
def CheckedPost (t : Tsk) (w : World) (e : Ending) (w' : World) : Prop := Keeps (fun _ => False) w w' ∧
  (((taskFault t).1 ≠ 0 ∧ e = .returned (.tuple #[.pointer none, .slice none 0 0, .agg #[.int .i64 (taskFault t).1, .int .i64 (taskFault t).2]])) ∨
   (t.Ok ∧ explored t = none ∧ e = .returned (.tuple #[.pointer none, .slice none 0 0, .agg #[.int .i64 10, .int .i64 (-7)]])) ∨
   (t.Ok ∧ ∃ l, explored t = some l ∧ ∃ (b : Nat) (v vl : Value) (ws : List Nat), e = .returned (.tuple #[.pointer (some ⟨b, 0, none⟩), vl, .agg #[.int .i64 0, .int .i64 0]]) ∧ WordsAt w' w.heap.size b (wd t.init) (wd t.goal) v (wordsOf t.ops) ∧
      ws.Perm l ∧ ws.Pairwise (fun a b => ¬ cmpW b a < 0) ∧ w'.ownsRow w.heap.size 60 1 vl ws.length (ws.map encW)))

theorem WordsAt.keepsS {S : Nat → Prop} {w w' : World} {base b s g : Nat} {v : Value} {ops : List Wop} (h : WordsAt w base b s g v ops) (hk : Keeps S w w') (hb : ¬ S b) (hv : ∀ k, v.ownBlock = some k → ¬ S k) : WordsAt w' base b s g v ops :=
  ⟨hk.heap h.blk hb, hk.ownsRow h.own hv, h.low, h.ne⟩
theorem WordsAt.mono {w : World} {base base' b s g : Nat} {v : Value} {ops : List Wop} (h : WordsAt w base b s g v ops) (hb : base' ≤ base) : WordsAt w base' b s g v ops :=
  ⟨h.blk, ownsRow_mono h.own hb, Nat.le_trans hb h.low, h.ne⟩

set_option maxHeartbeats 2000000 in
theorem checked_any (w : World) (vi vg vo : Value) (t : Tsk) (h : TaskAt w vi vg vo t) :
    Calls Tryz.prog 23 #[.agg #[.int .i64 t.n, vi, vg, vo]] w (CheckedPost t w) := by
  obtain ⟨ai, ci, h1, _⟩ := h.init.form
  obtain ⟨ag, cg, h2, _⟩ := h.goal.form
  obtain ⟨ao, co, h3, hmo⟩ := h.ops.form
  subst h1 h2 h3
  have K1 := (Keeps.refl (fun _ => False) w).alloc (.cells #[.int .i64 t.n, .slice ai t.init.length ci, .slice ag t.goal.length cg, .slice ao t.ops.length co] 25)
  have HT := h.keeps0 (K1.alloc (.cells #[.int .i64 0, .int .i64 0] 29))
  have HB := (Four.new w (.int .i64 t.n) (.slice ai t.init.length ci) (.slice ag t.goal.length cg) (.slice ao t.ops.length co) 25).keeps0 ((Keeps.refl _ _).alloc (.cells #[.int .i64 0, .int .i64 0] 29))
  have HF : Flt w ((w.alloc (.cells #[.int .i64 t.n, .slice ai t.init.length ci, .slice ag t.goal.length cg, .slice ao t.ops.length co] 25)).alloc (.cells #[.int .i64 0, .int .i64 0] 29)) (w.heap.size + 1) 29 :=
    ⟨by have := heap_alloc_new (w.alloc (.cells #[.int .i64 t.n, .slice ai t.init.length ci, .slice ag t.goal.length cg, .slice ao t.ops.length co] 25)) (.cells #[.int .i64 0, .int .i64 0] 29); rwa [World.size_alloc] at this, by omega, K1.alloc _⟩
  replace HT := Lib.hid HT; replace HB := Lib.hid HB; replace HF := Lib.hid HF
  clear h K1
  go_enter Tryz.func23, Tryz.ntmps23
  go_upto_region 1 with fail
  generalize ((w.alloc (.cells #[.int .i64 t.n, .slice ai t.init.length ci, .slice ag t.goal.length cg, .slice ao t.ops.length co] 25)).alloc (.cells #[.int .i64 0, .int .i64 0] 29)) = w1 at HT HB HF ⊢
  have hbx := HB.out.lt
  obtain ⟨d0, d1, d2, d3⟩ := HB.out
  go_wp2_with fail
  refine (validate_any _ _ _ _ t HT.out).mono ?_; rintro e w2 ⟨rfl, hk⟩
  have K2 := Lib.hid hk
  have hbx2 := (HB.out.keeps0 hk).lt
  have l2 : w1.heap.size ≤ w2.heap.size := hk.size
  clear d0 d1 d2 d3 hk
  have KA := Lib.hid (K2.out.alloc (.cells #[.int .i64 (taskFault t).1, .int .i64 (taskFault t).2] 29))
  obtain ⟨d0, d1, d2, d3⟩ := HB.out.keeps0 K2.out
  by_cases hc : (taskFault t).1 = 0
  · have hok := taskFault_zero.1 hc
    have hft := taskFault_ok hok
    have OK := Lib.hid hok
    rw [hft] at KA ⊢
    clear hc hft hok
    go_wp2_with fail
    have HTA := Lib.hid (HT.out.keeps0 KA.out)
    refine (of_any _ _ _ _ t HTA.out OK.out).mono ?_; rintro e w3 ⟨b, v, rfl, hw, hk3⟩
    have KB := Lib.hid (KA.out.trans hk3)
    have HW := Lib.hid hw
    have hs3 : w1.heap.size ≤ w3.heap.size := KB.out.size
    have hstl := wd_lt32 (by have := OK.out.n1; omega : t.n ≤ 32) OK.out.init
    clear hk3 hw
    go_wp2_with fail
    refine (all_any w3 b (wd t.init) (wd t.goal) _ v (wordsOf t.ops) HW.out (wops_ok OK.out) (by unfold wordsOf; rw [List.length_map]; exact OK.out.few) hstl).mono ?_
    rintro e w4 ⟨hk4, hr⟩
    have KC := Lib.hid (KB.out.trans hk4)
    have HW4 := Lib.hid (HW.out.keeps0 hk4)
    clear hk4
    rcases hr with ⟨hr1, rfl⟩ | ⟨l, hr1, vl, out, rfl, hp, hown⟩
    · have HR := Lib.hid hr1
      obtain ⟨e0, e1, z0, z1, hF⟩ := (HF.out.keeps0 KC.out).cells
      clear hr1
      go_wp2_with fail
      refine bodyPost_ret (results_tmp2_cell _ _ (w.heap.size + 1) 29 #[.int .i64 10, .int .i64 (-7)] (0, 0) _ rfl rfl ((HF.out.keeps0 KC.out).set (.int .i64 10) (.int .i64 (-7))).1 Tryz.underlying29 rfl (by kernel_rfl)) rfl ?_
      exact ⟨((HF.out.keeps0 KC.out).set _ _).2, .inr (.inl ⟨OK.out, HR.out, rfl⟩)⟩
    · have HR := Lib.hid hr1
      obtain ⟨av, cv, hav⟩ := ownsRow_form1 hown
      subst hav
      have HO := Lib.hid hown; have HP := Lib.hid hp
      have hrl := reached_some hr1
      have hlen : out.length ≤ 2000 := by rw [hp.length_eq]; exact hrl.2.1
      clear hr1 hown hp hrl
      go_wp2_with fail
      refine (sort_any _ _ _ _ out HO.out (by omega)).mono ?_; rintro e w5 ⟨rfl, ws, hp2, hs2, hown2, hk5⟩
      have KD := Lib.hid (KC.out.trans' hk5 (fun i hi => .inr (by have := (World.ownsRow.lt HO.out i hi).1; omega)))
      have hvl : ∀ k, (Value.slice av out.length cv).ownBlock = some k → w3.heap.size ≤ k := fun k hk => (World.ownsRow.lt HO.out k hk).1
      have HW5 := Lib.hid (show WordsAt w5 w.heap.size b (wd t.init) (wd t.goal) v (wordsOf t.ops) from
        (HW4.out.keepsS hk5 (fun hs => by have := hvl b hs; have := lt_of_heap HW.out.blk; omega) (fun k hk hs => by have := hvl k hs; have := (World.ownsRow.lt HW.out.own k hk).2; omega)).mono (by have := KA.out.size; have := HF.out.keep.size; simp at *; omega))
      have HO5 := Lib.hid (ownsRow_mono hown2 (by have := KB.out.size; have := HF.out.keep.size; omega : w.heap.size ≤ w3.heap.size))
      have HP2 := Lib.hid (hp2.trans HP.out); have HS2 := Lib.hid hs2
      have HF5 := Lib.hid (HF.out.keeps0 KD.out)
      obtain ⟨e0, e1, z0, z1, hF⟩ := HF5.out.cells
      clear hp2 hs2 hown2 hk5 hvl
      go_wp2_with fail
      refine bodyPost_ret (results_tmp2_cell _ _ (w.heap.size + 1) 29 #[.int .i64 0, .int .i64 0] (0, 0) _ rfl rfl (HF5.out.set (.int .i64 0) (.int .i64 0)).1 Tryz.underlying29 rfl (by kernel_rfl)) rfl ?_
      have kS := keeps_pair (w := w5) (w.heap.size + 1) (.int .i64 0) (.int .i64 0)
      refine ⟨(HF5.out.set _ _).2, .inr (.inr ⟨OK.out, l, HR.out, b, v, _, ws, rfl, ?_, HP2.out, (HS2.out.imp (fun h => by first | exact h | omega)), ?_⟩)⟩
      · refine HW5.out.keepsS kS (fun e => ?_) (fun k hk e => ?_)
        · have h1 := HW5.out.blk; rw [e, HF5.out.blk] at h1; simp at h1
        · subst e
          have h1 := HF5.out.blk
          rcases HW5.out.own.2 with ⟨e, _⟩ | ⟨gq, cq, curq, e, _, hgq, _⟩
          · rw [e] at hk; simp [Value.ownBlock] at hk
          · rw [e] at hk; simp [Value.ownBlock] at hk; subst hk; rw [hgq] at h1; simp at h1
      · refine kS.ownsRow HO5.out (fun k hk e => ?_)
        subst e
        have h1 := HF5.out.blk
        rcases HO5.out.2 with ⟨e, _⟩ | ⟨gq, cq, curq, e, _, hgq, _⟩
        · rw [e] at hk; simp [Value.ownBlock] at hk
        · rw [e] at hk; simp [Value.ownBlock] at hk; subst hk; rw [hgq] at h1; simp at h1
  · have hc2 : ((taskFault t).1 == 0) = false := by simpa using hc
    have HC := Lib.hid hc
    obtain ⟨e0, e1, z0, z1, hF⟩ := (HF.out.keeps0 K2.out).cells
    have HFA := Lib.hid (HF.out.keeps0 KA.out)
    clear hc
    generalize hfe : taskFault t = f at hc2 HC HFA KA ⊢
    have HFE := Lib.hid hfe
    clear hfe
    go_wp2_with fail
    have HF2 := Lib.hid (HF.out.keeps0 K2.out)
    go_region
    all_goals
      go_wp2
      refine bodyPost_ret (results_tmp2_cell _ _ (w.heap.size + 1) 29 #[.int .i64 f.1, .int .i64 f.2] (0, 0) _ rfl rfl ((((Keeps.refl (fun _ => False) _).alloc _).drew).heap (HF2.out.set (.int .i64 f.1) (.int .i64 f.2)).1 (fun h => h)) Tryz.underlying29 rfl (by kernel_rfl)) rfl ?_
      refine ⟨((HF2.out.set (.int .i64 f.1) (.int .i64 f.2)).2.alloc _).drew, .inl ?_⟩
      rw [HFE.out]
      exact ⟨HC.out, rfl⟩

end Go.Proofs.YtjcgkmodmjckjaaGreat

namespace Go.Proofs.YtjcgkmodmjckjaaGreat
open Go.RowKit

theorem Tryz.info_bool : (Tryz.prog.info? 4).map (fun i => (i.zero, i.size, i.bytes)) = some (some (.bool false), 1, 1) := by kernel_rfl

def goalW (t : Tsk) (x : Nat) : Bool := subB t.goal (facts x)

theorem subset_goal (w : World) (va vb : Value) (t : Tsk) (x : Nat) (ha : Ints w va t.goal) (hb : Ints w vb (facts x)) :
    Calls Tryz.prog 72 #[va, vb] w fun e w' => e = .returned (.bool (goalW t x)) ∧ w = w' := subset_any w va vb t.goal (facts x) ha hb

set_option maxRecDepth 100000 in
set_option maxHeartbeats 2000000 in
theorem goals_any (w : World) (vi vg vo vl : Value) (t : Tsk) (L : List Nat) (h : TaskAt w vi vg vo t) (hl : Lists w vl (L.map facts)) (hfew : L.length ≤ 2000) :
    Calls Tryz.prog 79 #[.agg #[.int .i64 t.n, vi, vg, vo], vl] w fun e w' => ∃ v, e = .returned v ∧ w'.ownsRow w.heap.size 4 1 v L.length ((L.map (goalW t)).map Value.bool) ∧ Keeps (fun _ => False) w w' := by
  obtain ⟨i0, hi0, hz0, hz1, hz2⟩ := info_parts Tryz.info_bool
  obtain ⟨ai, ci, h1, _⟩ := h.init.form
  obtain ⟨ag, cg, h2, _⟩ := h.goal.form
  obtain ⟨ao, co, h3, hmo⟩ := h.ops.form
  obtain ⟨al, cl, h4, _⟩ := hl.form
  have hcl := hl.cell h4
  rw [List.length_map] at h4 hcl
  subst h1 h2 h3 h4
  have HB := Lib.hid (Four.new w (.int .i64 t.n) (.slice ai t.init.length ci) (.slice ag t.goal.length cg) (.slice ao t.ops.length co) 25)
  have K1 := (Keeps.refl (fun _ => False) w).alloc (.cells #[.int .i64 t.n, .slice ai t.init.length ci, .slice ag t.goal.length cg, .slice ao t.ops.length co] 25)
  have HGL := Lib.hid (h.goal.keeps0 K1); have HCL := Lib.hid hcl; have HK := Lib.hid K1
  clear h hl hcl K1
  go_enter Tryz.func79, Tryz.ntmps79
  go_upto_region 1 with fail
  generalize (w.alloc (.cells #[.int .i64 t.n, .slice ai t.init.length ci, .slice ag t.goal.length cg, .slice ao t.ops.length co] 25)) = w1 at HB HGL HK ⊢
  go_wp2_with fail
  go_loopw [5, 6] (fun v5 i6 wr => ∃ i : Nat, i ≤ L.length ∧ i6 = .int .i64 (i : Int) ∧ wr.ownsRow w1.heap.size 4 1 v5 i ((L.take i).map fun x => Value.bool (goalW t x)) ∧ Keeps (fun _ => False) w1 wr) (fun _ i6 _ => L.length - (intOf i6).toNat)
  case atStart => exact ⟨0, Nat.zero_le _, rfl, World.ownsRow_nil _ _ _ _, Keeps.refl _ _⟩
  case round =>
    obtain ⟨i, hi, rfl, hown, hkw⟩ := hrel
    obtain ⟨av, cv, hav⟩ := ownsRow_form1 hown
    subst hav
    have HO := Lib.hid hown; have KW := Lib.hid hkw
    have hsw := hkw.size
    have hsz := HK.out.size
    have hbr := (HB.out.keeps0 hkw).lt
    obtain ⟨d0, d1, d2, d3⟩ := HB.out.keeps0 hkw
    clear hown hkw
    by_cases hlt : i < L.length
    · obtain ⟨bl, ol, rfl, hx'⟩ := HCL.out (by omega)
      obtain ⟨x, hx⟩ : ∃ x, L[i]? = some x := ⟨_, List.getElem?_eq_getElem hlt⟩
      obtain ⟨u, hu, hiu⟩ := hx' i (facts x) (by rw [List.getElem?_map, hx]; rfl)
      have hu2 := (HK.out.trans KW.out).cell hu (fun h => h)
      have KD := (KW.out.drew)
      have HIW := Lib.hid (hiu.keeps0 (HK.out.trans KD))
      have HGW := Lib.hid (show Ints wr.drew (.slice ag t.goal.length cg) t.goal from HGL.out.keeps0 KD)
      have HTK := Lib.hid (take_getS hx)
      obtain ⟨au, cu, hfu, _⟩ := hiu.form
      subst hfu
      clear hx' hx hu hiu
      go_upto_region 5 with fail
      have i1' : (0 : Int) ≤ (i : Int) := by omega
      have i2' : (i : Int) < (L.length : Int) := by omega
      have KWR := Lib.hid KD
      clear KD
      go_region_law (first | (refine step_append_lies _ (by rfl) _ _ _ (by rfl) w1.heap.size 4 i0 _ 1 1 Tryz.underlying129 hi0 hz0 hz1 hz2 rfl (by omega) _ i ((L.take i).map fun x => Value.bool (goalW t x)) (by rfl) ((World.ownsRow.alloc HO.out (.cells #[.bool (goalW t x)] 4)).drew) ⟨wr.heap.size, 0, none⟩ 1 1 [.bool (goalW t x)] (by rfl) (by rfl) (World.news_of_block (cs := #[.bool (goalW t x)]) (t := 4) (fr := (0, 0)) (heap_alloc_new wr _)) (by simp [Value.oneCell']) (by omega) (by unfold maxLen; omega) (by omega) (by simp; omega) (wr.heap.size + 1) (by simp) ?_; intro gg cap2 w5 hown hgrow hat hlt5) | (go_simp; go_at_call 72; refine (subset_goal _ _ _ t x HGW.out HIW.out).mono ?_; rintro e w4 ⟨rfl, rfl⟩))
      all_goals
        have HN := Lib.hid (show w5.ownsRow w1.heap.size 4 1 (.slice (some ⟨gg, 0, none⟩) (i + 1) cap2) (i + 1) ((L.take (i + 1)).map fun x => Value.bool (goalW t x)) by
          rw [HTK.out, List.map_append]; exact hown)
        have HKN := Lib.hid (own_grown HO.out KW.out (((Keeps.refl _ wr).alloc (.cells #[.bool (goalW t x)] 4)).drew) hgrow)
        clear hown hgrow hat
        go_wp2
        go_roundw
        case rel => exact ⟨i + 1, by omega, by go_num, HN.out, HKN.out⟩
        case measure => simp [intOf]; omega
    · have HN := Lib.hid (show wr.ownsRow w1.heap.size 4 1 (.slice av i cv) L.length ((L.map (goalW t)).map Value.bool) by
        have hie : i = L.length := by omega
        have h := HO.out
        rw [List.take_of_length_le (by omega)] at h
        rw [List.map_map]
        rw [hie] at h ⊢
        exact h)
      go_wp2_with fail
      go_ret
      exact ⟨_, rfl, ownsRow_mono HN.out HK.out.size, HK.out.trans KW.out⟩

/-! ### Explored -/
def expF (t : Tsk) : Int × Int := if (taskFault t).1 = 0 then (match explored t with | none => (10, -7) | some _ => (0, 0)) else taskFault t

theorem pair_cells {w : World} {B : Nat} {x y : Value} {T : TypeId} (h : w.heap[B]? = some (.cells #[x, y] T (0, 0))) : w.cell? ⟨B, 0, none⟩ = some x ∧ w.cell? ⟨B, 1, none⟩ = some y ∧ w.frozen? ⟨B, 0, none⟩ = false ∧ w.frozen? ⟨B, 1, none⟩ = false ∧ B < w.heap.size :=
  ⟨by rw [cell_of_blk h]; rfl, by rw [cell_of_blk h]; rfl, frozen_of_blk h, frozen_of_blk h, lt_of_heap h⟩

theorem Flt.keepsS {S : Nat → Prop} {w w1 w2 : World} {F : Nat} {T : TypeId} (h : Flt w w1 F T) (hk : Keeps S w1 w2) (hF : ¬ S F) (hS : ∀ i, S i → w.heap.size ≤ i) : Flt w w2 F T :=
  ⟨hk.heap h.blk hF, h.base, h.keep.trans' hk (fun i hi => .inr (hS i hi))⟩

set_option maxRecDepth 100000 in
set_option maxHeartbeats 2000000 in
theorem explored_any (w : World) (vi vg vo : Value) (t : Tsk) (h : TaskAt w vi vg vo t) :
    Calls Tryz.prog 9 #[.agg #[.int .i64 t.n, vi, vg, vo]] w fun e w' => e = .returned (.agg #[.int .i64 (expF t).1, .int .i64 (expF t).2]) ∧ Keeps (fun _ => False) w w' := by
  obtain ⟨ai, ci, h1, _⟩ := h.init.form
  obtain ⟨ag, cg, h2, _⟩ := h.goal.form
  obtain ⟨ao, co, h3, hmo⟩ := h.ops.form
  subst h1 h2 h3
  have K1 := (Keeps.refl (fun _ => False) w).alloc (.cells #[.int .i64 t.n, .slice ai t.init.length ci, .slice ag t.goal.length cg, .slice ao t.ops.length co] 25)
  have HT := h.keeps0 (K1.alloc (.cells #[.int .i64 0, .int .i64 0] 29))
  have HB := (Four.new w (.int .i64 t.n) (.slice ai t.init.length ci) (.slice ag t.goal.length cg) (.slice ao t.ops.length co) 25).keeps0 ((Keeps.refl _ _).alloc (.cells #[.int .i64 0, .int .i64 0] 29))
  have HF : Flt w ((w.alloc (.cells #[.int .i64 t.n, .slice ai t.init.length ci, .slice ag t.goal.length cg, .slice ao t.ops.length co] 25)).alloc (.cells #[.int .i64 0, .int .i64 0] 29)) (w.heap.size + 1) 29 :=
    ⟨by have := heap_alloc_new (w.alloc (.cells #[.int .i64 t.n, .slice ai t.init.length ci, .slice ag t.goal.length cg, .slice ao t.ops.length co] 25)) (.cells #[.int .i64 0, .int .i64 0] 29); rwa [World.size_alloc] at this, by omega, K1.alloc _⟩
  replace HT := Lib.hid HT; replace HB := Lib.hid HB; replace HF := Lib.hid HF
  clear h K1
  go_enter Tryz.func9, Tryz.ntmps9
  go_upto_region 1 with fail
  generalize ((w.alloc (.cells #[.int .i64 t.n, .slice ai t.init.length ci, .slice ag t.goal.length cg, .slice ao t.ops.length co] 25)).alloc (.cells #[.int .i64 0, .int .i64 0] 29)) = w1 at HT HB HF ⊢
  have hbx := HB.out.lt
  obtain ⟨d0, d1, d2, d3⟩ := HB.out
  go_wp2_with fail
  refine (taskFault_any _ _ _ _ t HT.out).mono ?_; rintro e w2 ⟨rfl, hk⟩
  have HF2 := Lib.hid (HF.out.keeps0 hk)
  have HB2 := Lib.hid (HB.out.keeps0 hk)
  have HT2 := Lib.hid (HT.out.keeps0 hk)
  have hbx2 := HB2.out.lt
  have hlt3 := HF2.out.cells.2.2.2.2
  clear d0 d1 d2 d3 hk hbx
  generalize hfe : taskFault t = f
  have HFE := Lib.hid hfe
  have KA := (Keeps.refl (fun _ => False) w2).alloc (.cells #[.int .i64 f.1, .int .i64 f.2] 29)
  have HF3 := Lib.hid (HF2.out.keeps0 KA); have HB3 := Lib.hid (HB2.out.keeps0 KA); have HT3 := Lib.hid (HT2.out.keeps0 KA)
  have H3 := Lib.hid (heap_alloc_new w2 (.cells #[.int .i64 f.1, .int .i64 f.2] 29))
  clear KA hfe
  go_upto_region 2 with fail
  generalize w2.alloc (.cells #[.int .i64 f.1, .int .i64 f.2] 29) = w3 at HF3 HB3 HT3 H3 ⊢
  generalize w2.heap.size = b3 at hlt3 hbx2 H3 ⊢
  obtain ⟨p0, p1, z0, z1, hl3⟩ := pair_cells H3.out
  obtain ⟨e0, e1, y0, y1, hF⟩ := HF3.out.cells
  by_cases hc : f.1 = 0
  · have hok : t.Ok := taskFault_zero.1 (by rw [HFE.out]; exact hc)
    have hft : f = (0, 0) := by rw [← HFE.out]; exact taskFault_ok hok
    subst hft
    have OK := Lib.hid hok
    obtain ⟨d0, d1, d2, d3⟩ := HB3.out
    have hbx3 := HB3.out.lt
    clear hc hok
    go_wp2_with fail
    refine (reached_any _ _ _ _ t HT3.out OK.out).mono ?_; rintro e w4 ⟨hk, hr⟩
    have H4 := Lib.hid (hk.heap H3.out (fun h => h))
    have HF4 := Lib.hid (HF3.out.keeps0 hk)
    clear p0 p1 z0 z1 e0 e1 y0 y1 d0 d1 d2 d3 hk hl3 hF hbx3
    rcases hr with ⟨hn, rfl⟩ | ⟨l, hn, v, vw, vs, rfl, hr⟩
    · have HP := Lib.hid (show expF t = (10, -7) by unfold expF; rw [HFE.out, if_pos rfl]; unfold explored; rw [hn])
      clear hn
      go_wp2_with fail
      refine (at_any _ _ _).mono ?_; rintro e w5 ⟨rfl, hk⟩
      have H5 := Lib.hid (hk.heap H4.out (fun h => h))
      have HF5 := Lib.hid (HF4.out.keeps0 hk)
      obtain ⟨p0, p1, z0, z1, hl3⟩ := pair_cells H5.out
      have H6 := Lib.hid (pair_set H5.out (.int .i64 10) (.int .i64 (-7)))
      have HF6 := Lib.hid (HF5.out.keepsS (keeps_pair (w := w5) b3 (.int .i64 10) (.int .i64 (-7))) (by omega) (fun i hi => by omega))
      clear hk
      go_upto_region 6 with fail
      generalize (w5.setCell ⟨b3, 0, none⟩ (.int .i64 10)).setCell ⟨b3, 1, none⟩ (.int .i64 (-7)) = w6 at H6 HF6 ⊢
      clear p0 p1 z0 z1 hl3
      obtain ⟨p0, p1, z0, z1, hl3⟩ := pair_cells H6.out
      obtain ⟨e0, e1, y0, y1, hF⟩ := HF6.out.cells
      go_wp2_with fail
      refine bodyPost_ret (results_cell_row rfl _ _ (w.heap.size + 1) 29 _ (0, 0) _ rfl (HF6.out.set (.int .i64 10) (.int .i64 (-7))).1 Tryz.underlying29 rfl (by kernel_rfl)) rfl ?_
      exact ⟨by rw [HP.out], (HF6.out.set _ _).2⟩
    · have HP := Lib.hid (show expF t = (0, 0) by unfold expF; rw [HFE.out, if_pos rfl]; unfold explored; rw [hn])
      clear hn
      obtain ⟨av, cv, hav⟩ := ownsRow_form1 hr.out
      subst hav
      clear hr
      obtain ⟨p0, p1, z0, z1, hl3⟩ := pair_cells H4.out
      obtain ⟨e0, e1, y0, y1, hF⟩ := HF4.out.cells
      go_wp2_with fail
      refine bodyPost_ret (results_cell_row rfl _ _ (w.heap.size + 1) 29 _ (0, 0) _ rfl (HF4.out.set (.int .i64 0) (.int .i64 0)).1 Tryz.underlying29 rfl (by kernel_rfl)) rfl ?_
      exact ⟨by rw [HP.out], (HF4.out.set _ _).2⟩
  · have HP := Lib.hid (show expF t = f by unfold expF; rw [HFE.out, if_neg hc])
    have hc2 : (f.1 == 0) = false := by simpa using hc
    clear hc
    go_wp2_with fail
    refine bodyPost_ret (results_cell_row rfl _ _ (w.heap.size + 1) 29 _ (0, 0) _ rfl (HF3.out.set (.int .i64 f.1) (.int .i64 f.2)).1 Tryz.underlying29 rfl (by kernel_rfl)) rfl ?_
    exact ⟨by rw [HP.out], (HF3.out.set _ _).2⟩

/-! ### wayFault -/
/-! ### wide -/
theorem fault_field0 (w : World) (a b : Value) : (Instr.field 29 (.agg #[a, b]) 0).run Tryz.prog w = .ok a w := by kernel_rfl
def wideB (t : Tsk) : Bool := if (taskFault t).1 = 0 then (match explored t with | none => false | some l => decide (150 < (l.length : Int))) else false

set_option maxRecDepth 100000 in
set_option maxHeartbeats 1000000 in
theorem wide_any (w : World) (vi vg vo : Value) (t : Tsk) (h : TaskAt w vi vg vo t) :
    Calls Tryz.prog 7 #[.agg #[.int .i64 t.n, vi, vg, vo]] w fun e w' => e = .returned (.bool (wideB t)) ∧ Keeps (fun _ => False) w w' := by
  obtain ⟨ai, ci, h1, _⟩ := h.init.form
  obtain ⟨ag, cg, h2, _⟩ := h.goal.form
  obtain ⟨ao, co, h3, hmo⟩ := h.ops.form
  subst h1 h2 h3
  have HB := Lib.hid (Four.new w (.int .i64 t.n) (.slice ai t.init.length ci) (.slice ag t.goal.length cg) (.slice ao t.ops.length co) 25)
  have K1 := (Keeps.refl (fun _ => False) w).alloc (.cells #[.int .i64 t.n, .slice ai t.init.length ci, .slice ag t.goal.length cg, .slice ao t.ops.length co] 25)
  have HT := Lib.hid (h.keeps0 K1); have HK := Lib.hid K1
  clear h K1
  go_enter Tryz.func7, Tryz.ntmps7
  go_upto_region 1 with fail
  generalize (w.alloc (.cells #[.int .i64 t.n, .slice ai t.init.length ci, .slice ag t.goal.length cg, .slice ao t.ops.length co] 25)) = w1 at HB HT HK ⊢
  have hbx := HB.out.lt
  obtain ⟨d0, d1, d2, d3⟩ := HB.out
  go_wp2_with fail
  refine (taskFault_any _ _ _ _ t HT.out).mono ?_; rintro e w2 ⟨rfl, hk⟩
  have HB2 := Lib.hid (HB.out.keeps0 hk)
  have HT2 := Lib.hid (HT.out.keeps0 hk)
  have K2 := Lib.hid (HK.out.trans hk)
  clear d0 d1 d2 d3 hk hbx
  by_cases hc : (taskFault t).1 = 0
  · have hok : t.Ok := taskFault_zero.1 hc
    have hc2 : ((taskFault t).1 != 0) = false := by simpa using hc
    have hw : wideB t = match explored t with | none => false | some l => decide (150 < (l.length : Int)) := by unfold wideB; rw [if_pos hc]
    have HW := Lib.hid hw
    have OK := Lib.hid hok
    obtain ⟨d0, d1, d2, d3⟩ := HB2.out
    have hbx := HB2.out.lt
    clear hc hok hw
    generalize taskFault t = f at hc2 ⊢
    have hfld := fun w => fault_field0 w (.int .i64 f.1) (.int .i64 f.2)
    go_wp2_with fail
    refine (reached_any _ _ _ _ t HT2.out OK.out).mono ?_; rintro e w4 ⟨hk, hr⟩
    have K4 := Lib.hid (K2.out.trans hk)
    clear d0 d1 d2 d3 hk hbx
    rcases hr with ⟨hn, rfl⟩ | ⟨l, hn, v, vw, vs, rfl, hr⟩
    · have HP := Lib.hid (show wideB t = false by rw [HW.out]; unfold explored; rw [hn])
      clear hn
      go_wp2_with fail
      go_ret
      exact ⟨congrArg (fun b => Ending.returned (Value.bool b)) HP.out.symm, K4.out⟩
    · have HP := Lib.hid (show wideB t = decide (150 < (l.length : Int)) by rw [HW.out]; unfold explored; rw [hn])
      clear hn
      obtain ⟨av, cv, hav⟩ := ownsRow_form1 hr.out
      subst hav
      clear hr
      go_wp2_with fail
      go_ret
      exact ⟨congrArg (fun b => Ending.returned (Value.bool b)) HP.out.symm, K4.out⟩
  · have hc2 : ((taskFault t).1 != 0) = true := by simpa using hc
    have HP := Lib.hid (show wideB t = false by unfold wideB; rw [if_neg hc])
    clear hc
    generalize taskFault t = f at hc2 ⊢
    have hfld := fun w => fault_field0 w (.int .i64 f.1) (.int .i64 f.2)
    go_wp2_with fail
    go_ret
    exact ⟨congrArg (fun b => Ending.returned (Value.bool b)) HP.out.symm, K2.out⟩

end Go.Proofs.YtjcgkmodmjckjaaGreat

namespace Go.Proofs.YtjcgkmodmjckjaaGreat
open Go.RowKit

/-! ### plain -/
inductive WalkA (A : List Arc) (wt : Arc → Int) (s : Nat) : Nat → Int → Prop
  | nil : WalkA A wt s s 0
  | snoc {a : Arc} {c : Int} : WalkA A wt s a.frm c → a ∈ A → WalkA A wt s a.to (c + wt a)

def weightP (m : Int) (d : List Int) : Nat := (d.map fun x => if 0 ≤ x then x.toNat else m.toNat + 1).sum
theorem weightP_set {m : Int} {d : List Int} {i : Nat} {x z : Int} (hi : d[i]? = some x) (hz : 0 ≤ z) (hzn : z ≤ m) (hx : x < 0 ∨ z < x) : weightP m (d.set i z) < weightP m d := by
  induction d generalizing i with
  | nil => simp at hi
  | cons y r ih =>
    cases i with
    | zero =>
      simp at hi; subst hi
      unfold weightP
      simp only [List.set_cons_zero, List.map_cons, List.sum_cons]
      rw [if_pos hz]
      split <;> omega
    | succ i =>
      simp only [List.getElem?_cons_succ] at hi
      have := ih hi
      unfold weightP at this ⊢
      simp only [List.set_cons_succ, List.map_cons, List.sum_cons]
      omega

structure PriInv (A : List Arc) (wt : Arc → Int) (W : Int) (n s : Nat) (d : List Int) : Prop where
  len : d.length = n
  lo : ∀ x ∈ d, -1 ≤ x
  hi : ∀ x ∈ d, x ≤ (known d : Int) * W
  start : d[s]? = some 0
  real : ∀ (i : Nat) (x : Int), d[i]? = some x → 0 ≤ x → WalkA A wt s i x

def stableP (wt : Arc → Int) (d : List Int) (a : Arc) : Prop := ∀ x, d[a.frm]? = some x → 0 ≤ x → ∃ y, d[a.to]? = some y ∧ 0 ≤ y ∧ y ≤ x + wt a

theorem PriInv.step {A : List Arc} {wt : Arc → Int} {W : Int} {n s : Nat} {d : List Int} (h : PriInv A wt W n s d) {a : Arc} (ha : a ∈ A) (hw0 : 0 ≤ wt a) (hwW : wt a ≤ W) {x y : Int} (hx : d[a.frm]? = some x) (hy : d[a.to]? = some y) (hx0 : 0 ≤ x) (hxy : y < 0 ∨ x + wt a < y) :
    PriInv A wt W n s (d.set a.to (x + wt a)) ∧ weightP ((n : Int) * W) (d.set a.to (x + wt a)) < weightP ((n : Int) * W) d ∧ x + wt a ≤ (n : Int) * W := by
  have htl := (List.getElem?_eq_some_iff.1 hy).1
  have hz : (0 : Int) ≤ x + wt a := by omega
  have hkn := known_set hy hz
  have hxk := h.hi x (List.mem_of_getElem? hx)
  have hyk := h.hi y (List.mem_of_getElem? hy)
  have hkl := known_le (d.set a.to (x + wt a))
  rw [List.length_set, h.len] at hkl
  have hW0 : 0 ≤ W := by omega
  have hmono : ∀ {p q : Nat}, p ≤ q → (p : Int) * W ≤ (q : Int) * W := fun hpq => Int.mul_le_mul_of_nonneg_right (by omega) hW0
  have hkk : known d ≤ known (d.set a.to (x + wt a)) := by rw [hkn]; omega
  have hbnd : x + wt a ≤ (known (d.set a.to (x + wt a)) : Int) * W := by
    by_cases hy0 : 0 ≤ y
    · have := hmono hkk; omega
    · have e : known (d.set a.to (x + wt a)) = known d + 1 := by rw [hkn, if_neg hy0]
      rw [e]
      have : ((known d + 1 : Nat) : Int) * W = (known d : Int) * W + W := by rw [Int.natCast_add, Int.add_mul]; simp
      omega
  have hnW := hmono hkl
  refine ⟨⟨by rw [List.length_set]; exact h.len, fun z hz' => ?_, fun z hz' => ?_, ?_, fun i z hz' h0 => ?_⟩, weightP_set hy hz (by omega) hxy, by omega⟩
  · rcases List.mem_or_eq_of_mem_set hz' with hz' | rfl
    · exact h.lo z hz'
    · omega
  · rcases List.mem_or_eq_of_mem_set hz' with hz' | rfl
    · have := h.hi z hz'; have := hmono hkk; omega
    · exact hbnd
  · rw [getElem?_setS]
    by_cases hi : a.to = s
    · have h0 := h.start
      rw [← hi, hy] at h0
      simp only [Option.some.injEq] at h0
      omega
    · rw [if_neg (by simp [hi])]; exact h.start
  · rw [getElem?_setS] at hz'
    by_cases hi : a.to = i
    · subst hi
      rw [if_pos ⟨rfl, htl⟩] at hz'
      simp only [Option.some.injEq] at hz'
      rw [← hz']
      exact .snoc (h.real a.frm x hx hx0) ha
    · rw [if_neg (by simp [hi])] at hz'
      exact h.real i z hz' h0

theorem known_start (n s : Nat) (hs : s < n) : known ((List.replicate n (-1 : Int)).set s 0) = 1 := by
  have h := known_set (d := List.replicate n (-1 : Int)) (i := s) (x := -1) (z := 0) (by rw [List.getElem?_replicate, if_pos hs]) (by omega)
  rw [h, if_neg (by omega)]
  have : known (List.replicate n (-1 : Int)) = 0 := by
    unfold known; rw [List.filter_eq_nil_iff.2 (fun x hx => by rw [List.eq_of_mem_replicate hx]; decide)]; rfl
  omega
theorem PriInv.init (A : List Arc) (wt : Arc → Int) {W : Int} (hW : 0 ≤ W) {n s : Nat} (hs : s < n) : PriInv A wt W n s ((List.replicate n (-1 : Int)).set s 0) := by
  refine ⟨by simp, fun x hx => ?_, fun x hx => ?_, by rw [getElem?_setS, if_pos ⟨rfl, by simpa using hs⟩], fun i x hx h0 => ?_⟩
  · rcases List.mem_or_eq_of_mem_set hx with hx | rfl
    · rw [List.eq_of_mem_replicate hx]; omega
    · omega
  · rw [known_start n s hs]
    rcases List.mem_or_eq_of_mem_set hx with hx | rfl
    · rw [List.eq_of_mem_replicate hx]; omega
    · omega
  · rw [getElem?_setS] at hx
    by_cases hi : s = i
    · subst hi
      rw [if_pos ⟨rfl, by simpa using hs⟩] at hx
      simp only [Option.some.injEq] at hx
      rw [← hx]; exact .nil
    · rw [if_neg (by simp [hi]), List.getElem?_replicate] at hx
      split at hx
      · simp only [Option.some.injEq] at hx; omega
      · cases hx

structure PriOk (A : List Arc) (wt : Arc → Int) (n s : Nat) (d : List Int) : Prop where
  len : d.length = n
  lo : ∀ x ∈ d, -1 ≤ x
  start : d[s]? = some 0
  real : ∀ (i : Nat) (x : Int), d[i]? = some x → 0 ≤ x → WalkA A wt s i x
  relax : ∀ a ∈ A, stableP wt d a

/-! ### the walk -/
def PriHead (w : World) (A : List Arc) (wt : Arc → Int) (W : Int) (n s : Nat) (k : Nat) (v : Value) (wr : World) : Prop :=
  ∃ (d : List Int) (again : Bool), v = .bool again ∧ PriInv A wt W n s d ∧ DRow w n d wr ∧ (again = false → ∀ a ∈ A, stableP wt d a) ∧ k = 2 * weightP ((n : Int) * W) d + (if again = true then 1 else 0)
def PriMid (w : World) (A : List Arc) (wt : Arc → Int) (W : Int) (n s : Nat) (m : Nat) (i : Nat) (v : Value) (wr : World) : Prop :=
  ∃ (d : List Int) (again : Bool), v = .bool again ∧ PriInv A wt W n s d ∧ DRow w n d wr ∧ (again = false → ∀ a ∈ A.take i, stableP wt d a) ∧ weightP ((n : Int) * W) d ≤ m ∧ (again = true → weightP ((n : Int) * W) d < m)
def PricePost (w : World) (A : List Arc) (wt : Arc → Int) (n s : Nat) (e : Ending) (w' : World) : Prop :=
  ∃ v d, e = .returned v ∧ PriOk A wt n s d ∧ w'.ownsRow w.heap.size 3 1 v n (d.map (Value.int .i64)) ∧ Keeps (fun _ => False) w w'
theorem stableP_of {wt : Arc → Int} {d : List Int} {a : Arc} {x y : Int} (hx : d[a.frm]? = some x) (hy : d[a.to]? = some y) (h : x < 0 ∨ (0 ≤ y ∧ y ≤ x + wt a)) : stableP wt d a := by
  intro z hz h0
  rw [hx] at hz; cases hz
  rcases h with h | h
  · omega
  · exact ⟨y, hy, h⟩
theorem stableP_take {wt : Arc → Int} {d : List Int} {A : List Arc} {i : Nat} {a : Arc} (ha : A[i]? = some a) (hs : stableP wt d a) (h : ∀ b ∈ A.take i, stableP wt d b) : ∀ b ∈ A.take (i + 1), stableP wt d b := by
  intro b hb
  rw [take_getS ha] at hb
  rcases List.mem_append.1 hb with hb | hb
  · exact h b hb
  · simp at hb; subst hb; exact hs

set_option maxRecDepth 100000 in
set_option maxHeartbeats 4000000 in
theorem prices_any (w : World) (vl va : Value) (ls : List (List Int)) (A : List Arc) (s : Nat) (k step : Int) (hl : Lists w vl ls) (ha : ArcsAt w va A) (hn : ls.length ≤ 100000) (hs : s < ls.length) (hA : ∀ a ∈ A, a.frm < ls.length ∧ a.to < ls.length ∧ 0 ≤ a.cost ∧ a.cost ≤ 100)
    (hk0 : 0 ≤ k) (hk1 : k ≤ 4096) (hs0 : 0 ≤ step) (hs1 : step ≤ 1) :
    Calls Tryz.prog 11 #[vl, va, .int .i64 (s : Int), .int .i64 k, .int .i64 step] w (PricePost w A (fun a => k * a.cost + step) ls.length s) := by
  obtain ⟨i0, hi0, hz0, hz1, hz2⟩ := info_parts Tryz.info3
  obtain ⟨al, cl, hvl, ml⟩ := hl.form
  obtain ⟨aa, ca, hva, ma⟩ := Sl.formN ha
  have CA := Lib.hid (ha.cell hva)
  have HLT := Lib.hid hA
  subst hva hvl
  clear ha hl hA
  have hwt : ∀ c : Int, 0 ≤ c → c ≤ 100 → 0 ≤ k * c ∧ k * c ≤ 409600 := fun c h0 h1 => by
    have e1 := Int.mul_nonneg hk0 h0
    have e2 : k * c ≤ 4096 * 100 := Int.mul_le_mul hk1 h1 h0 (by omega)
    omega
  have HWT := Lib.hid hwt
  generalize hnn : ls.length = n at hn hs ml HLT ⊢
  clear hwt hnn
  go_enter Tryz.func11, Tryz.ntmps11
  go_wp2_with (at_make; refine wpList_make_full _ rfl _ _ 22 rfl w.heap.size 3 i0 (.int .i64 0) 1 Tryz.underlying22 hi0 hz0 hz1 .i64 .i64 _ _ n rfl rfl rfl rfl (by rw [hz2]; omega) (by unfold maxLen; omega) (Nat.le_refl _) ?_; intro w1 hown hgrow)
  have hI : DRow w n ((List.replicate n (-1 : Int)).take 0 ++ List.replicate (n - 0) 0) w1 := by
    refine ⟨?_, (Keeps.refl (fun _ => False) w).grown hgrow (fun k hk => by cases hk)⟩
    have e : (madeCells (Value.int .i64 0).cells (n * 1)).toList = ((List.replicate n (-1 : Int)).take 0 ++ List.replicate (n - 0) 0).map (Value.int .i64) := by
      rw [Nat.mul_one, List.take_zero, List.nil_append, Nat.sub_zero, List.map_replicate]
      exact toList_madeCells_one (.int .i64 0) n
    rw [e] at hown
    exact hown
  have HI := Lib.hid hI
  clear hI hown hgrow
  go_loopw [12] (fun v6 wr => ∃ i : Nat, i ≤ n ∧ v6 = .int .i64 (i : Int) ∧ DRow w n ((List.replicate n (-1 : Int)).take i ++ List.replicate (n - i) 0) wr) (fun v6 _ => n - (intOf v6).toNat)
  case atStart => exact ⟨0, Nat.zero_le _, rfl, HI.out⟩
  case round =>
    obtain ⟨i, hi, rfl, hR⟩ := hrel
    have HR := Lib.hid hR
    have hlw := hR.lt
    clear hR
    by_cases hlt : i < n
    · have hgs : (List.replicate n (-1 : Int))[i]? = some (-1) := by rw [List.getElem?_replicate, if_pos hlt]
      have hD0 : ((List.replicate n (-1 : Int)).take i ++ List.replicate (n - i) 0)[i]? = some 0 := by
        have ht : ((List.replicate n (-1 : Int)).take i).length = i := by rw [List.length_take, List.length_replicate]; omega
        rw [List.getElem?_append_right (by omega), ht, Nat.sub_self, List.getElem?_replicate, if_pos (by omega)]
      have q0 := HR.out.cell hD0
      have qf := HR.out.frozen i
      have HN := Lib.hid (show DRow w n ((List.replicate n (-1 : Int)).take (i + 1) ++ List.replicate (n - (i + 1)) 0) (wr.setCell ⟨w.heap.size, i, none⟩ (.int .i64 (-1))) by
        rw [← fill_step hgs (by simp)]; exact HR.out.set i (-1))
      clear hgs hD0
      go_wp2_with fail
      go_roundw
      case rel => exact ⟨i + 1, by omega, by go_num, HN.out⟩
      case measure => simp [intOf]; omega
    · have HS := Lib.hid (show DRow w n (List.replicate n (-1 : Int)) wr by
        have h := HR.out
        rw [List.take_of_length_le (by rw [List.length_replicate]; omega), show n - i = 0 by omega, List.replicate_zero, List.append_nil] at h
        exact h)
      have q0 := HS.out.cell (i := s) (x := -1) (by rw [List.getElem?_replicate, if_pos hs])
      have qf := HS.out.frozen s
      have HS2 := Lib.hid (HS.out.set s 0)
      have HIV := Lib.hid (PriInv.init A (fun a => k * a.cost + step) (W := 409601) (by omega) hs)
      have u0 : (0 : Int) ≤ (s : Int) := by omega
      have u1 : (s : Int) < (n : Int) := by omega
      clear hi
      go_upto_region 7 with fail
      generalize wr.setCell ⟨w.heap.size, s, none⟩ (.int .i64 0) = w2 at HS2 ⊢
      clear q0 qf
      go_wp2_with fail
      go_loopg [13] (2 * weightP ((n : Int) * 409601) ((List.replicate n (-1 : Int)).set s 0) + 1) (fun k' v7 wq => PriHead w A (fun a => k * a.cost + step) 409601 n s k' v7 wq)
      case atStart => exact ⟨_, true, rfl, HIV.out, HS2.out, (fun h => by cases h), by rw [if_pos rfl]⟩
      case round =>
        obtain ⟨d, again, rfl, hinv, hdr, hst, hgk⟩ := hrel
        have INV := Lib.hid hinv; have DR := Lib.hid hdr; have ST := Lib.hid hst; have HGK := Lib.hid hgk
        clear hinv hdr hst hgk
        cases again with
        | false =>
          go_wp2_with fail
          go_ret
          exact ⟨_, d, rfl, ⟨INV.out.len, INV.out.lo, INV.out.start, INV.out.real, ST.out (by first | rfl | trivial)⟩, DR.out.own, DR.out.keeps⟩
        | true =>
          go_wp2_with fail
          go_loopw [13, 14] (fun v7 v8 wq => ∃ j : Nat, j ≤ A.length ∧ v8 = .int .i64 (j : Int) ∧ PriMid w A (fun a => k * a.cost + step) 409601 n s (weightP ((n : Int) * 409601) d) j v7 wq) (fun _ v8 _ => A.length - (intOf v8).toNat)
          case atStart => exact ⟨0, Nat.zero_le _, rfl, d, false, rfl, INV.out, DR.out, (fun _ a ha => by simp at ha), Nat.le_refl _, (fun h => by cases h)⟩
          case round =>
            obtain ⟨j, hj, rfl, d2, ag2, rfl, hinv2, hdr2, hst2, hle2, hlt2⟩ := hrel
            have INV2 := Lib.hid hinv2; have DR2 := Lib.hid hdr2; have ST2 := Lib.hid hst2; have LE2 := Lib.hid hle2; have LT2 := Lib.hid hlt2
            have hl2 := hdr2.lt
            clear hinv2 hdr2 hst2 hle2 hlt2
            by_cases hjl : j < A.length
            · obtain ⟨ba, oa, rfl, hcell⟩ := CA.out (by omega)
              obtain ⟨a, ha⟩ : ∃ a, A[j]? = some a := ⟨_, List.getElem?_eq_getElem hjl⟩
              obtain ⟨g0, g1, g2, g3⟩ := hcell j a ha
              have c0 := DR2.out.keeps.cell g0 (fun h => h)
              have c1 := DR2.out.keeps.cell g1 (fun h => h)
              have c2 := DR2.out.keeps.cell g2 (fun h => h)
              have c3 := DR2.out.keeps.cell g3 (fun h => h)
              have HA := Lib.hid ha
              obtain ⟨hf, ht, hc0, hc1⟩ := HLT.out a (List.mem_of_getElem? ha)
              obtain ⟨hm0, hm1⟩ := HWT.out a.cost hc0 hc1
              have hdl := DR2.out.len
              obtain ⟨x, hx⟩ : ∃ x, d2[a.frm]? = some x := ⟨_, List.getElem?_eq_getElem (by omega)⟩
              obtain ⟨y, hy⟩ : ∃ y, d2[a.to]? = some y := ⟨_, List.getElem?_eq_getElem (by omega)⟩
              have hxk : x ≤ 40960100000 := by
                have h1 := INV2.out.hi x (List.mem_of_getElem? hx)
                have h2 := known_le d2
                omega
              have hxl := INV2.out.lo x (List.mem_of_getElem? hx)
              have HX := Lib.hid hx; have HY := Lib.hid hy
              have KA := Lib.hid ((Keeps.refl (fun _ => False) wr).alloc (.cells #[.int .i64 (a.frm : Int), .int .i64 (a.to : Int), .int .i64 (a.op : Int), .int .i64 a.cost] 67))
              have F4 := Lib.hid (Four.new wr (.int .i64 (a.frm : Int)) (.int .i64 (a.to : Int)) (.int .i64 (a.op : Int)) (.int .i64 a.cost) 67)
              have DR3 := Lib.hid (DR2.out.keeps0 KA.out)
              clear hcell g0 g1 g2 g3 ha hdl hx hy DR2 DR HS HS2
              go_upto_region 14 with fail
              obtain ⟨b9, hb9⟩ : ∃ b9, wr.heap.size = b9 := ⟨_, rfl⟩
              rw [hb9] at F4 hl2 ⊢
              clear c0 c1 c2 c3
              generalize (wr.alloc (.cells #[.int .i64 (a.frm : Int), .int .i64 (a.to : Int), .int .i64 (a.op : Int), .int .i64 a.cost] 67)) = w5 at DR3 F4 ⊢
              clear KA hb9
              have hl9 := F4.out.lt
              have hl5 := DR3.out.lt
              obtain ⟨f0, f1, f2, f3⟩ := F4.out
              have cx := DR3.out.cell HX.out
              have i0 : (0 : Int) ≤ (a.frm : Int) := by omega
              have i1 : (a.frm : Int) < (n : Int) := by omega
              have b0 : (0 : Int) ≤ (a.to : Int) := by omega
              have b1 : (a.to : Int) < (n : Int) := by omega
              have m1 : IntKind.i64.wrap (k * a.cost) = k * a.cost := IntWalk.i64_in _ (by omega)
              have m2 : IntKind.i64.wrap (x + k * a.cost) = x + k * a.cost := IntWalk.i64_in _ (by omega)
              have m3 : IntKind.i64.wrap (x + k * a.cost + step) = x + k * a.cost + step := IntWalk.i64_in _ (by omega)
              have HNV := Lib.hid (show x + k * a.cost + step = x + (k * a.cost + step) by omega)
              go_quiet (fail)
              clear m1 m2 m3
              have kd := (Keeps.refl (fun _ => False) w5).drewN nq
              have hl9' := Nat.lt_of_lt_of_le hl9 kd.size
              have hl5' := Nat.lt_of_lt_of_le hl5 kd.size
              have f0' := kd.cell f0 (fun h => h)
              have f1' := kd.cell f1 (fun h => h)
              have cx' := kd.cell cx (fun h => h)
              have DR6 := Lib.hid (DR3.out.keeps0 kd)
              clear kd hl9 hl5 f0 f1 f2 f3 cx DR3 F4
              generalize w5.drewN nq = w6 at hl9' hl5' f0' f1' cx' DR6 ⊢
              generalize hv16 : x + k * a.cost + step = v16 at HNV ⊢
              have HV := Lib.hid hv16
              clear hv16
              have cy := DR6.out.cell HY.out
              have fy := DR6.out.frozen a.to
              by_cases hx0 : 0 ≤ x
              · by_cases hup : y < 0 ∨ v16 < y
                · have HN := Lib.hid (INV2.out.step (List.mem_of_getElem? HA.out) (by show 0 ≤ k * a.cost + step; omega) (by show k * a.cost + step ≤ 409601; omega) HX.out HY.out hx0 (by rw [← HNV.out]; exact hup))
                  have FIN := Lib.hid (show PriMid w A (fun a => k * a.cost + step) 409601 n s (weightP ((n : Int) * 409601) d) (j + 1) (.bool true) (w6.setCell ⟨w.heap.size, a.to, none⟩ (.int .i64 v16)) from by
                    obtain ⟨n1, n2, _⟩ := HN.out
                    have h1 := LE2.out
                    rw [HNV.out]
                    exact ⟨d2.set a.to (x + (k * a.cost + step)), true, rfl, n1, DR6.out.set a.to _, (fun h => by cases h), by omega, (fun _ => by omega)⟩)
                  by_cases hy0 : y < 0
                  case' pos => clear hup
                  case' neg =>
                    have hup2 : v16 < y := by omega
                    clear hup
                  all_goals
                    go_wp2_with fail
                    go_roundw
                    case rel => exact ⟨j + 1, by omega, by go_num, FIN.out⟩
                    case measure => simp [intOf]; omega
                · have hy0 : ¬ y < 0 := fun h => hup (.inl h)
                  have hvy : ¬ v16 < y := fun h => hup (.inr h)
                  have HST := Lib.hid (show stableP (fun a => k * a.cost + step) d2 a from stableP_of HX.out HY.out (.inr ⟨by omega, by have := HNV.out; show y ≤ x + (k * a.cost + step); omega⟩))
                  clear hup
                  go_wp2_with fail
                  go_roundw
                  case rel => exact ⟨j + 1, by omega, by go_num, d2, ag2, rfl, INV2.out, DR6.out, (fun h => stableP_take HA.out HST.out (ST2.out h)), LE2.out, LT2.out⟩
                  case measure => simp [intOf]; omega
              · have HST := Lib.hid (show stableP (fun a => k * a.cost + step) d2 a from stableP_of HX.out HY.out (.inl (by omega)))
                go_wp2_with fail
                go_roundw
                case rel => exact ⟨j + 1, by omega, by go_num, d2, ag2, rfl, INV2.out, DR6.out, (fun h => stableP_take HA.out HST.out (ST2.out h)), LE2.out, LT2.out⟩
                case measure => simp [intOf]; omega
            · have HTK : Hid (A.take j = A) := by unfold Hid; exact List.take_of_length_le (by omega)
              have HGD := Lib.hid (show PriHead w A (fun a => k * a.cost + step) 409601 n s (2 * weightP ((n : Int) * 409601) d2 + (if ag2 = true then 1 else 0)) (.bool ag2) wr from ⟨d2, ag2, rfl, INV2.out, DR2.out, (fun h => by have := ST2.out h; rwa [HTK.out] at this), rfl⟩)
              go_wp2_with fail
              go_roundg (2 * weightP ((n : Int) * 409601) d2 + (if ag2 = true then 1 else 0))
              case rel => exact HGD.out
              case measure =>
                have h1 := HGK.out
                have h2 := LE2.out
                have h3 := LT2.out
                cases ag2
                · rw [if_neg (by simp)]; simp at h1; omega
                · rw [if_pos rfl]; have := h3 rfl; simp at h1; omega

end Go.Proofs.YtjcgkmodmjckjaaGreat

namespace Go.Proofs.YtjcgkmodmjckjaaGreat
open Go.RowKit Go.Sort Go.Proofs

section
variable {α : Type} [Inhabited α] (enc : α → Value)
theorem holdsE_of_block {w : World} {g : Nat} {cur : Array Value} {e : TypeId} {ss : List α} (hb : w.heap[g]? = some (.cells cur e (0, 0))) (ht : cur.toList.take ss.length = ss.map enc) : Holds enc w g 0 ss.toArray := by
  intro j hj
  have hj' : j < ss.length := by simpa using hj
  refine ⟨?_, by simp [World.frozen?, hb]⟩
  have h1 : (cur.toList.take ss.length)[j]? = (ss.map enc)[j]? := by rw [ht]
  rw [List.getElem?_take_of_lt hj'] at h1
  simp only [World.cell?, hb, Nat.zero_add]
  simp only [Option.isSome_none, Bool.false_eq_true, if_false]
  rw [← Array.getElem?_toList, h1]
  simp [hj']
theorem take_putCellsE (cur : Array Value) (ts : List α) (h : ts.length ≤ cur.size) : (putCells enc 0 ts.toArray cur).toList.take ts.length = ts.map enc := by
  apply List.ext_getElem?
  intro j
  by_cases hj : j < ts.length
  · rw [List.getElem?_take_of_lt hj, Array.getElem?_toList]
    simp [putCells, hj, show j < cur.size by omega]
  · rw [List.getElem?_take_eq_none (by omega), List.getElem?_eq_none (by simp; omega)]
theorem heap_putE {w : World} {g n : Nat} {cur : Array Value} {e : TypeId} {fr : Nat × Nat} (d : Array α) (hb : w.heap[g]? = some (.cells cur e fr)) :
    (putRow enc (Sort.ahead w n) g 0 d).heap[g]? = some (.cells (putCells enc 0 d cur) e fr) := by
  simp [putRow, mapBlock, Sort.ahead, Array.getElem?_modify, hb, onCells]
theorem keeps_putE {w : World} {g n : Nat} (d : Array α) : Keeps (fun b => b = g) w (putRow enc (Sort.ahead w n) g 0 d) := by
  refine ⟨rfl, rfl, rfl, by simp [putRow, mapBlock, Sort.ahead], fun k hk hne => ?_⟩
  have : g ≠ k := fun e => hne e.symm
  simp [putRow, mapBlock, Sort.ahead, Array.getElem?_modify, this]
end

theorem reverse_any (w : World) (base : Nat) (T : TypeId) (v : Value) (l : List Int) (hown : w.ownsRow base T 1 v l.length (l.map (Value.int .i64))) (hlen : l.length ≤ 9223372036854775807) :
    Calls Tryz.prog 78 #[v] w fun e w' => e = .returned (.tuple #[]) ∧ w'.ownsRow base T 1 v l.length (l.reverse.map (Value.int .i64)) ∧ Keeps (fun b => v.ownBlock = some b) w w' := by
  rcases hown.2 with ⟨rfl, h0⟩ | ⟨g, cap, cur, rfl, hb, hg, hn, hm, hs, ht⟩
  · have hz : l = [] := List.length_eq_zero_iff.1 h0
    subst hz
    refine (Tryz.slices_Reverse_int_empty none 0 w).mono ?_
    rintro e w' ⟨rfl, rfl⟩
    exact ⟨rfl, World.ownsRow_nil _ _ _ _, Keeps.refl _ _⟩
  · have ht' : cur.toList.take l.length = l.map (Value.int .i64) := by simpa using ht
    refine (Tryz.slices_Reverse_int g 0 cap l w (holdsE_of_block (Value.int .i64) hg ht') hlen).mono ?_
    rintro e w' ⟨rfl, n, rfl⟩
    refine ⟨rfl, ⟨by simp, .inr ⟨g, cap, _, rfl, hb, heap_putE (Value.int .i64) _ hg, hn, hm, by simp [putCells, hs], ?_⟩⟩, (keeps_putE (Value.int .i64) _).mono (fun i _ h => by subst h; rfl)⟩
    have := take_putCellsE (Value.int .i64) cur l.reverse (by simp; omega)
    simpa using this

/-! ### space.Path -/
def intsP (p : List Nat) : List Int := p.map fun x : Nat => (x : Int)

end Go.Proofs.YtjcgkmodmjckjaaGreat

namespace Go.Proofs.YtjcgkmodmjckjaaGreat
open Go.RowKit Go.Shelf
attribute [local go_sem] Oper.semAt_some

section
variable {w0 : World} {b1 b2 b3 : Nat} {T : List Ent} {q : List Nat} {vl : Value} {W : World}
end

theorem reach_small {ops : List Wop} (hops : WopsOk ops) {st : Nat} (hst : st < 4294967296) {x : Nat} (h : Reach ops st x) : x < 4294967296 := by
  induction h with
  | refl => exact hst
  | step _ hy ih =>
    unfold nexts at hy
    obtain ⟨o, ho, rfl⟩ := List.mem_map.1 hy
    have ho' := List.mem_filter.1 ho
    exact next_lt ih (hops o ho'.1).2.1

end Go.Proofs.YtjcgkmodmjckjaaGreat

namespace Go.Proofs.YtjcgkmodmjckjaaGreat

theorem PriOk.walk {A : List Arc} {wt : Arc → Int} {n s : Nat} {d : List Int} (h : PriOk A wt n s d) (hA : ∀ a ∈ A, 0 ≤ wt a) {i : Nat} {c : Int} (hw : WalkA A wt s i c) : 0 ≤ c ∧ ∃ x, d[i]? = some x ∧ 0 ≤ x ∧ x ≤ c := by
  induction hw with
  | nil => exact ⟨Int.le_refl _, 0, h.start, Int.le_refl _, Int.le_refl _⟩
  | snoc _ ha ih =>
    obtain ⟨h0, x, hx, hx0, hxc⟩ := ih
    have hc := hA _ ha
    obtain ⟨y, hy, hy0, hyx⟩ := h.relax _ ha x hx hx0
    exact ⟨by omega, y, hy, hy0, by omega⟩

/-! ### depths -/
end Go.Proofs.YtjcgkmodmjckjaaGreat
