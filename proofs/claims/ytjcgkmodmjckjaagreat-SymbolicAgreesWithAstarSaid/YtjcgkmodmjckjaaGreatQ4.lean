/- cmp.Compare at int, slices.Compare at []int, the comparison of two words. space.All: a search with a stack. space.Checked. The reference's Goals and Explored; the laws' wayFault and wide. slices.Reverse over owned rows; space.Path. breadth.First: the tree of a breadth-first search. space.Steps: what its first loop knows. The queue's heap: what the slice of entries reads as; Less, Swap, Len walked. The library's heap over the queue's entries: up, down, Fix, Remove, Push, Pop: what they make of the list. The library's heap over the queue's entries: the slice's own Push, Pop, Len; heap.Fix, Remove, Push, Pop. No condition beyond what each theorem says. -/
import Derived.Test.YtjcgkmodmjckjaaGreatQ3
import Derived.Test.YtjcgkmodmjckjaaGreatShelf
import Derived.Sort.OwnSorted
import Derived.Test.YtjcgkmodmjckjaaGreatQ1
import Derived.Deep.AppendSrc
import Derived.Test.YtjcgkmodmjckjaaGreatProg

namespace Go.Proofs.YtjcgkmodmjckjaaGreat
open Go.RowKit

def cmpI (a b : Int) : Int := if a < b then -1 else if b < a then 1 else 0

def cmpL : List Int → List Int → Int
  | [], [] => 0
  | [], _ :: _ => -1
  | _ :: _, [] => 1
  | a :: r, b :: s => if a < b then -1 else if b < a then 1 else cmpL r s

theorem nan_any (w : World) (x : Int) : Calls Tryz.prog 117 #[.int .i64 x] w fun e w' => e = .returned (.bool false) ∧ w = w' := by
  go_enter Tryz.func117, Tryz.ntmps117
  go_wp2_with fail
  go_ret
  exact ⟨rfl, rfl⟩

set_option maxHeartbeats 1000000 in
theorem compare_any (w : World) (x y : Int) : Calls Tryz.prog 93 #[.int .i64 x, .int .i64 y] w fun e w' => e = .returned (.int .i64 (cmpI x y)) ∧ w = w' := by
  by_cases h1 : x < y
  · have hf : Hid (cmpI x y = -1) := by unfold Hid cmpI; rw [if_pos h1]
    go_enter Tryz.func93, Tryz.ntmps93
    go_wp2_with (go_at_call 117; refine (nan_any _ _).mono ?_; rintro e w' ⟨rfl, rfl⟩)
    go_ret
    exact ⟨by rw [hf.out]; rfl, rfl⟩
  · by_cases h2 : y < x
    · have hf : Hid (cmpI x y = 1) := by unfold Hid cmpI; rw [if_neg h1, if_pos h2]
      go_enter Tryz.func93, Tryz.ntmps93
      go_wp2_with (go_at_call 117; refine (nan_any _ _).mono ?_; rintro e w' ⟨rfl, rfl⟩)
      go_ret
      exact ⟨by rw [hf.out]; rfl, rfl⟩
    · have hf : Hid (cmpI x y = 0) := by unfold Hid cmpI; rw [if_neg h1, if_neg h2]
      go_enter Tryz.func93, Tryz.ntmps93
      go_wp2_with (go_at_call 117; refine (nan_any _ _).mono ?_; rintro e w' ⟨rfl, rfl⟩)
      go_ret
      exact ⟨by rw [hf.out]; rfl, rfl⟩

theorem cmpL_step {a b : List Int} {k : Nat} {x y : Int} (hx : a[k]? = some x) (hy : b[k]? = some y) : cmpL (a.drop k) (b.drop k) = if x < y then -1 else if y < x then 1 else cmpL (a.drop (k + 1)) (b.drop (k + 1)) := by
  obtain ⟨h1, h2⟩ := List.getElem?_eq_some_iff.1 hx
  obtain ⟨h3, h4⟩ := List.getElem?_eq_some_iff.1 hy
  rw [List.drop_eq_getElem_cons h1, List.drop_eq_getElem_cons h3, h2, h4, cmpL]

theorem cmpL_long {a b : List Int} {k : Nat} (h1 : k < a.length) (h2 : b.length ≤ k) : cmpL (a.drop k) (b.drop k) = 1 := by
  rw [List.drop_eq_getElem_cons h1, List.drop_eq_nil_of_le h2, cmpL]
theorem cmpL_short {a b : List Int} {k : Nat} (h1 : a.length ≤ k) (h2 : k < b.length) : cmpL (a.drop k) (b.drop k) = -1 := by
  rw [List.drop_eq_getElem_cons h2, List.drop_eq_nil_of_le h1, cmpL]
theorem cmpL_end {a b : List Int} {k : Nat} (h1 : a.length ≤ k) (h2 : b.length ≤ k) : cmpL (a.drop k) (b.drop k) = 0 := by
  rw [List.drop_eq_nil_of_le h1, List.drop_eq_nil_of_le h2, cmpL]

set_option maxHeartbeats 1000000 in
theorem sliceCompare_any (w : World) (va vb : Value) (a b : List Int) (ha : Ints w va a) (hb : Ints w vb b) :
    Calls Tryz.prog 60 #[va, vb] w fun e w' => e = .returned (.int .i64 (cmpL a b)) ∧ w = w' := by
  obtain ⟨ao, ca, hva, ma⟩ := ha.form
  obtain ⟨bo, cb, hvb, mb⟩ := hb.form
  have CA := Lib.hid (ha.cell hva)
  have CB := Lib.hid (hb.cell hvb)
  subst hva hvb
  clear ha hb
  go_enter Tryz.func60, Tryz.ntmps60
  go_wp2_with fail
  go_loop [11] (fun i => ∃ k : Nat, k ≤ a.length ∧ k ≤ b.length ∧ i = .int .i64 (k : Int) ∧ cmpL a b = cmpL (a.drop k) (b.drop k)) (fun i => a.length - (intOf i).toNat)
  case atStart => exact ⟨0, Nat.zero_le _, Nat.zero_le _, rfl, rfl⟩
  case round =>
    obtain ⟨k, hk, hk2, rfl, ht⟩ := hrel
    have HT := Lib.hid ht; clear ht
    by_cases hlt : k < a.length
    · obtain ⟨ba, oa, rfl, ha'⟩ := CA.out (by omega)
      obtain ⟨x, hx⟩ : ∃ x, a[k]? = some x := ⟨_, List.getElem?_eq_getElem hlt⟩
      have ha1 := ha' k _ hx
      by_cases hlt2 : k < b.length
      · obtain ⟨bb, ob, rfl, hb'⟩ := CB.out (by omega)
        obtain ⟨y, hy⟩ : ∃ y, b[k]? = some y := ⟨_, List.getElem?_eq_getElem hlt2⟩
        have hb1 := hb' k _ hy
        have HS := Lib.hid (cmpL_step hx hy)
        clear ha' hb' hx hy
        by_cases hz : cmpI x y = 0
        · have hne : (cmpI x y != 0) = false := by simpa using hz
          have HN : Hid (cmpL a b = cmpL (a.drop (k + 1)) (b.drop (k + 1))) := by
            unfold Hid
            rw [HT.out, HS.out]
            unfold cmpI at hz
            by_cases h1 : x < y
            · rw [if_pos h1] at hz; cases hz
            · rw [if_neg h1] at hz ⊢
              by_cases h2 : y < x
              · rw [if_pos h2] at hz; cases hz
              · rw [if_neg h2]
          clear hz
          go_wp2_with fail
          refine (compare_any _ _ _).mono ?_; rintro e w1 ⟨rfl, rfl⟩
          generalize cmpI x y = c at hne ⊢
          go_wp2_with fail
          go_round
          case rel => exact ⟨k + 1, by omega, by omega, by go_num, HN.out⟩
          case measure => simp [intOf]; omega
        · have hne : (cmpI x y != 0) = true := by simpa using hz
          have HN : Hid (cmpL a b = cmpI x y) := by
            unfold Hid
            rw [HT.out, HS.out]
            unfold cmpI at hz ⊢
            by_cases h1 : x < y
            · rw [if_pos h1, if_pos h1]
            · rw [if_neg h1] at hz ⊢
              by_cases h2 : y < x
              · rw [if_pos h2, if_neg h1, if_pos h2]
              · rw [if_neg h2] at hz; exact absurd rfl hz
          clear hz
          go_wp2_with fail
          refine (compare_any _ _ _).mono ?_; rintro e w1 ⟨rfl, rfl⟩
          generalize cmpI x y = c at hne HN ⊢
          go_wp2_with fail
          go_ret
          exact ⟨congrArg (fun u : Int => Ending.returned (Value.int .i64 u)) HN.out.symm, rfl⟩
      · have HN : Hid (cmpL a b = 1) := by unfold Hid; rw [HT.out]; exact cmpL_long hlt (by omega)
        clear ha' hx
        go_wp2_with fail
        go_ret
        exact ⟨congrArg (fun u : Int => Ending.returned (Value.int .i64 u)) HN.out.symm, rfl⟩
    · by_cases hlt2 : k < b.length
      · have HN : Hid (cmpL a b = -1) := by unfold Hid; rw [HT.out]; exact cmpL_short (by omega) hlt2
        have hl : a.length < b.length := by omega
        go_wp2_with fail
        go_ret
        exact ⟨congrArg (fun u : Int => Ending.returned (Value.int .i64 u)) HN.out.symm, rfl⟩
      · have HN : Hid (cmpL a b = 0) := by unfold Hid; rw [HT.out]; exact cmpL_end (by omega) (by omega)
        have hl : b.length ≤ a.length := by omega
        go_wp2_with fail
        go_ret
        exact ⟨congrArg (fun u : Int => Ending.returned (Value.int .i64 u)) HN.out.symm, rfl⟩

/-- How two words compare. -/
def cmpW (x y : Nat) : Int := cmpL (facts x) (facts y)

set_option maxHeartbeats 1000000 in
theorem checked1_any (w : World) (x y : Nat) :
    Calls Tryz.prog 59 #[.int .u32 (x : Int), .int .u32 (y : Int)] w fun e w' => e = .returned (.int .i64 (cmpW x y)) ∧ Keeps (fun _ => False) w w' ∧ w.drawn ≤ w'.drawn := by
  go_enter Tryz.func59, Tryz.ntmps59
  go_wp2_with fail
  refine (facts_any _ _).mono ?_; rintro e w1 ⟨va, rfl, ho, hk, hd1⟩
  have OA := Lib.hid (Ints.of_own ho)
  have K1 := Lib.hid hk
  clear ho hk
  go_wp2_with fail
  refine (facts_any _ _).mono ?_; rintro e w2 ⟨vb, rfl, ho, hk, hd2⟩
  have OB := Lib.hid (Ints.of_own ho)
  have K2 := Lib.hid hk
  clear ho hk
  go_wp2_with fail
  refine (sliceCompare_any _ _ _ _ _ (OA.out.keeps0 K2.out) OB.out).mono ?_; rintro e w3 ⟨rfl, rfl⟩
  go_wp2_with fail
  go_ret
  exact ⟨rfl, K1.out.trans K2.out, Nat.le_trans hd1 hd2⟩

end Go.Proofs.YtjcgkmodmjckjaaGreat

/- slices.SortFunc over words, by the library's contract. -/
namespace Go.Proofs.YtjcgkmodmjckjaaGreat
open Go.RowKit Go.Sort Go.Proofs

/-! ### lists compare as a strict order -/
theorem cmpL_self (a : List Int) : cmpL a a = 0 := by
  induction a with
  | nil => rfl
  | cons x r ih => rw [cmpL, if_neg (by omega), if_neg (by omega), ih]

theorem cmpL_eq : ∀ {a b : List Int}, cmpL a b = 0 → a = b
  | [], [], _ => rfl
  | [], _ :: _, h => by rw [cmpL] at h; cases h
  | _ :: _, [], h => by rw [cmpL] at h; cases h
  | x :: r, y :: s, h => by
    rw [cmpL] at h
    split at h
    · cases h
    · split at h
      · cases h
      · rw [cmpL_eq h]; congr 1; omega

theorem cmpL_neg : ∀ (a b : List Int), cmpL b a = - cmpL a b
  | [], [] => rfl
  | [], _ :: _ => rfl
  | _ :: _, [] => rfl
  | x :: r, y :: s => by
    rw [cmpL, cmpL]
    by_cases h1 : x < y
    · have h2 : ¬ y < x := by omega
      simp [h1, h2]
    · by_cases h2 : y < x
      · simp [h1, h2]
      · simp only [h1, h2, if_false]; exact cmpL_neg r s

theorem cmpL_trans : ∀ {a b c : List Int}, cmpL a b < 0 → cmpL b c < 0 → cmpL a c < 0
  | [], [], _, h, _ => by rw [cmpL] at h; omega
  | [], _ :: _, [], _, h => by rw [cmpL] at h; omega
  | [], _ :: _, _ :: _, _, _ => by rw [cmpL]; omega
  | _ :: _, [], _, h, _ => by rw [cmpL] at h; omega
  | _ :: _, _ :: _, [], _, h => by rw [cmpL] at h; omega
  | x :: r, y :: s, z :: t, h1, h2 => by
    rw [cmpL] at h1 h2 ⊢
    split at h1
    · split at h2
      · rw [if_pos (by omega)]; omega
      · split at h2
        · omega
        · rw [if_pos (by omega)]; omega
    · split at h1
      · omega
      · split at h2
        · rw [if_pos (by omega)]; omega
        · split at h2
          · omega
          · rw [if_neg (by omega), if_neg (by omega)]; exact cmpL_trans h1 h2

theorem swoW : SWO (ltOf cmpW) where
  irrefl x := by unfold ltOf cmpW; rw [cmpL_self]; rfl
  trans x y z h1 h2 := by
    unfold ltOf cmpW at *
    rw [decide_eq_true_eq] at *
    exact cmpL_trans h1 h2
  ntrans x y z h1 h2 := by
    unfold ltOf cmpW at *
    rw [decide_eq_false_iff_not] at *
    intro h3
    have n1 := cmpL_neg (facts x) (facts y)
    have n2 := cmpL_neg (facts y) (facts z)
    by_cases e1 : cmpL (facts x) (facts y) = 0
    · rw [cmpL_eq e1] at h3; exact h2 h3
    · have : cmpL (facts y) (facts x) < 0 := by omega
      exact h2 (cmpL_trans this h3)

def encW (x : Nat) : Value := .int .u32 (x : Int)

/-! ### the two vocabularies -/
theorem holdsW_of_block {w : World} {g : Nat} {cur : Array Value} {e : TypeId} {ss : List Nat} (hb : w.heap[g]? = some (.cells cur e (0, 0))) (ht : cur.toList.take ss.length = ss.map encW) : Holds encW w g 0 ss.toArray := by
  intro j hj
  have hj' : j < ss.length := by simpa using hj
  refine ⟨?_, by simp [World.frozen?, hb]⟩
  have h1 : (cur.toList.take ss.length)[j]? = (ss.map encW)[j]? := by rw [ht]
  rw [List.getElem?_take_of_lt hj'] at h1
  simp only [World.cell?, hb, Nat.zero_add]
  simp only [Option.isSome_none, Bool.false_eq_true, if_false]
  rw [← Array.getElem?_toList, h1]
  simp [hj']

theorem take_putCellsW (cur : Array Value) (ts : List Nat) (h : ts.length ≤ cur.size) : (putCells encW 0 ts.toArray cur).toList.take ts.length = ts.map encW := by
  apply List.ext_getElem?
  intro j
  by_cases hj : j < ts.length
  · rw [List.getElem?_take_of_lt hj, Array.getElem?_toList]
    simp [putCells, hj, show j < cur.size by omega]
  · rw [List.getElem?_take_eq_none (by omega), List.getElem?_eq_none (by simp; omega)]

theorem heap_sortedW {w : World} {g n : Nat} {os : Array Obj} {cur : Array Value} {e : TypeId} {fr : Nat × Nat} (d : Array Nat) (hb : w.heap[g]? = some (.cells cur e fr)) :
    (sortWorld encW w g 0 n d os).heap[g]? = some (.cells (putCells encW 0 d cur) e fr) := by
  have hg : g < w.heap.size := (Array.getElem?_eq_some_iff.1 hb).1
  unfold sortWorld
  rw [heap_grow_old _ _ (by simpa using hg)]
  simp [putRow, mapBlock, Sort.ahead, Array.getElem?_modify, hb, onCells]

theorem keeps_sortedW {w : World} {g n : Nat} {os : Array Obj} (d : Array Nat) : Keeps (fun b => b = g) w (sortWorld encW w g 0 n d os) := by
  unfold sortWorld
  refine ⟨rfl, rfl, rfl, by simp, fun k hk hne => ?_⟩
  rw [heap_grow_old _ _ (by simpa using hk)]
  have : g ≠ k := fun e => hne e.symm
  simp [putRow, mapBlock, Sort.ahead, Array.getElem?_modify, this]

theorem cmpLaysW (blk off size : Nat) (w : World) : CmpLays1 Tryz.prog 59 #[] encW cmpW blk off size w := by
  intro m os dk hs x y
  refine (checked1_any _ x y).mono ?_
  rintro e w' ⟨he, hk, hd⟩
  refine ⟨he, ?_⟩
  obtain ⟨q, os', hw⟩ := grow_of_keeps hk hd
  exact ⟨q, os', hw⟩

theorem sort_any (w : World) (base : Nat) (T : TypeId) (v : Value) (ws : List Nat) (hown : w.ownsRow base T 1 v ws.length (ws.map encW)) (hlen : ws.length < 4611686018427387904) :
    Calls Tryz.prog 58 #[v, .func (.func 59) #[] #[]] w fun e w' => e = .returned (.tuple #[]) ∧ ∃ ws' : List Nat, ws'.Perm ws ∧ ws'.Pairwise (fun a b => ¬ cmpW b a < 0) ∧ w'.ownsRow base T 1 v ws'.length (ws'.map encW) ∧ Keeps (fun b => v.ownBlock = some b) w w' := by
  have eg : ∀ args w, (callFunc 59 args).run Tryz.prog w = .ok (.enter 59 args) w := enters_of Tryz.func59 (by kernel_rfl) rfl
  rcases hown.2 with ⟨rfl, h0⟩ | ⟨g, cap, cur, rfl, hb, hg, hn, hm, hs, ht⟩
  · have hz : ws = [] := List.length_eq_zero_iff.1 h0
    subst hz
    refine (Tryz.slices_SortFunc_none (α := Nat) none 0 _ w).mono ?_
    rintro e w' ⟨rfl, rfl⟩
    exact ⟨rfl, [], List.Perm.refl _, List.Pairwise.nil, World.ownsRow_nil _ _ _ _, Keeps.refl _ _⟩
  · have ht' : cur.toList.take ws.length = ws.map encW := by simpa using ht
    have hH := holdsW_of_block hg ht'
    have hl := lt_of_heap hg
    have hc := Tryz.slices_SortFunc encW (fun _ => rfl) cmpW swoW 59 #[] g 0 cap ws.toArray w eg (cmpLaysW g 0 _ w) hH hl (by simpa using hlen)
    simp only [List.size_toArray] at hc
    refine hc.mono ?_
    rintro e w' ⟨rfl, d', n, os, hp, hsort, rfl⟩
    obtain ⟨hsz, _, hperm⟩ := hp
    simp only [List.size_toArray] at hsz
    have hd : (d'.extract 0 ws.length).toList = d'.toList := by rw [← hsz]; simp
    have hd2 : (ws.toArray.extract 0 ws.length).toList = ws := by simp
    rw [hd, hd2] at hperm
    refine ⟨rfl, d'.toList, hperm, ?_, ?_, (keeps_sortedW _).mono (fun i _ h => by subst h; rfl)⟩
    · rw [List.pairwise_iff_getElem]
      intro i j hi hj hij
      have hj' : j < d'.size := by simpa using hj
      have := hsort i j (by omega) hij (by omega)
      unfold ltOf at this
      rw [decide_eq_false_iff_not, getElem!_pos d' i (by omega), getElem!_pos d' j hj'] at this
      simpa using this
    · have hll : d'.toList.length = ws.length := by simpa using hsz
      refine ⟨by simp, .inr ⟨g, cap, _, by rw [hll], hb, heap_sortedW d' hg, by rw [hll]; exact hn, hm, by simp [putCells, hs], ?_⟩⟩
      have := take_putCellsW cur d'.toList (by omega)
      simpa using this

end Go.Proofs.YtjcgkmodmjckjaaGreat

namespace Go.Proofs.YtjcgkmodmjckjaaGreat
open Go.RowKit Go.Shelf
attribute [local go_sem] Oper.semAt_some

theorem Tryz.info_u32 : (Tryz.prog.info? 60).map (fun i => (i.zero, i.size, i.bytes)) = some (some (.int .u32 0), 1, 4) := by kernel_rfl

def seenL (seen : List Nat) : List (Int × Value) := seen.map fun x : Nat => ((x : Int), Value.agg #[])

theorem seenL_nodup {l : List Nat} (h : l.Nodup) : ((seenL l).map Prod.fst).Nodup := by
  unfold seenL
  rw [List.map_map]
  have e : (Prod.fst ∘ fun x : Nat => ((x : Int), Value.agg #[])) = fun x : Nat => (x : Int) := rfl
  rw [e]
  exact List.Pairwise.map _ (fun a b hab => by omega) h
theorem seenL_mem {l : List Nat} {x : Nat} (h : x ∈ l) : ((x : Int), Value.agg #[]) ∈ seenL l := List.mem_map.2 ⟨x, h, rfl⟩
theorem seenL_miss {l : List Nat} {x : Nat} (h : x ∉ l) : ∀ p ∈ seenL l, p.1 ≠ (x : Int) := by
  intro p hp e
  obtain ⟨y, hy, rfl⟩ := List.mem_map.1 hp
  have : y = x := by simp only at e; omega
  exact h (this ▸ hy)

theorem wsteps_le (ops : List Wop) (s : Nat) : (wsteps ops s).length ≤ ops.length := by
  have h := congrArg List.length (wsteps_nexts ops s)
  rw [List.length_map] at h
  rw [h]
  unfold nexts
  rw [List.length_map]
  exact List.length_filter_le _ _

/-- What All knows between two steps. -/
structure AllS (w0 : World) (b1 b2 b3 : Nat) (stk seen out : List Nat) (vs vo : Value) (W : World) : Prop where
  keep : Keeps (fun _ => False) w0 W
  x1 : Boxed W b1 51 vs
  x3 : Boxed W b3 143 (.map (some b2))
  stack : W.ownsRow w0.heap.size 60 1 vs stk.length (stk.map encW)
  map : IMap W b2 .u32 (seenL seen)
  out : W.ownsRow w0.heap.size 60 1 vo out.length (out.map encW)
  apart : ∀ k, vs.ownBlock = some k → vo.ownBlock ≠ some k
  some_ : vs ≠ .slice none 0 0
  l1 : w0.heap.size ≤ b1
  l2 : w0.heap.size ≤ b2
  l3 : w0.heap.size ≤ b3

theorem AllS.by {w0 : World} {b1 b2 b3 : Nat} {stk seen out : List Nat} {vs vo : Value} {W W' : World} {S : Nat → Prop} (h : AllS w0 b1 b2 b3 stk seen out vs vo W) (hk : Keeps S W W')
    (s1 : ¬ S b1) (s2 : ¬ S b2) (s3 : ¬ S b3) (ss : ∀ k, vs.ownBlock = some k → ¬ S k) (so : ∀ k, vo.ownBlock = some k → ¬ S k) (hS : ∀ k, S k → w0.heap.size ≤ k) : AllS w0 b1 b2 b3 stk seen out vs vo W' :=
  ⟨h.keep.trans' hk (fun i hi => .inr (hS i hi)), hk.heap h.x1 s1, hk.heap h.x3 s3, hk.ownsRow h.stack ss, h.map.keeps hk s2, hk.ownsRow h.out so, h.apart, h.some_, h.l1, h.l2, h.l3⟩
theorem AllS.keeps0 {w0 : World} {b1 b2 b3 : Nat} {stk seen out : List Nat} {vs vo : Value} {W W' : World} (h : AllS w0 b1 b2 b3 stk seen out vs vo W) (hk : Keeps (fun _ => False) W W') : AllS w0 b1 b2 b3 stk seen out vs vo W' :=
  h.by hk (fun h => h) (fun h => h) (fun h => h) (fun _ _ h => h) (fun _ _ h => h) (fun _ h => h.elim)

section
variable {w0 : World} {b1 b2 b3 : Nat} {stk seen out : List Nat} {vs vo : Value} {W : World}
theorem AllS.row1 (h : AllS w0 b1 b2 b3 stk seen out vs vo W) : vs.ownBlock ≠ some b1 := fun e => h.x1.not_row (by decide) h.stack e.symm
theorem AllS.row3 (h : AllS w0 b1 b2 b3 stk seen out vs vo W) : vs.ownBlock ≠ some b3 := fun e => h.x3.not_row (by decide) h.stack e.symm
theorem AllS.orow1 (h : AllS w0 b1 b2 b3 stk seen out vs vo W) : vo.ownBlock ≠ some b1 := fun e => h.x1.not_row (by decide) h.out e.symm
theorem AllS.orow3 (h : AllS w0 b1 b2 b3 stk seen out vs vo W) : vo.ownBlock ≠ some b3 := fun e => h.x3.not_row (by decide) h.out e.symm
theorem not_map {base : Nat} {e : TypeId} {size n : Nat} {v : Value} {xs : List Value} {kd : IntKind} {l : List (Int × Value)} {b : Nat} (hm : IMap W b kd l) (hr : W.ownsRow base e size v n xs) : v.ownBlock ≠ some b := by
  intro e'
  rcases hr.2 with ⟨rfl, _⟩ | ⟨g, cap, cur, rfl, _, hgg, _⟩
  · simp [Value.ownBlock] at e'
  · simp [Value.ownBlock] at e'; subst e'
    obtain ⟨es, c, hb, _⟩ := hm
    rw [hgg] at hb; cases hb
theorem box_not_map {t : TypeId} {v : Value} {kd : IntKind} {l : List (Int × Value)} {b c : Nat} (hm : IMap W b kd l) (hx : Boxed W c t v) : b ≠ c := by
  rintro rfl
  obtain ⟨es, c, hb, _⟩ := hm
  rw [show W.heap[b]? = _ from hx] at hb; cases hb
theorem AllS.box13 (h : AllS w0 b1 b2 b3 stk seen out vs vo W) : b1 ≠ b3 := by
  rintro rfl
  have := (show W.heap[b1]? = _ from h.x1).symm.trans h.x3
  simp at this

/-- The last of the stack is taken. -/
theorem AllS.pop {g n cap : Nat} {x : Nat} (h : AllS w0 b1 b2 b3 (stk ++ [x]) seen out (.slice (some ⟨g, 0, none⟩) (n + 1) cap) vo W) (hn : stk.length = n) :
    AllS w0 b1 b2 b3 stk seen out (.slice (some ⟨g, 0, none⟩) n cap) vo (W.setCell ⟨b1, 0, none⟩ (.slice (some ⟨g, 0, none⟩) n cap)) := by
  have hk : Keeps (fun b => b = b1) W (W.setCell ⟨b1, 0, none⟩ (.slice (some ⟨g, 0, none⟩) n cap)) := (Keeps.refl (fun b => b = b1) W).setCell (p := ⟨b1, 0, none⟩) (.inl rfl) _
  have hs := h.stack
  rw [List.length_append, List.map_append, List.length_singleton, hn] at hs
  have hr := ownsRow_init hs
  refine ⟨h.keep.trans' hk (fun i hi => .inr (by subst hi; exact h.l1)), h.x1.set _, hk.heap h.x3 (fun e => h.box13 e.symm), ?_, h.map.keeps hk (box_not_map h.map h.x1), hk.ownsRow h.out (fun k hk' e => by subst e; exact h.orow1 hk'), h.apart, by simp, h.l1, h.l2, h.l3⟩
  rw [hn]
  refine hk.ownsRow hr (fun k hk' e => by subst e; exact h.row1 (by simpa [Value.ownBlock] using hk'))

theorem lt_of_heap_map {b : Nat} {kd : IntKind} {l : List (Int × Value)} (h : IMap W b kd l) : b < W.heap.size := h.lt
/-- Blocks that are no cells and lie beyond may turn. -/
theorem AllS.steady {W' : World} {row : Option Nat} {B : Nat} (h : AllS w0 b1 b2 b3 stk seen out vs vo W) (hg : W.grownBy W' row) (hr : ∀ r, row = some r → B ≤ r ∧ ∃ o : Obj, W.heap[r]? = some o ∧ o.isCells = false) (hB : w0.heap.size ≤ B) (hb2 : b2 < B) : AllS w0 b1 b2 b3 stk seen out vs vo W' :=
  ⟨steady_keeps0 hg (fun r e => (hr r e).1) hB h.keep, steady_heap hg (fun r e => (hr r e).2) h.x1, steady_heap hg (fun r e => (hr r e).2) h.x3, steady_row hg (fun r e => (hr r e).2) h.stack, steady_map hg (fun r e => (hr r e).1) hb2 h.map, steady_row hg (fun r e => (hr r e).2) h.out, h.apart, h.some_, h.l1, h.l2, h.l3⟩

/-- One more is put out. -/
theorem AllS.put {W3 : World} {o : Obj} {gg m cap x : Nat} (h : AllS w0 b1 b2 b3 stk seen out vs vo W) (hm : out.length + 1 = m) (hown : W3.ownsRow w0.heap.size 60 1 (.slice (some ⟨gg, 0, none⟩) m cap) m (out.map encW ++ [encW x]))
    (hg : (W.alloc o).grownBy W3 vo.ownBlock) (hat : vo.ownBlock = some gg ∨ gg = W.heap.size + 1) : AllS w0 b1 b2 b3 stk seen (out ++ [x]) vs (.slice (some ⟨gg, 0, none⟩) m cap) W3 := by
  have h' := h.keeps0 ((Keeps.refl (fun _ => False) W).alloc o)
  have hk : Keeps (fun b => vo.ownBlock = some b) (W.alloc o) W3 := (Keeps.refl _ _).grown hg (fun k hk => .inl hk)
  refine ⟨h'.keep.trans' hk (fun i e => .inr (World.ownsRow.lt h.out i e).1), hk.heap h'.x1 h.orow1, hk.heap h'.x3 h.orow3, hk.ownsRow h'.stack (fun k hk' e => h.apart k hk' e), h'.map.keeps hk (not_map h.map h.out), ?_, ?_, h.some_, h.l1, h.l2, h.l3⟩
  · rw [List.length_append, List.length_singleton, hm, List.map_append]; exact hown
  · intro k hk' e
    simp [Value.ownBlock] at e
    subst e
    rcases hat with e | e
    · exact h.apart gg hk' e
    · have := (World.ownsRow.lt h.stack gg hk').2; omega

/-- One more is put on the stack. -/
theorem AllS.push {W3 : World} {o : Obj} {gg m cap x : Nat} (h : AllS w0 b1 b2 b3 stk seen out vs vo W) (hm : stk.length + 1 = m) (hown : W3.ownsRow w0.heap.size 60 1 (.slice (some ⟨gg, 0, none⟩) m cap) m (stk.map encW ++ [encW x]))
    (hg : (W.alloc o).grownBy W3 vs.ownBlock) (hat : vs.ownBlock = some gg ∨ gg = W.heap.size + 1) : AllS w0 b1 b2 b3 (stk ++ [x]) seen out (.slice (some ⟨gg, 0, none⟩) m cap) vo (W3.setCell ⟨b1, 0, none⟩ (.slice (some ⟨gg, 0, none⟩) m cap)) := by
  have h' := h.keeps0 ((Keeps.refl (fun _ => False) W).alloc o)
  have hk1 : Keeps (fun b => vs.ownBlock = some b) (W.alloc o) W3 := (Keeps.refl _ _).grown hg (fun k hk => .inl hk)
  have hx1 : Boxed W3 b1 51 vs := hk1.heap h'.x1 h.row1
  have hk2 : Keeps (fun b => b = b1) W3 (W3.setCell ⟨b1, 0, none⟩ (.slice (some ⟨gg, 0, none⟩) m cap)) := (Keeps.refl (fun b => b = b1) W3).setCell (p := ⟨b1, 0, none⟩) (.inl rfl) _
  have hgb : gg ≠ b1 := by
    rcases hat with e | e
    · intro e'; exact h.row1 (by rw [e, e'])
    · have := h.x1.lt; omega
  have ho : W3.ownsRow w0.heap.size 60 1 vo out.length (out.map encW) := hk1.ownsRow h'.out (fun k hk' e => h.apart k e hk')
  refine ⟨(h'.keep.trans' hk1 (fun i e => .inr (World.ownsRow.lt h.stack i e).1)).trans' hk2 (fun i e => .inr (by subst e; exact h.l1)), hx1.set _, hk2.heap (hk1.heap h'.x3 h.row3) (fun e => h.box13 e.symm), ?_, (h'.map.keeps hk1 (not_map h.map h.stack)).keeps hk2 (box_not_map h.map h.x1), hk2.ownsRow ho (fun k hk' e => by subst e; exact h.orow1 hk'), ?_, by simp, h.l1, h.l2, h.l3⟩
  · rw [List.length_append, List.length_singleton, hm, List.map_append]
    exact hk2.ownsRow hown (fun k hk' e => by simp [Value.ownBlock] at hk'; omega)
  · intro k hk' e
    simp [Value.ownBlock] at hk'
    subst hk'
    rcases hat with e' | e'
    · exact h.apart gg e' e
    · have := (World.ownsRow.lt h.out gg e).2; omega

/-- One more is seen. -/
theorem AllS.see {W' : World} {x : Nat} (h : AllS w0 b1 b2 b3 stk seen out vs vo W) (hI : IMap W' b2 .u32 (seenL seen ++ [((x : Int), .agg #[])])) (hk : Keeps (fun k => k = b2) W W') : AllS w0 b1 b2 b3 stk (seen ++ [x]) out vs vo W' :=
  ⟨h.keep.trans' hk (fun i e => .inr (by subst e; exact h.l2)), hk.heap h.x1 (fun e => box_not_map h.map h.x1 e.symm), hk.heap h.x3 (fun e => box_not_map h.map h.x3 e.symm), hk.ownsRow h.stack (fun k hk' e => by subst e; exact not_map h.map h.stack hk'),
    by simpa [seenL] using hI, hk.ownsRow h.out (fun k hk' e => by subst e; exact not_map h.map h.out hk'), h.apart, h.some_, h.l1, h.l2, h.l3⟩
end

def sliceLen : Value → Nat
  | .slice _ n _ => n
  | _ => 0

structure AllLoop (ops : List Wop) (st : Nat) (w0 : World) (b1 b2 b3 : Nat) (stk seen out : List Nat) (vs vo : Value) (ds : List Deferred) (W : World) : Prop where
  s : AllS w0 b1 b2 b3 stk seen out vs vo W
  dfs : Dfs ops st stk seen out
  few : seen.length ≤ 2000
  small : ∀ x ∈ seen, x < 4294967296
  marks : Marks ds W w0.heap.size

/-- Within the loop over the steps of x, when the words l have come. -/
def AllI (w0 : World) (b1 b2 b3 : Nat) (stk seen out : List Nat) (x : Nat) (vo : Value) (ds : List Deferred) (Bs : Nat) (l : List Nat) (W : World) : Prop :=
  ∃ vs, AllS w0 b1 b2 b3 (stk ++ freshs seen l) (seen ++ freshs seen l) (out ++ [x]) vs vo W ∧ Marks ds W w0.heap.size ∧ W.heap[Bs]? = some (.cells #[.int .u32 (x : Int)] 60 (0, 0)) ∧ ∀ k, vs.ownBlock = some k → k ≠ Bs

/-- What All hands back. -/
def AllPost (ops : List Wop) (st : Nat) (w : World) (e : Ending) (w' : World) : Prop := Keeps (fun _ => False) w w' ∧
  ((reached ops st = none ∧ e = .returned (.tuple #[.slice none 0 0, .bool false])) ∨
   (∃ l, reached ops st = some l ∧ ∃ (v' : Value) (out : List Nat), e = .returned (.tuple #[v', .bool true]) ∧ out.Perm l ∧ w'.ownsRow w.heap.size 60 1 v' out.length (out.map encW)))

set_option maxRecDepth 100000 in
set_option maxHeartbeats 4000000 in
theorem all_in (w : World) (b st g0 base : Nat) (v : Value) (ops : List Wop) (hw : WordsAt w base b st g0 v ops) (hops : WopsOk ops) (hmany : ops.length ≤ 40) (hst : st < 4294967296) :
    CallsIn Fence.wide 9 Tryz.prog 57 #[.iface 50 (.pointer (some ⟨b, 0, none⟩))] w (AllPost ops st w) := by
  have HW := Lib.hid hw
  have hmm := @run_makeMap Tryz.prog
  have mS := method_Start ⟨b, 0, none⟩
  have mT := method_Steps ⟨b, 0, none⟩
  clear hw
  refine callsIn_of_wp_marks Tryz.func57 rfl trivial ?_ rfl
  simp only [Tryz.ntmps57, List.size_toArray, List.length_cons, List.length_nil, Nat.reduceAdd, Nat.reduceSub, Array.replicate_succ, Array.replicate_zero, List.push_toArray, List.append_toArray, List.nil_append, List.cons_append]
  gi_wp2
  refine ⟨trivial, ?_⟩
  refine (callsIn_wide.2 (start_any _ _ _ _ _ _ _ HW.out)).mono ?_; rintro e w1 ⟨rfl, rfl⟩
  gi_wp2
  have kA := (((Keeps.refl (fun _ => False) w).alloc (.cells #[.int .u32 (st : Int)] 60)).alloc (.cells #[.slice (some ⟨w.heap.size, 0, none⟩) 1 1] 51))
  have kB := kA.alloc (.map #[] 0)
  refine ⟨trivial, ?_⟩
  refine (callsIn_wide.2 (start_any _ _ _ _ _ _ _ (HW.out.keeps0 kB))).mono ?_; rintro e w1 ⟨rfl, rfl⟩
  have hm0 : IMap (((w.alloc (.cells #[.int .u32 (st : Int)] 60)).alloc (.cells #[.slice (some ⟨w.heap.size, 0, none⟩) 1 1] 51)).alloc (.map #[] 0)) (w.heap.size + 1 + 1) .u32 [] := by
    have := IMap.made ((w.alloc (.cells #[.int .u32 (st : Int)] 60)).alloc (.cells #[.slice (some ⟨w.heap.size, 0, none⟩) 1 1] 51)) .u32
    rwa [World.size_alloc, World.size_alloc] at this
  obtain ⟨W4, hrun, hI4, hk4⟩ := hm0.run_update_new (P := Tryz.prog) Tryz.underlying143 Tryz.underlying60 (x := (st : Int)) (by simp) (.agg #[])
  have hx0 := heap_alloc_new w (.cells #[.int .u32 (st : Int)] 60)
  have hx1 := heap_alloc_new (w.alloc (.cells #[.int .u32 (st : Int)] 60)) (.cells #[.slice (some ⟨w.heap.size, 0, none⟩) 1 1] 51)
  rw [World.size_alloc] at hx1
  have hS : AllS w (w.heap.size + 1) (w.heap.size + 1 + 1) W4.heap.size [st] [st] [] (.slice (some ⟨w.heap.size, 0, none⟩) 1 1) (.slice none 0 0) (W4.alloc (.cells #[.map (some (w.heap.size + 1 + 1))] 143)) := by
    have n0 : ¬ w.heap.size = w.heap.size + 1 + 1 := by omega
    have n1 : ¬ w.heap.size + 1 = w.heap.size + 1 + 1 := by omega
    have g0 := hk4.heap (((Below.heap_alloc _ _ _ (by simp; omega)).trans ((Below.heap_alloc _ _ _ (by simp)).trans hx0))) n0
    have g1 := hk4.heap ((Below.heap_alloc _ _ _ (by simp)).trans hx1) n1
    have a0 := ((Keeps.refl (fun _ => False) W4).alloc (.cells #[.map (some (w.heap.size + 1 + 1))] 143))
    refine ⟨(kB.trans' hk4 (fun i e => .inr (by omega))).alloc _, a0.heap g1 (fun h => h), Boxed.new W4 _ _, ?_, ?_, World.ownsRow_nil _ _ _ _, fun k _ => by simp [Value.ownBlock], by simp, by omega, by omega, ?_⟩
    · exact ⟨by simp, .inr ⟨w.heap.size, 1, _, rfl, Nat.le_refl _, a0.heap g0 (fun h => h), by simp, by unfold maxLen; omega, by simp, by simp [encW]⟩⟩
    · have := hI4.alloc (.cells #[.map (some (w.heap.size + 1 + 1))] 143)
      simpa [seenL] using this
    · have := hk4.size; simp at this; omega
  have HS := Lib.hid hS
  have HK4 := Lib.hid hk4
  clear hS hI4 hx0 hx1 hm0 kA kB hk4
  gi_wp2
  generalize W4.heap.size = b3 at HS ⊢
  generalize (W4.alloc (.cells #[.map (some (w.heap.size + 1 + 1))] 143)) = W5 at HS ⊢
  generalize w.heap.size + 1 + 1 = b2 at HS ⊢
  generalize w.heap.size + 1 = b1 at HS ⊢
  clear hrun HK4
  obtain ⟨i0, hi0, hz0, hz1, hz2⟩ := info_parts Tryz.info_u32
  refine wpIn_loop (fun a' wr => ∃ (ds : List Deferred) (u6 u7 u8 u9 u10 u11 u12 u13 u14 u15 u16 u17 u18 u19 u20 u21 u22 u23 u24 u25 u26 u27 u28 u29 u30 u31 u32 u33 u34 u35 u36 u37 u38 u39 u40 u41 u42 u43 u44 u45 u46 u47 u48 u49 u50 u51 u52 u53 u54 u55 u56 u57 u58 u59 u60 u61 u62 : Value) (stk seen out : List Nat) (vs : Value), AllLoop ops st w b1 b2 b3 stk seen out vs u6 ds wr ∧
      a' = { tmps := #[.iface 50 (.pointer (some ⟨b, 0, none⟩)), undef, .slice none 0 0, .bool false, .pointer (some ⟨b1, 0, none⟩), .pointer (some ⟨b3, 0, none⟩), u6, u7, u8, u9, u10, u11, u12, u13, u14, u15, u16, u17, u18, u19, u20, u21, u22, u23, u24, u25, u26, u27, u28, u29, u30, u31, u32, u33, u34, u35, u36, u37, u38, u39, u40, u41, u42, u43, u44, u45, u46, u47, u48, u49, u50, u51, u52, u53, u54, u55, u56, u57, u58, u59, u60, u61, u62], defers := ds })
    (fun a' _ => 2001 - sliceLen (a'.tmps.getD 6 undef)) ?start ?round
  case start => exact ⟨[], _, _, _, _, _, _, _, _, _, _, _, _, _, _, _, _, _, _, _, _, _, _, _, _, _, _, _, _, _, _, _, _, _, _, _, _, _, _, _, _, _, _, _, _, _, _, _, _, _, _, _, _, _, _, _, _, _, [st], [st], [], _, ⟨HS.out, Dfs.start ops st, by simp, by simpa using hst, Marks.nil _ _⟩, rfl⟩
  case round =>
    rintro a wr ⟨ds, u6, u7, u8, u9, u10, u11, u12, u13, u14, u15, u16, u17, u18, u19, u20, u21, u22, u23, u24, u25, u26, u27, u28, u29, u30, u31, u32, u33, u34, u35, u36, u37, u38, u39, u40, u41, u42, u43, u44, u45, u46, u47, u48, u49, u50, u51, u52, u53, u54, u55, u56, u57, u58, u59, u60, u61, u62, stk, seen, out, vs, hL, rfl⟩
    have HL := Lib.hid hL
    clear hL
    have x1c := HL.out.s.x1.cell
    have x1f := HL.out.s.x1.frozen
    have x3c := HL.out.s.x3.cell
    by_cases hstk : stk = []
    · subst hstk
      obtain ⟨g1, c1, hv⟩ := ownsRow_form1 HL.out.s.stack
      subst hv
      gi_wp2
      refine leaves_marks HL.out.marks (fun W' hk => ?_)
      obtain ⟨l, hl1, hl2⟩ := HL.out.dfs.found HL.out.few
      refine ⟨.tuple #[u6, .bool true], by simp [results, Tryz.results57, go_sem], HL.out.s.keep.trans' hk (fun i hi => .inr hi.1), .inr ⟨l, hl1, u6, out, rfl, hl2, hk.ownsRow HL.out.s.out (fun k hk' hs => row_not_deferred HL.out.s.out k hk' hs.2)⟩⟩
    · obtain ⟨stk', x, rfl⟩ : ∃ stk' x, stk = stk' ++ [x] := ⟨stk.dropLast, stk.getLast hstk, (List.dropLast_concat_getLast hstk).symm⟩
      have hsv := HL.out.s.stack
      rw [List.length_append, List.map_append, List.length_singleton] at hsv
      obtain ⟨g, cap, hv, hg1, hg2⟩ := hsv.form (by omega)
      subst hv
      have hcx : wr.cell? ⟨g, stk'.length, none⟩ = some (encW x) := by
        have := World.ownsRow.cells hsv (g := g) rfl stk'.length (encW x) (by rw [List.getElem?_append_right (by simp)]; simp)
        have hadd : (⟨g, 0, none⟩ : Addr).add stk'.length = ⟨g, stk'.length, none⟩ := by unfold Addr.add; split <;> simp_all
        rwa [hadd] at this
      have hin := ownsRow_init hsv
      have hcap : stk'.length + 1 ≤ cap := by
        rcases hsv.2 with ⟨_, h0⟩ | ⟨_, _, _, hv', _, _, hn', _⟩
        · omega
        · simp only [Value.slice.injEq] at hv'; obtain ⟨_, _, rfl⟩ := hv'; exact hn'
      have hcapi : (stk'.length : Int) ≤ (cap : Int) := by omega
      have hbig : stk'.length ≤ 2000 := by
        have h1 := HL.out.dfs.perm.length_eq
        have h2 := HL.out.few
        simp at h1; omega
      have hout : out.length ≤ 2000 := by
        have h1 := HL.out.dfs.perm.length_eq
        have h2 := HL.out.few
        simp at h1; omega
      unfold encW at hcx
      have HSV := Lib.hid hsv; have HIN := Lib.hid hin
      clear hsv hin hstk
      have HP := Lib.hid (HL.out.s.pop (n := stk'.length) rfl)
      have HPO := Lib.hid (HP.out.out.alloc (.cells #[.int .u32 (x : Int)] 60))
      have hsz : (wr.setCell ⟨b1, 0, none⟩ (.slice (some ⟨g, 0, none⟩) stk'.length cap)).heap.size = wr.heap.size := by simp
      have hlow : w.heap.size ≤ wr.heap.size := HL.out.s.keep.size
      gi_wp2_with (gi_at_builtin; refine wpListIn_append_lies _ rfl (.tmp 33) (.tmp 35) 51 rfl w.heap.size 60 i0 _ 1 4 Tryz.underlying51 hi0 hz0 hz1 hz2 rfl (by omega) u6 out.length (out.map encW) rfl HPO.out ⟨wr.heap.size, 0, none⟩ 1 1 [.int .u32 (x : Int)] rfl rfl ?hnews ?hone (by omega) (by unfold maxLen; omega) (by omega) (by simp; omega) (wr.heap.size + 1) (by simp) ?_)
      case hnews =>
        have := World.news_of_block (cs := #[.int .u32 (x : Int)]) (t := 60) (fr := (0, 0)) (heap_alloc_new (wr.setCell ⟨b1, 0, none⟩ (.slice (some ⟨g, 0, none⟩) stk'.length cap)) (.cells #[.int .u32 (x : Int)] 60))
        rwa [hsz] at this
      case hone => simp [Value.oneCell']
      intro g2 cap2 w3 hown hgrow hat hlt3
      have HA := Lib.hid (HP.out.put (x := x) rfl hown hgrow (by rw [hsz]; exact hat))
      have HD := Lib.hid (show KeepsD wr w3 from by
        have k1 : Keeps (fun b => b = b1) wr (wr.setCell ⟨b1, 0, none⟩ (.slice (some ⟨g, 0, none⟩) stk'.length cap)) := (Keeps.refl (fun b => b = b1) wr).setCell (p := ⟨b1, 0, none⟩) (.inl rfl) _
        have k2 : Keeps (fun b => u6.ownBlock = some b) ((wr.setCell ⟨b1, 0, none⟩ (.slice (some ⟨g, 0, none⟩) stk'.length cap)).alloc (.cells #[.int .u32 (x : Int)] 60)) w3 := (Keeps.refl _ _).grown hgrow (fun k hk => .inl hk)
        exact (KeepsD.of k1 (fun b e => by subst e; exact cells_not_deferred HL.out.s.x1)).trans ((KeepsD.of0 ((Keeps.refl _ _).alloc _)).trans (KeepsD.of k2 (fun b e => row_not_deferred HPO.out b e))))
      have HDF := Lib.hid HL.out.dfs.step
      have hx32 : x < 4294967296 := HL.out.small x (HL.out.dfs.perm.mem_iff.2 (by simp))
      have HM := Lib.hid (HL.out.marks.keeps HD.out)
      obtain ⟨ao6, c6, h6⟩ := ownsRow_form1 HL.out.s.out
      have H6 := Lib.hid h6
      clear h6
      have HND := Lib.hid HL.out.dfs.nodup
      have HWL := Lib.hid (show (wsteps ops x).length ≤ 40 from Nat.le_trans (wsteps_le ops x) hmany)
      have HFEW := Lib.hid HL.out.few; have HSM := Lib.hid HL.out.small
      clear hown hgrow hat hlt3 hcx x1c x1f x3c hg1 hg2 hsz HPO HP HIN HSV HD HL
      gi_wp2
      refine ⟨trivial, ?_⟩
      refine (callsIn_wide.2 (steps_any w3 b x)).mono ?_; rintro e w4 ⟨rfl, rfl⟩
      gi_wp2
      obtain ⟨W6, hW6⟩ : ∃ W6, ((w3.alloc (.cells #[.pointer (some ⟨b, 0, none⟩)] 50)).alloc (.cells #[.int .u32 (x : Int)] 60)) = W6 := ⟨_, rfl⟩
      have hz6 : W6.heap.size = w3.heap.size + 1 + 1 := by rw [← hW6]; simp
      have k6 : Keeps (fun _ => False) w3 W6 := by rw [← hW6]; exact ((Keeps.refl _ _).alloc _).alloc _
      have hBw : W6.cell? ⟨w3.heap.size, 0, none⟩ = some (.pointer (some ⟨b, 0, none⟩)) := by
        rw [← hW6]; exact ((Boxed.new w3 _ _).alloc _).cell
      have hBs : W6.heap[w3.heap.size + 1]? = some (.cells #[.int .u32 (x : Int)] 60 (0, 0)) := by
        rw [← hW6]
        have := heap_alloc_new (w3.alloc (.cells #[.pointer (some ⟨b, 0, none⟩)] 50)) (.cells #[.int .u32 (x : Int)] 60)
        rwa [World.size_alloc] at this
      have hBsc : W6.cell? ⟨w3.heap.size + 1, 0, none⟩ = some (.int .u32 (x : Int)) := by rw [cell_of_blk hBs]; rfl
      rw [hW6]
      have hlow3 : w.heap.size ≤ w3.heap.size := HA.out.keep.size
      have HA6 := Lib.hid (HA.out.keeps0 k6)
      have HM6 := Lib.hid (HM.out.keeps (KeepsD.of0 k6))
      have HWW := Lib.hid (show ∃ w0 : World, WordsAt w0 base b st g0 v ops ∧ w0.heap.size ≤ w.heap.size ∧ Below w.heap.size w0 W6 from ⟨w, HW.out, Nat.le_refl _, HA6.out.keep.below⟩)
      have hgrow0 : ∀ k, (Value.slice (some ⟨g, 0, none⟩) stk'.length cap).ownBlock = some k → k ≠ w3.heap.size + 1 := fun k hk => by have := (World.ownsRow.lt HA.out.stack k hk).2; omega
      have HG0 := Lib.hid hgrow0
      have HBS := Lib.hid hBs
      clear hgrow0 hBs
      refine wpIn_rangeFunc_ownH (α := StpOf ops x) rfl (by omega) (gf := 190) (lb := #[.pointer (some ⟨w3.heap.size, 0, none⟩), .pointer (some ⟨w3.heap.size + 1, 0, none⟩)]) rfl trivial (enters_of Tryz.func190 (by kernel_rfl) rfl)
        (steps_stops Fence.wide 8 trivial rfl (by omega) w3.heap.size (w3.heap.size + 1) w.heap.size base b st g0 x v ops hops (by omega) hx32 W6 (by omega) hBw hBsc (by omega) (by omega) HWW.out)
        KpS.trans (kpS_b (by omega) (by omega)) (Below.refl _ _) (fun _ => rfl)
        (fun pre W => AllI w b1 b2 b3 stk' seen out x (.slice (some ⟨g2, 0, none⟩) (out.length + 1) cap2) ds (w3.heap.size + 1) (pre.map fun y => y.1.to) W)
        (fun _ _ _ => False) ?hI (fun _ _ _ _ _ hs _ _ => hs) ?h0
        (fun (y : StpOf ops x) (a' : Act) (W : World) => ∃ Bx : Nat, W.heap[Bx]? = some (Obj.cells #[.int .i64 (y.1.op : Int), .int .i64 y.1.cost, .int .u32 (y.1.to : Int)] 153 (0, 0)) ∧ a' = { tmps := #[.iface 50 (.pointer (some ⟨b, 0, none⟩)), undef, .slice none 0 0, .bool false, .pointer (some ⟨b1, 0, none⟩), .pointer (some ⟨b3, 0, none⟩), .slice (some ⟨g2, 0, none⟩) (out.length + 1) cap2, .int .u32 (x : Int), .pointer (some ⟨Bx, 0, none⟩), u9, u10, u11, u12, u13, u14, u15, u16, u17, u18, (.slice (some ⟨g, 0, none⟩) (stk'.length + 1) cap), .int .i64 ((stk'.length : Int) + 1), .bool true, (.slice (some ⟨g, 0, none⟩) (stk'.length + 1) cap), (.slice (some ⟨g, 0, none⟩) (stk'.length + 1) cap), .int .i64 ((stk'.length : Int) + 1), .int .i64 (stk'.length : Int), .pointer (some ⟨g, stk'.length, none⟩), .int .u32 (x : Int), (.slice (some ⟨g, 0, none⟩) (stk'.length + 1) cap), (.slice (some ⟨g, 0, none⟩) (stk'.length + 1) cap), .int .i64 ((stk'.length : Int) + 1), .int .i64 (stk'.length : Int), .slice (some ⟨g, 0, none⟩) stk'.length cap, u6, .int .u32 (x : Int), .slice (some ⟨wr.heap.size, 0, none⟩) 1 1, .slice (some ⟨g2, 0, none⟩) (out.length + 1) cap2, .iface 50 (.pointer (some ⟨b, 0, none⟩)), .int .u32 (x : Int), .func (.func 190) #[] #[.pointer (some ⟨w3.heap.size, 0, none⟩), .pointer (some ⟨w3.heap.size + 1, 0, none⟩)], y.1.val, u41, u42, u43, u44, u45, u46, u47, u48, u49, u50, u51, u52, u53, u54, u55, u56, u57, u58, u59, u60, u61, u62], defers := [] }) ?hAx ?assign ?body ?done ?stop
      case hI =>
        intro l W W' row hs hg hr
        obtain ⟨vs', h1, h2, h3, h4⟩ := hs
        exact ⟨vs', h1.steady hg hr (by omega) (by have := lt_of_heap_map HA6.out.map; omega), Marks.steady HM6.out h2 hg hr, steady_heap hg (fun r e => (hr r e).2) h3, h4⟩
      case h0 => exact ⟨_, by simpa [freshs] using HA6.out, HM6.out, HBS.out, HG0.out⟩
      case hAx =>
        intro y a' _ W W' row hs hg hr
        obtain ⟨Bx, h1, h2⟩ := hs
        exact ⟨Bx, steady_heap hg (fun r e => (hr r e).2) h1, h2⟩
      case assign =>
        intro l pre y W K hi hK
        simp only [Stp.val]
        gi_wp2
        obtain ⟨vs', h1, h2, h3, h4⟩ := hi
        refine hK _ _ ((KeepsOthers.alloc _ _).from _) ((KpS.refl _ _ W).alloc h1.keep.size (lt_of_heap h3) _) ⟨vs', h1.keeps0 ((Keeps.refl _ _).alloc _), h2.keeps (KeepsD.of0 ((Keeps.refl _ _).alloc _)), ((Keeps.refl (fun _ => False) W).alloc _).heap h3 (fun h => h), h4⟩ ⟨W.heap.size, heap_alloc_new W _, rfl⟩
      case body =>
        rintro l pre y a' W hl - ⟨vs', h1, h2, h3, h4⟩ ⟨Bx, hBx, rfl⟩ hlt
        have x1c := h1.x1.cell
        have x1f := h1.x1.frozen
        have x3c := h1.x3.cell
        have y2 : W.cell? ⟨Bx, 2, none⟩ = some (.int .u32 (y.1.to : Int)) := by rw [cell_of_blk hBx]; rfl
        have hBxl := lt_of_heap hBx
        have l1 := h1.x1.lt
        have l3 := h1.x3.lt
        have hnd := nodup_freshs (xs := pre.map fun y => y.1.to) HND.out
        have hsn := freshs_snoc (pre.map fun y => y.1.to) y.1.to seen
        by_cases hm : y.1.to ∈ seen ++ freshs seen (pre.map fun y => y.1.to)
        · have hlk := (h1.map.run_lookup_hit (P := Tryz.prog) Tryz.underlying143 Tryz.underlying60 (seenL_nodup hnd) (seenL_mem hm)).1
          rw [if_pos hm, List.append_nil] at hsn
          have H1 := Lib.hid h1; have H2 := Lib.hid h2; have H3 := Lib.hid h3; have H4 := Lib.hid h4; have HSN := Lib.hid hsn
          clear h1 h2 h3 h4 hsn hm hnd hBx
          gi_wp2
          refine ⟨(KeepsOthers.alloc _ _).from _, (KpS.refl _ _ W).alloc H1.out.keep.size (lt_of_heap H3.out) _, ⟨vs', ?_, H2.out.keeps (KeepsD.of0 ((Keeps.refl _ _).alloc _)), ((Keeps.refl (fun _ => False) W).alloc _).heap H3.out (fun h => h), H4.out⟩⟩
          have e : freshs seen ((pre ++ [y]).map fun y => y.1.to) = freshs seen (pre.map fun y => y.1.to) := by rw [List.map_append]; exact HSN.out
          rw [e]
          exact H1.out.keeps0 ((Keeps.refl _ _).alloc _)
        · have kal := (Keeps.refl (fun _ => False) W).alloc (.cells #[] 148)
          have hlk := ((h1.map).run_lookup_miss (P := Tryz.prog) Tryz.underlying143 Tryz.underlying60 (z := .agg #[]) (by simp [Tryz.zeroValue148]) (seenL_miss hm)).1
          obtain ⟨W1, hrunU, hI1, hK1⟩ := ((h1.map.alloc (.cells #[] 148))).run_update_new (P := Tryz.prog) Tryz.underlying143 Tryz.underlying60 (seenL_miss hm) (.agg #[])
          have hS1 := (h1.keeps0 kal).see (x := y.1.to) hI1 hK1
          have hb2 := box_not_map h1.map h1.x1
          have hbx2 : Bx ≠ b2 := by rintro rfl; obtain ⟨es, c, hb, _⟩ := h1.map; rw [hBx] at hb; cases hb
          have hbs2 : w3.heap.size + 1 ≠ b2 := by rintro rfl; obtain ⟨es, c, hb, _⟩ := h1.map; rw [h3] at hb; cases hb
          have z1c := hS1.x1.cell
          have z1f := hS1.x1.frozen
          have z3c := hS1.x3.cell
          have y2' : W1.cell? ⟨Bx, 2, none⟩ = some (.int .u32 (y.1.to : Int)) := hK1.cell (kal.cell y2 (fun h => h)) hbx2
          have zs := hS1.x1.lt
          have zb := lt_of_heap (hK1.heap (kal.heap hBx (fun h => h)) hbx2)
          rw [if_neg hm] at hsn
          have hfl : (freshs seen (pre.map fun y => y.1.to)).length ≤ 40 := by
            have e1 := freshs_le (seen := seen) (xs := pre.map fun y => y.1.to)
            rw [List.length_map] at e1
            have := HWL.out; omega
          obtain ⟨sk, hsk⟩ : ∃ sk, stk' ++ freshs seen (pre.map fun y => y.1.to) = sk := ⟨_, rfl⟩
          have hlen : sk.length ≤ 2040 := by rw [← hsk, List.length_append]; omega
          rw [hsk] at hS1
          have HSK := Lib.hid hsk
          clear hsk
          have hlowW : w.heap.size ≤ W1.heap.size := hS1.keep.size
          have HROW := Lib.hid (hS1.stack.alloc (.cells #[.int .u32 (y.1.to : Int)] 60))
          have H1 := Lib.hid h1; have H2 := Lib.hid h2; have H3 := Lib.hid h3; have H4 := Lib.hid h4; have HSN := Lib.hid hsn; have HS1 := Lib.hid hS1; have HK1 := Lib.hid hK1; have HNB := Lib.hid hbs2; have HI1 := Lib.hid hI1
          clear h1 h2 h3 h4 hsn hm hnd hBx hS1 hK1 hI1 kal hb2 hbx2 hbs2 hfl
          gi_wp2_with (gi_at_builtin; refine wpListIn_append_lies _ rfl (.tmp 54) (.tmp 57) 51 rfl w.heap.size 60 i0 _ 1 4 Tryz.underlying51 hi0 hz0 hz1 hz2 rfl (by omega) vs' sk.length (sk.map encW) rfl HROW.out ⟨W1.heap.size, 0, none⟩ 1 1 [.int .u32 (y.1.to : Int)] rfl rfl ?hnews2 ?hone2 (by omega) (by unfold maxLen; omega) (by omega) (by simp; omega) (W1.heap.size + 1) (by simp) ?_)
          case hnews2 => exact World.news_of_block (cs := #[.int .u32 (y.1.to : Int)]) (t := 60) (fr := (0, 0)) (heap_alloc_new W1 (.cells #[.int .u32 (y.1.to : Int)] 60))
          case hone2 => simp [Value.oneCell']
          intro g4 cap4 W2 hown2 hgrow2 hat2 hlt2
          have hbx1 : W2.heap[b1]? = some (.cells #[vs'] 51 (0, 0)) := ((Keeps.refl (fun b => vs'.ownBlock = some b) _).grown hgrow2 (fun k hk => .inl hk)).heap (((Keeps.refl (fun _ => False) W1).alloc _).heap HS1.out.x1 (fun h => h)) HS1.out.row1
          have v1c : W2.cell? ⟨b1, 0, none⟩ = some vs' := (cell_of_blk hbx1).trans rfl
          have v1f : W2.frozen? ⟨b1, 0, none⟩ = false := frozen_of_blk hbx1
          have v1l := lt_of_heap hbx1
          have HP2 := Lib.hid (HS1.out.push (x := y.1.to) rfl hown2 hgrow2 hat2)
          have HX1 := Lib.hid hbx1
          have HG2 := Lib.hid hgrow2
          have HAT2 := Lib.hid hat2
          clear hown2 hgrow2 hat2 hlt2 hbx1
          gi_wp2
          have hk : Keeps (fun b => b = b2 ∨ b = b1 ∨ vs'.ownBlock = some b) W (W2.setCell ⟨b1, 0, none⟩ (.slice (some ⟨g4, 0, none⟩) (sk.length + 1) cap4)) := by
            have q1 : Keeps (fun b => b = b2 ∨ b = b1 ∨ vs'.ownBlock = some b) W W1 := (((Keeps.refl (fun _ => False) W).alloc (.cells #[] 148)).mono (fun _ _ h => h.elim)).trans (HK1.out.mono (fun _ _ h => .inl h))
            have q2 : Keeps (fun b => b = b2 ∨ b = b1 ∨ vs'.ownBlock = some b) W1 W2 := (((Keeps.refl (fun _ => False) W1).alloc (.cells #[.int .u32 (y.1.to : Int)] 60)).mono (fun _ _ h => h.elim)).trans (((Keeps.refl (fun b => vs'.ownBlock = some b) _).grown HG2.out (fun k hk => .inl hk)).mono (fun _ _ h => .inr (.inr h)))
            exact (q1.trans q2).trans ((Keeps.refl _ W2).setCell (p := ⟨b1, 0, none⟩) (.inl (.inr (.inl rfl))) _)
          have hS : ∀ b, b = b2 ∨ b = b1 ∨ vs'.ownBlock = some b → w.heap.size ≤ b ∧ b < W6.heap.size + W.heap.size ∧ b ≠ w3.heap.size + 1 ∧ W.heap[b]? ≠ some (.deferred (some [])) ∧ (b = b2 ∨ ∃ cs t fr, W.heap[b]? = some (.cells cs t fr)) := by
            rintro b (rfl | rfl | hb)
            · exact ⟨H1.out.l2, by have := H1.out.map.lt; omega, fun e => HNB.out e.symm, map_not_deferred H1.out.map, .inl rfl⟩
            · refine ⟨H1.out.l1, by have := H1.out.x1.lt; omega, ?_, cells_not_deferred H1.out.x1, .inr ⟨_, _, _, H1.out.x1⟩⟩
              intro e
              have h := (show W.heap[b]? = _ from H1.out.x1)
              rw [e, H3.out] at h
              simp at h
            · refine ⟨(World.ownsRow.lt H1.out.stack b hb).1, by have := (World.ownsRow.lt H1.out.stack b hb).2; omega, H4.out b hb, row_not_deferred H1.out.stack b hb, .inr ?_⟩
              rcases H1.out.stack.2 with ⟨e, _⟩ | ⟨gq, cq, curq, e, _, hgq, _⟩
              · rw [e] at hb; simp [Value.ownBlock] at hb
              · rw [e] at hb; simp [Value.ownBlock] at hb; subst hb; exact ⟨_, _, _, hgq⟩
          refine ⟨⟨hk.size, fun k o hB hk0 hc => ?_⟩, KpS.ofKeeps hk H1.out.keep.size (fun k hlt hs => by have := (hS k hs).1; omega) (lt_of_heap H3.out) (fun hs => (hS _ hs).2.2.1 rfl), ⟨.slice (some ⟨g4, 0, none⟩) (sk.length + 1) cap4, ?_, H2.out.keeps (KeepsD.of hk (fun b hs => (hS b hs).2.2.2.1)), hk.heap H3.out (fun hs => (hS _ hs).2.2.1 rfl), ?_⟩⟩
          · refine hk.heap hk0 (fun hs => ?_)
            rcases (hS k hs).2.2.2.2 with rfl | ⟨cs, t, fr, e⟩
            · have := HA6.out.map.lt; omega
            · rw [e] at hk0; cases hk0; cases hc
          · have e : freshs seen ((pre ++ [y]).map fun y => y.1.to) = freshs seen (pre.map fun y => y.1.to) ++ [y.1.to] := by rw [List.map_append]; exact HSN.out
            rw [e, ← List.append_assoc, ← List.append_assoc, HSK.out]
            exact HP2.out
          · intro k hk' e
            simp [Value.ownBlock] at hk'
            subst hk'
            rcases HAT2.out with e' | e'
            · exact H4.out g4 e' e
            · have := lt_of_heap H3.out; have := HK1.out.size; simp at this; omega
      case done =>
        rintro D ys W hD hys ⟨vs', h1, h2, h3, h4⟩ hd
        have hl : (ys.map fun y => y.1.to) = nexts ops x := by
          have := congrArg (List.map Stp.to) hys
          rw [wsteps_nexts] at this
          rw [← this, List.map_map]; rfl
        rw [hl] at h1
        have HM7 := Lib.hid (HM6.out.cons h2 hD (by omega) hd)
        obtain ⟨sn, hsn⟩ : ∃ sn, seen ++ freshs seen (nexts ops x) = sn := ⟨_, rfl⟩
        obtain ⟨sk, hsk⟩ : ∃ sk, stk' ++ freshs seen (nexts ops x) = sk := ⟨_, rfl⟩
        have hdf := HDF.out
        rw [hsn, hsk] at hdf h1
        have HDF2 := Lib.hid hdf
        have hsmall : ∀ z ∈ sn, z < 4294967296 := by
          rw [← hsn]
          intro z hz
          rcases mem_freshs.1 hz with hz | hz
          · exact HSM.out z hz
          · unfold nexts at hz
            obtain ⟨o, ho, rfl⟩ := List.mem_map.1 hz
            have ho' := List.mem_filter.1 ho
            exact next_lt hx32 (hops o ho'.1).2.1
        have HSMN := Lib.hid hsmall
        have hlen := h1.map.run_len (P := Tryz.prog) Tryz.underlying143 3
        have hll : (seenL sn).length = sn.length := by unfold seenL; simp
        rw [hll] at hlen
        have H1 := Lib.hid h1
        have x3c := h1.x3.cell
        have hsn40 : sn.length ≤ 2040 := by
          have e1 := freshs_le (seen := seen) (xs := nexts ops x)
          have e2 := congrArg List.length (wsteps_nexts ops x)
          rw [List.length_map] at e2
          have := HWL.out; have := HFEW.out
          rw [← hsn, List.length_append]; omega
        clear h1 h2 h3 h4 hl hd hll hdf hsn hsk hsmall HDF HSM HND HBS HG0 HWW HA6 HA HM6 HM
        by_cases hbig2 : 2000 < sn.length
        · gi_wp2
          refine leaves_marks (ds := mark D :: ds) HM7.out (fun W' hk => ?_)
          refine ⟨.tuple #[.slice none 0 0, .bool false], by simp [results, Tryz.results57, go_sem], H1.out.keep.trans' hk (fun i hi => .inr hi.1), .inl ⟨HDF2.out.many hbig2, rfl⟩⟩
        · have hle2 : sn.length ≤ 2000 := by omega
          gi_wp2
          refine ⟨⟨mark D :: ds, _, _, _, _, _, _, _, _, _, _, _, _, _, _, _, _, _, _, _, _, _, _, _, _, _, _, _, _, _, _, _, _, _, _, _, _, _, _, _, _, _, _, _, _, _, _, _, _, _, _, _, _, _, _, _, _, _, sk, sn, out ++ [x], vs', ⟨H1.out, HDF2.out, hle2, HSMN.out, HM7.out⟩, rfl⟩, ?_⟩
          simp [sliceLen, H6.out]
          omega
      case stop => exact fun _ _ _ _ _ _ h _ => h.elim

theorem all_any (w : World) (b st g0 base : Nat) (v : Value) (ops : List Wop) (hw : WordsAt w base b st g0 v ops) (hops : WopsOk ops) (hmany : ops.length ≤ 40) (hst : st < 4294967296) :
    Calls Tryz.prog 57 #[.iface 50 (.pointer (some ⟨b, 0, none⟩))] w (AllPost ops st w) := callsIn_wide.1 (all_in w b st g0 base v ops hw hops hmany hst)

end Go.Proofs.YtjcgkmodmjckjaaGreat

namespace Go.Proofs.YtjcgkmodmjckjaaGreat
open Go.RowKit

theorem wops_ok {t : Tsk} (ok : t.Ok) : WopsOk (wordsOf t.ops) := by
  intro o ho
  unfold wordsOf at ho
  obtain ⟨p, hp, rfl⟩ := List.mem_map.1 ho
  have h := ok.ops p hp
  have hn : t.n ≤ 32 := by have := ok.n1; omega
  exact ⟨wd_lt32 hn h.pre, wd_lt32 hn h.add, wd_lt32 hn h.del⟩

/-- The states that a task explores, if they are few. -/
def explored (t : Tsk) : Option (List Nat) := reached (wordsOf t.ops) (wd t.init)

/-- What Checked hands back. -/
def CheckedPost (t : Tsk) (w : World) (e : Ending) (w' : World) : Prop := Keeps (fun _ => False) w w' ∧
  (((taskFault t).1 ≠ 0 ∧ e = .returned (.tuple #[.pointer none, .slice none 0 0, .agg #[.int .i64 (taskFault t).1, .int .i64 (taskFault t).2]])) ∨
   (t.Ok ∧ explored t = none ∧ e = .returned (.tuple #[.pointer none, .slice none 0 0, .agg #[.int .i64 10, .int .i64 (-7)]])) ∨
   (t.Ok ∧ ∃ l, explored t = some l ∧ ∃ (b : Nat) (v vl : Value) (ws : List Nat), e = .returned (.tuple #[.pointer (some ⟨b, 0, none⟩), vl, .agg #[.int .i64 0, .int .i64 0]]) ∧ WordsAt w' w.heap.size b (wd t.init) (wd t.goal) v (wordsOf t.ops) ∧
      ws.Perm l ∧ ws.Pairwise (fun a b => ¬ cmpW b a < 0) ∧ w'.ownsRow w.heap.size 60 1 vl ws.length (ws.map encW)))

theorem WordsAt.keepsS {S : Nat → Prop} {w w' : World} {base b s g : Nat} {v : Value} {ops : List Wop} (h : WordsAt w base b s g v ops) (hk : Keeps S w w') (hb : ¬ S b) (hv : ∀ k, v.ownBlock = some k → ¬ S k) : WordsAt w' base b s g v ops :=
  ⟨hk.heap h.blk hb, hk.ownsRow h.own hv, h.low, h.ne⟩
theorem WordsAt.mono {w : World} {base base' b s g : Nat} {v : Value} {ops : List Wop} (h : WordsAt w base b s g v ops) (hb : base' ≤ base) : WordsAt w base' b s g v ops :=
  ⟨h.blk, ownsRow_mono h.own hb, Nat.le_trans hb h.low, h.ne⟩

set_option maxHeartbeats 2000000 in
theorem checked_any (w : World) (vi vg vo : Value) (t : Tsk) (h : TaskAt w vi vg vo t) :
    Calls Tryz.prog 23 #[.agg #[.int .i64 t.n, vi, vg, vo]] w (CheckedPost t w) := by
  obtain ⟨ai, ci, h1, _⟩ := h.init.form
  obtain ⟨ag, cg, h2, _⟩ := h.goal.form
  obtain ⟨ao, co, h3, hmo⟩ := h.ops.form
  subst h1 h2 h3
  have K1 := (Keeps.refl (fun _ => False) w).alloc (.cells #[.int .i64 t.n, .slice ai t.init.length ci, .slice ag t.goal.length cg, .slice ao t.ops.length co] 25)
  have HT := h.keeps0 (K1.alloc (.cells #[.int .i64 0, .int .i64 0] 29))
  have HB := (Four.new w (.int .i64 t.n) (.slice ai t.init.length ci) (.slice ag t.goal.length cg) (.slice ao t.ops.length co) 25).keeps0 ((Keeps.refl _ _).alloc (.cells #[.int .i64 0, .int .i64 0] 29))
  have HF : Flt w ((w.alloc (.cells #[.int .i64 t.n, .slice ai t.init.length ci, .slice ag t.goal.length cg, .slice ao t.ops.length co] 25)).alloc (.cells #[.int .i64 0, .int .i64 0] 29)) (w.heap.size + 1) 29 :=
    ⟨by have := heap_alloc_new (w.alloc (.cells #[.int .i64 t.n, .slice ai t.init.length ci, .slice ag t.goal.length cg, .slice ao t.ops.length co] 25)) (.cells #[.int .i64 0, .int .i64 0] 29); rwa [World.size_alloc] at this, by omega, K1.alloc _⟩
  replace HT := Lib.hid HT; replace HB := Lib.hid HB; replace HF := Lib.hid HF
  clear h K1
  go_enter Tryz.func23, Tryz.ntmps23
  go_upto_region 1 with fail
  generalize ((w.alloc (.cells #[.int .i64 t.n, .slice ai t.init.length ci, .slice ag t.goal.length cg, .slice ao t.ops.length co] 25)).alloc (.cells #[.int .i64 0, .int .i64 0] 29)) = w1 at HT HB HF ⊢
  have hbx := HB.out.lt
  obtain ⟨d0, d1, d2, d3⟩ := HB.out
  go_wp2_with fail
  refine (validate_any _ _ _ _ t HT.out).mono ?_; rintro e w2 ⟨rfl, hk⟩
  have K2 := Lib.hid hk
  have hbx2 := (HB.out.keeps0 hk).lt
  have l2 : w1.heap.size ≤ w2.heap.size := hk.size
  clear d0 d1 d2 d3 hk
  have KA := Lib.hid (K2.out.alloc (.cells #[.int .i64 (taskFault t).1, .int .i64 (taskFault t).2] 29))
  obtain ⟨d0, d1, d2, d3⟩ := HB.out.keeps0 K2.out
  by_cases hc : (taskFault t).1 = 0
  · have hok := taskFault_zero.1 hc
    have hft := taskFault_ok hok
    have OK := Lib.hid hok
    rw [hft] at KA ⊢
    clear hc hft hok
    go_wp2_with fail
    have HTA := Lib.hid (HT.out.keeps0 KA.out)
    refine (of_any _ _ _ _ t HTA.out OK.out).mono ?_; rintro e w3 ⟨b, v, rfl, hw, hk3⟩
    have KB := Lib.hid (KA.out.trans hk3)
    have HW := Lib.hid hw
    have hs3 : w1.heap.size ≤ w3.heap.size := KB.out.size
    have hstl := wd_lt32 (by have := OK.out.n1; omega : t.n ≤ 32) OK.out.init
    clear hk3 hw
    go_wp2_with fail
    refine (all_any w3 b (wd t.init) (wd t.goal) _ v (wordsOf t.ops) HW.out (wops_ok OK.out) (by unfold wordsOf; rw [List.length_map]; exact OK.out.few) hstl).mono ?_
    rintro e w4 ⟨hk4, hr⟩
    have KC := Lib.hid (KB.out.trans hk4)
    have HW4 := Lib.hid (HW.out.keeps0 hk4)
    clear hk4
    rcases hr with ⟨hr1, rfl⟩ | ⟨l, hr1, vl, out, rfl, hp, hown⟩
    · have HR := Lib.hid hr1
      obtain ⟨e0, e1, z0, z1, hF⟩ := (HF.out.keeps0 KC.out).cells
      clear hr1
      go_wp2_with fail
      refine bodyPost_ret (results_tmp2_cell _ _ (w.heap.size + 1) 29 #[.int .i64 10, .int .i64 (-7)] (0, 0) _ rfl rfl ((HF.out.keeps0 KC.out).set (.int .i64 10) (.int .i64 (-7))).1 Tryz.underlying29 rfl (by kernel_rfl)) rfl ?_
      exact ⟨((HF.out.keeps0 KC.out).set _ _).2, .inr (.inl ⟨OK.out, HR.out, rfl⟩)⟩
    · have HR := Lib.hid hr1
      obtain ⟨av, cv, hav⟩ := ownsRow_form1 hown
      subst hav
      have HO := Lib.hid hown; have HP := Lib.hid hp
      have hrl := reached_some hr1
      have hlen : out.length ≤ 2000 := by rw [hp.length_eq]; exact hrl.2.1
      clear hr1 hown hp hrl
      go_wp2_with fail
      refine (sort_any _ _ _ _ out HO.out (by omega)).mono ?_; rintro e w5 ⟨rfl, ws, hp2, hs2, hown2, hk5⟩
      have KD := Lib.hid (KC.out.trans' hk5 (fun i hi => .inr (by have := (World.ownsRow.lt HO.out i hi).1; omega)))
      have hvl : ∀ k, (Value.slice av out.length cv).ownBlock = some k → w3.heap.size ≤ k := fun k hk => (World.ownsRow.lt HO.out k hk).1
      have HW5 := Lib.hid (show WordsAt w5 w.heap.size b (wd t.init) (wd t.goal) v (wordsOf t.ops) from
        (HW4.out.keepsS hk5 (fun hs => by have := hvl b hs; have := lt_of_heap HW.out.blk; omega) (fun k hk hs => by have := hvl k hs; have := (World.ownsRow.lt HW.out.own k hk).2; omega)).mono (by have := KA.out.size; have := HF.out.keep.size; simp at *; omega))
      have HO5 := Lib.hid (ownsRow_mono hown2 (by have := KB.out.size; have := HF.out.keep.size; omega : w.heap.size ≤ w3.heap.size))
      have HP2 := Lib.hid (hp2.trans HP.out); have HS2 := Lib.hid hs2
      have HF5 := Lib.hid (HF.out.keeps0 KD.out)
      obtain ⟨e0, e1, z0, z1, hF⟩ := HF5.out.cells
      clear hp2 hs2 hown2 hk5 hvl
      go_wp2_with fail
      refine bodyPost_ret (results_tmp2_cell _ _ (w.heap.size + 1) 29 #[.int .i64 0, .int .i64 0] (0, 0) _ rfl rfl (HF5.out.set (.int .i64 0) (.int .i64 0)).1 Tryz.underlying29 rfl (by kernel_rfl)) rfl ?_
      have kS := keeps_pair (w := w5) (w.heap.size + 1) (.int .i64 0) (.int .i64 0)
      refine ⟨(HF5.out.set _ _).2, .inr (.inr ⟨OK.out, l, HR.out, b, v, _, ws, rfl, ?_, HP2.out, (HS2.out.imp (fun h => by first | exact h | omega)), ?_⟩)⟩
      · refine HW5.out.keepsS kS (fun e => ?_) (fun k hk e => ?_)
        · have h1 := HW5.out.blk; rw [e, HF5.out.blk] at h1; simp at h1
        · subst e
          have h1 := HF5.out.blk
          rcases HW5.out.own.2 with ⟨e, _⟩ | ⟨gq, cq, curq, e, _, hgq, _⟩
          · rw [e] at hk; simp [Value.ownBlock] at hk
          · rw [e] at hk; simp [Value.ownBlock] at hk; subst hk; rw [hgq] at h1; simp at h1
      · refine kS.ownsRow HO5.out (fun k hk e => ?_)
        subst e
        have h1 := HF5.out.blk
        rcases HO5.out.2 with ⟨e, _⟩ | ⟨gq, cq, curq, e, _, hgq, _⟩
        · rw [e] at hk; simp [Value.ownBlock] at hk
        · rw [e] at hk; simp [Value.ownBlock] at hk; subst hk; rw [hgq] at h1; simp at h1
  · have hc2 : ((taskFault t).1 == 0) = false := by simpa using hc
    have HC := Lib.hid hc
    obtain ⟨e0, e1, z0, z1, hF⟩ := (HF.out.keeps0 K2.out).cells
    have HFA := Lib.hid (HF.out.keeps0 KA.out)
    clear hc
    generalize hfe : taskFault t = f at hc2 HC HFA KA ⊢
    have HFE := Lib.hid hfe
    clear hfe
    go_wp2_with fail
    have HF2 := Lib.hid (HF.out.keeps0 K2.out)
    go_region
    all_goals
      go_wp2
      refine bodyPost_ret (results_tmp2_cell _ _ (w.heap.size + 1) 29 #[.int .i64 f.1, .int .i64 f.2] (0, 0) _ rfl rfl ((((Keeps.refl (fun _ => False) _).alloc _).drew).heap (HF2.out.set (.int .i64 f.1) (.int .i64 f.2)).1 (fun h => h)) Tryz.underlying29 rfl (by kernel_rfl)) rfl ?_
      refine ⟨((HF2.out.set (.int .i64 f.1) (.int .i64 f.2)).2.alloc _).drew, .inl ?_⟩
      rw [HFE.out]
      exact ⟨HC.out, rfl⟩

end Go.Proofs.YtjcgkmodmjckjaaGreat

namespace Go.Proofs.YtjcgkmodmjckjaaGreat
open Go.RowKit

/-! ### Explored -/
def expF (t : Tsk) : Int × Int := if (taskFault t).1 = 0 then (match explored t with | none => (10, -7) | some _ => (0, 0)) else taskFault t

theorem pair_cells {w : World} {B : Nat} {x y : Value} {T : TypeId} (h : w.heap[B]? = some (.cells #[x, y] T (0, 0))) : w.cell? ⟨B, 0, none⟩ = some x ∧ w.cell? ⟨B, 1, none⟩ = some y ∧ w.frozen? ⟨B, 0, none⟩ = false ∧ w.frozen? ⟨B, 1, none⟩ = false ∧ B < w.heap.size :=
  ⟨by rw [cell_of_blk h]; rfl, by rw [cell_of_blk h]; rfl, frozen_of_blk h, frozen_of_blk h, lt_of_heap h⟩

theorem Flt.keepsS {S : Nat → Prop} {w w1 w2 : World} {F : Nat} {T : TypeId} (h : Flt w w1 F T) (hk : Keeps S w1 w2) (hF : ¬ S F) (hS : ∀ i, S i → w.heap.size ≤ i) : Flt w w2 F T :=
  ⟨hk.heap h.blk hF, h.base, h.keep.trans' hk (fun i hi => .inr (hS i hi))⟩

/-! ### wayFault -/
/-! ### wide -/
end Go.Proofs.YtjcgkmodmjckjaaGreat

namespace Go.Proofs.YtjcgkmodmjckjaaGreat
open Go.RowKit Go.Sort Go.Proofs

section
variable {α : Type} [Inhabited α] (enc : α → Value)
theorem holdsE_of_block {w : World} {g : Nat} {cur : Array Value} {e : TypeId} {ss : List α} (hb : w.heap[g]? = some (.cells cur e (0, 0))) (ht : cur.toList.take ss.length = ss.map enc) : Holds enc w g 0 ss.toArray := by
  intro j hj
  have hj' : j < ss.length := by simpa using hj
  refine ⟨?_, by simp [World.frozen?, hb]⟩
  have h1 : (cur.toList.take ss.length)[j]? = (ss.map enc)[j]? := by rw [ht]
  rw [List.getElem?_take_of_lt hj'] at h1
  simp only [World.cell?, hb, Nat.zero_add]
  simp only [Option.isSome_none, Bool.false_eq_true, if_false]
  rw [← Array.getElem?_toList, h1]
  simp [hj']
theorem take_putCellsE (cur : Array Value) (ts : List α) (h : ts.length ≤ cur.size) : (putCells enc 0 ts.toArray cur).toList.take ts.length = ts.map enc := by
  apply List.ext_getElem?
  intro j
  by_cases hj : j < ts.length
  · rw [List.getElem?_take_of_lt hj, Array.getElem?_toList]
    simp [putCells, hj, show j < cur.size by omega]
  · rw [List.getElem?_take_eq_none (by omega), List.getElem?_eq_none (by simp; omega)]
theorem heap_putE {w : World} {g n : Nat} {cur : Array Value} {e : TypeId} {fr : Nat × Nat} (d : Array α) (hb : w.heap[g]? = some (.cells cur e fr)) :
    (putRow enc (Sort.ahead w n) g 0 d).heap[g]? = some (.cells (putCells enc 0 d cur) e fr) := by
  simp [putRow, mapBlock, Sort.ahead, Array.getElem?_modify, hb, onCells]
theorem keeps_putE {w : World} {g n : Nat} (d : Array α) : Keeps (fun b => b = g) w (putRow enc (Sort.ahead w n) g 0 d) := by
  refine ⟨rfl, rfl, rfl, by simp [putRow, mapBlock, Sort.ahead], fun k hk hne => ?_⟩
  have : g ≠ k := fun e => hne e.symm
  simp [putRow, mapBlock, Sort.ahead, Array.getElem?_modify, this]
end

theorem reverse_any (w : World) (base : Nat) (T : TypeId) (v : Value) (l : List Int) (hown : w.ownsRow base T 1 v l.length (l.map (Value.int .i64))) (hlen : l.length ≤ 9223372036854775807) :
    Calls Tryz.prog 78 #[v] w fun e w' => e = .returned (.tuple #[]) ∧ w'.ownsRow base T 1 v l.length (l.reverse.map (Value.int .i64)) ∧ Keeps (fun b => v.ownBlock = some b) w w' := by
  rcases hown.2 with ⟨rfl, h0⟩ | ⟨g, cap, cur, rfl, hb, hg, hn, hm, hs, ht⟩
  · have hz : l = [] := List.length_eq_zero_iff.1 h0
    subst hz
    refine (Tryz.slices_Reverse_int_empty none 0 w).mono ?_
    rintro e w' ⟨rfl, rfl⟩
    exact ⟨rfl, World.ownsRow_nil _ _ _ _, Keeps.refl _ _⟩
  · have ht' : cur.toList.take l.length = l.map (Value.int .i64) := by simpa using ht
    refine (Tryz.slices_Reverse_int g 0 cap l w (holdsE_of_block (Value.int .i64) hg ht') hlen).mono ?_
    rintro e w' ⟨rfl, n, rfl⟩
    refine ⟨rfl, ⟨by simp, .inr ⟨g, cap, _, rfl, hb, heap_putE (Value.int .i64) _ hg, hn, hm, by simp [putCells, hs], ?_⟩⟩, (keeps_putE (Value.int .i64) _).mono (fun i _ h => by subst h; rfl)⟩
    have := take_putCellsE (Value.int .i64) cur l.reverse (by simp; omega)
    simpa using this

/-! ### space.Path -/
def intsP (p : List Nat) : List Int := p.map fun x : Nat => (x : Int)

end Go.Proofs.YtjcgkmodmjckjaaGreat

namespace Go.Proofs.YtjcgkmodmjckjaaGreat
open Go.RowKit Go.Shelf
attribute [local go_sem] Oper.semAt_some

section
variable {w0 : World} {b1 b2 b3 : Nat} {T : List Ent} {q : List Nat} {vl : Value} {W : World}
end

theorem reach_small {ops : List Wop} (hops : WopsOk ops) {st : Nat} (hst : st < 4294967296) {x : Nat} (h : Reach ops st x) : x < 4294967296 := by
  induction h with
  | refl => exact hst
  | step _ hy ih =>
    unfold nexts at hy
    obtain ⟨o, ho, rfl⟩ := List.mem_map.1 hy
    have ho' := List.mem_filter.1 ho
    exact next_lt ih (hops o ho'.1).2.1

end Go.Proofs.YtjcgkmodmjckjaaGreat

namespace Go.Proofs.YtjcgkmodmjckjaaGreat
open Go.RowKit Go.Shelf

theorem ex_fnD {p : (Nat → Value) → Act} {a : Act} (h : a = p (fun k => a.tmps.getD k undef)) : ∃ u, a = p u := ⟨_, h⟩

section
variable {w0 : World} {b1 b2 b3 : Nat} {T : List Ent} {q : List Nat} {vl : Value} {W : World}
end

end Go.Proofs.YtjcgkmodmjckjaaGreat

namespace Go.Proofs.YtjcgkmodmjckjaaGreat.U
open Go.RowKit

structure Ent where
  blk : Nat
  item : Int
  key : Int
  time : Int

def Ent.ptr (e : Ent) : Value := .pointer (some ⟨e.blk, 0, none⟩)

def lessE (a b : Ent) : Bool := decide (a.key < b.key) || (a.key == b.key && decide (a.time < b.time))

/-- The slice v of entries reads as L in w. -/
structure HRep (w : World) (v : Value) (L : List Ent) : Prop where
  row : w.ownsRow 0 179 1 v L.length (L.map Ent.ptr)
  ent : ∀ (i : Nat) (e : Ent), L[i]? = some e → w.heap[e.blk]? = some (.cells #[.int .u32 e.item, .int .i64 e.key, .int .i64 e.time, .int .i64 (i : Int)] 182 (0, 0))
  small : L.length ≤ 1000000

theorem HRep.form {w : World} {v : Value} {L : List Ent} (h : HRep w v L) (hn : 0 < L.length) :
    ∃ H cap cur, v = .slice (some ⟨H, 0, none⟩) L.length cap ∧ w.heap[H]? = some (.cells cur 179 (0, 0)) ∧ cur.size = cap ∧ L.length ≤ cap ∧ ∀ (i : Nat) (e : Ent), L[i]? = some e → cur[i]? = some e.ptr := by
  rcases h.row.2 with ⟨_, h0⟩ | ⟨g, cap, cur, hv, _, hg, hn, hm, hs, ht⟩
  · omega
  · refine ⟨g, cap, cur, hv, hg, by omega, hn, fun i e he => ?_⟩
    have hi : i < L.length := (List.getElem?_eq_some_iff.1 he).1
    have : (cur.toList.take (L.length * 1))[i]? = some e.ptr := by rw [ht, List.getElem?_map, he]; rfl
    rw [List.getElem?_take, if_pos (by omega)] at this
    simpa using this

theorem HRep.cell {w : World} {v : Value} {L : List Ent} (h : HRep w v L) {H cap : Nat} (hv : v = .slice (some ⟨H, 0, none⟩) L.length cap) {i : Nat} {e : Ent} (hi : L[i]? = some e) :
    w.cell? ⟨H, i, none⟩ = some (.pointer (some ⟨e.blk, 0, none⟩)) := by
  have hl : i < L.length := (List.getElem?_eq_some_iff.1 hi).1
  obtain ⟨H', cap', cur, hv', hb, hs, hc, hcur⟩ := h.form (by omega)
  rw [hv] at hv'
  simp only [Value.slice.injEq, Option.some.injEq, Addr.mk.injEq] at hv'
  obtain ⟨⟨rfl, _⟩, _⟩ := hv'
  rw [cell_of_blk hb, hcur i e hi]; rfl

theorem HRep.e1 {w : World} {v : Value} {L : List Ent} (h : HRep w v L) {i : Nat} {e : Ent} (hi : L[i]? = some e) : w.cell? ⟨e.blk, 1, none⟩ = some (.int .i64 e.key) := by rw [cell_of_blk (h.ent i e hi)]; rfl
theorem HRep.e2 {w : World} {v : Value} {L : List Ent} (h : HRep w v L) {i : Nat} {e : Ent} (hi : L[i]? = some e) : w.cell? ⟨e.blk, 2, none⟩ = some (.int .i64 e.time) := by rw [cell_of_blk (h.ent i e hi)]; rfl
theorem HRep.e3 {w : World} {v : Value} {L : List Ent} (h : HRep w v L) {i : Nat} {e : Ent} (hi : L[i]? = some e) : w.cell? ⟨e.blk, 3, none⟩ = some (.int .i64 (i : Int)) := by rw [cell_of_blk (h.ent i e hi)]; rfl

set_option maxRecDepth 100000 in
set_option maxHeartbeats 1000000 in
theorem less_any (w : World) (v : Value) (L : List Ent) (h : HRep w v L) (i k : Nat) (ei ek : Ent) (hi : L[i]? = some ei) (hk : L[k]? = some ek) :
    Calls Tryz.prog 197 #[v, .int .i64 (i : Int), .int .i64 (k : Int)] w fun e w' => e = .returned (.bool (lessE ei ek)) ∧ ∃ n, w' = w.drewN n := by
  have li : i < L.length := (List.getElem?_eq_some_iff.1 hi).1
  have lk : k < L.length := (List.getElem?_eq_some_iff.1 hk).1
  have hsm := h.small
  obtain ⟨H, cap, cur, hv, -, -, -, -⟩ := h.form (by omega)
  have ci := h.cell hv hi
  have ck := h.cell hv hk
  have ci1 := h.e1 hi
  have ck1 := h.e1 hk
  have ci2 := h.e2 hi
  have ck2 := h.e2 hk
  subst hv
  clear h hi hk
  have i0 : (0 : Int) ≤ (i : Int) := by omega
  have k0 : (0 : Int) ≤ (k : Int) := by omega
  have il : (i : Int) < (L.length : Int) := by omega
  have kl : (k : Int) < (L.length : Int) := by omega
  by_cases h1 : ei.key < ek.key
  · have hr : lessE ei ek = true := by simp [lessE, h1]
    have HR := Lib.hid hr; clear hr
    have h1' : decide (ei.key < ek.key) = true := by simpa using h1
    go_enter Tryz.func197, Tryz.ntmps197
    go_wp2
    go_quiet (fail)
    go_wp2
    go_ret
    exact ⟨congrArg (fun b => Ending.returned (Value.bool b)) HR.out.symm, nq, rfl⟩
  · by_cases h2 : ei.key = ek.key
    · have hr : lessE ei ek = decide (ei.time < ek.time) := by simp [lessE, h2]
      have HR := Lib.hid hr; clear hr
      have h1' : decide (ei.key < ek.key) = false := by simpa using h1
      have h2' : (ei.key == ek.key) = true := by simpa using h2
      have H2 := Lib.hid h2; clear h2
      go_enter Tryz.func197, Tryz.ntmps197
      go_wp2
      go_quiet (fail)
      go_wp2
      go_ret
      exact ⟨congrArg (fun b => Ending.returned (Value.bool b)) HR.out.symm, nq, rfl⟩
    · have hr : lessE ei ek = false := by simp [lessE, h1, h2]
      have HR := Lib.hid hr; clear hr
      have h1' : decide (ei.key < ek.key) = false := by simpa using h1
      have h2' : (ei.key == ek.key) = false := by simpa using h2
      go_enter Tryz.func197, Tryz.ntmps197
      go_wp2
      go_quiet (fail)
      go_wp2
      go_ret
      exact ⟨congrArg (fun b => Ending.returned (Value.bool b)) HR.out.symm, nq, rfl⟩

/-! ### Swap -/
def swp (L : List Ent) (i k : Nat) : List Ent :=
  match L[i]?, L[k]? with
  | some a, some b => (L.set i b).set k a
  | _, _ => L

theorem swp_eq {L : List Ent} {i k : Nat} {a b : Ent} (hi : L[i]? = some a) (hk : L[k]? = some b) : swp L i k = (L.set i b).set k a := by simp [swp, hi, hk]

theorem length_swp (L : List Ent) (i k : Nat) : (swp L i k).length = L.length := by
  unfold swp; split <;> simp

theorem get_swp {L : List Ent} {i k : Nat} {a b : Ent} (hi : L[i]? = some a) (hk : L[k]? = some b) (j : Nat) :
    (swp L i k)[j]? = if j = k then some a else if j = i then some b else L[j]? := by
  have li : i < L.length := (List.getElem?_eq_some_iff.1 hi).1
  have lk : k < L.length := (List.getElem?_eq_some_iff.1 hk).1
  rw [swp_eq hi hk, List.getElem?_set]
  by_cases h : k = j
  · subst h; simp [lk]
  · rw [if_neg h, if_neg (fun e => h e.symm), List.getElem?_set]
    by_cases h' : i = j
    · subst h'; simp [li]
    · rw [if_neg h', if_neg (fun e => h' e.symm)]

theorem swp_self {L : List Ent} {i : Nat} {a : Ent} (hi : L[i]? = some a) : swp L i i = L := by
  apply List.ext_getElem?
  intro j
  rw [get_swp hi hi]
  by_cases h : j = i
  · subst h; simp [hi]
  · simp [h]

def hfoot (v : Value) (L : List Ent) (b : Nat) : Prop := v.ownBlock = some b ∨ ∃ e ∈ L, e.blk = b

theorem mem_swp {L : List Ent} {i k : Nat} {e : Ent} : e ∈ swp L i k → e ∈ L := by
  intro h
  cases hi : L[i]? with
  | none => simpa [swp, hi] using h
  | some a =>
    cases hk : L[k]? with
    | none => simpa [swp, hi, hk] using h
    | some b =>
      obtain ⟨j, hj⟩ := List.mem_iff_getElem?.1 h
      rw [get_swp hi hk] at hj
      split at hj
      · exact (Option.some.inj hj) ▸ List.mem_of_getElem? hi
      · split at hj
        · exact (Option.some.inj hj) ▸ List.mem_of_getElem? hk
        · exact List.mem_of_getElem? hj

theorem HRep.inj {w : World} {v : Value} {L : List Ent} (h : HRep w v L) {i k : Nat} {a b : Ent} (hi : L[i]? = some a) (hk : L[k]? = some b) (e : a.blk = b.blk) : i = k := by
  have x := h.ent i a hi
  rw [e, h.ent k b hk] at x
  simp at x
  omega

theorem HRep.ne_row {w : World} {v : Value} {L : List Ent} (h : HRep w v L) {i : Nat} {a : Ent} (hi : L[i]? = some a) {g : Nat} (hg : v.ownBlock = some g) : a.blk ≠ g := by
  have hl : i < L.length := (List.getElem?_eq_some_iff.1 hi).1
  obtain ⟨H, cap, cur, hv, hb, _⟩ := h.form (by omega)
  rw [hv] at hg
  obtain rfl : H = g := by simpa [Value.ownBlock] using hg
  rintro rfl
  rw [h.ent i a hi] at hb
  simp at hb

theorem HRep.lt {w : World} {v : Value} {L : List Ent} (h : HRep w v L) {b : Nat} (hb : hfoot v L b) : b < w.heap.size := by
  rcases hb with hb | ⟨e, he, rfl⟩
  · exact (h.row.lt b hb).2
  · obtain ⟨j, hj⟩ := List.mem_iff_getElem?.1 he
    exact lt_of_heap (h.ent j e hj)

theorem HRep.keeps {S : Nat → Prop} {w w' : World} {v : Value} {L : List Ent} (h : HRep w v L) (hk : Keeps S w w') (hs : ∀ b, hfoot v L b → ¬ S b) : HRep w' v L :=
  ⟨hk.ownsRow h.row (fun b hb => hs b (.inl hb)), fun i e hi => hk.heap (h.ent i e hi) (hs _ (.inr ⟨e, List.mem_of_getElem? hi, rfl⟩)), h.small⟩

theorem HRep.drewN {w : World} {v : Value} {L : List Ent} (h : HRep w v L) (n : Nat) : HRep (w.drewN n) v L := ⟨h.row, h.ent, h.small⟩

structure SwapPost (w : World) (v : Value) (L : List Ent) (i k : Nat) (w' : World) : Prop where
  rep : HRep w' v (swp L i k)
  keeps : Keeps (hfoot v L) w w'

theorem swap_post {w : World} {H n cap : Nat} {L : List Ent} (h : HRep w (.slice (some ⟨H, 0, none⟩) n cap) L) {i k : Nat} {ei ek : Ent} (hi : L[i]? = some ei) (hk : L[k]? = some ek) (hne : i ≠ k) :
    SwapPost w (.slice (some ⟨H, 0, none⟩) n cap) L i k
      ((((w.setCell ⟨H, i, none⟩ (.pointer (some ⟨ek.blk, 0, none⟩))).setCell ⟨H, k, none⟩ (.pointer (some ⟨ei.blk, 0, none⟩))).setCell ⟨ek.blk, 3, none⟩ (.int .i64 (i : Int))).setCell ⟨ei.blk, 3, none⟩ (.int .i64 (k : Int))).drew.drew := by
  have li : i < L.length := (List.getElem?_eq_some_iff.1 hi).1
  have lk : k < L.length := (List.getElem?_eq_some_iff.1 hk).1
  have nH : ∀ (j : Nat) (e : Ent), L[j]? = some e → e.blk ≠ H := fun j e hj => h.ne_row hj rfl
  have hn : n = L.length := by
    have := h.row.2
    rcases this with ⟨hv, _⟩ | ⟨_, _, _, hv, _⟩ <;> simp at hv
    omega
  subst hn
  refine ⟨⟨?_, ?_, ?_⟩, ?_⟩
  · have r1 := h.row.stored i (.pointer (some ⟨ek.blk, 0, none⟩))
    have r2 := r1.1.stored k (.pointer (some ⟨ei.blk, 0, none⟩))
    have r3 : ((((w.setCell ⟨H, i, none⟩ (.pointer (some ⟨ek.blk, 0, none⟩))).setCell ⟨H, k, none⟩ (.pointer (some ⟨ei.blk, 0, none⟩))).setCell ⟨ek.blk, 3, none⟩ (.int .i64 (i : Int))).setCell ⟨ei.blk, 3, none⟩ (.int .i64 (k : Int))).ownsRow
        0 179 1 (.slice (some ⟨H, 0, none⟩) L.length cap) L.length (((L.map Ent.ptr).set i (.pointer (some ⟨ek.blk, 0, none⟩))).set k (.pointer (some ⟨ei.blk, 0, none⟩))) := by
      refine Keeps.ownsRow (S := fun b => b ≠ H) ?_ r2.1 ?_
      · exact ((Keeps.refl _ _).setCell (.inl (nH k ek hk)) _).setCell (.inl (nH i ei hi)) _
      · intro g hg; simp [Value.ownBlock] at hg; simp [hg]
    have e1 : (swp L i k).map Ent.ptr = ((L.map Ent.ptr).set i (.pointer (some ⟨ek.blk, 0, none⟩))).set k (.pointer (some ⟨ei.blk, 0, none⟩)) := by
      rw [swp_eq hi hk, List.map_set, List.map_set]; rfl
    rw [e1, length_swp]
    exact r3
  · intro j e hj
    rw [get_swp hi hk] at hj
    simp only [heap_drew]
    by_cases hjk : j = k
    · subst hjk
      rw [if_pos rfl] at hj
      obtain rfl := Option.some.inj hj
      have hx : (((w.setCell ⟨H, i, none⟩ (.pointer (some ⟨ek.blk, 0, none⟩))).setCell ⟨H, j, none⟩ (.pointer (some ⟨ei.blk, 0, none⟩))).setCell ⟨ek.blk, 3, none⟩ (.int .i64 (i : Int))).heap[ei.blk]? = some (.cells #[.int .u32 ei.item, .int .i64 ei.key, .int .i64 ei.time, .int .i64 (i : Int)] 182 (0, 0)) := by
        rw [blk_set_ne (fun e => hne (h.inj hi hk e)), blk_set_ne (nH i ei hi), blk_set_ne (nH i ei hi)]
        exact h.ent i ei hi
      rw [blk_set_same hx]; rfl
    · rw [if_neg hjk] at hj
      by_cases hji : j = i
      · subst hji
        rw [if_pos rfl] at hj
        obtain rfl := Option.some.inj hj
        have hx : ((w.setCell ⟨H, j, none⟩ (.pointer (some ⟨ek.blk, 0, none⟩))).setCell ⟨H, k, none⟩ (.pointer (some ⟨ei.blk, 0, none⟩))).heap[ek.blk]? = some (.cells #[.int .u32 ek.item, .int .i64 ek.key, .int .i64 ek.time, .int .i64 (k : Int)] 182 (0, 0)) := by
          rw [blk_set_ne (nH k ek hk), blk_set_ne (nH k ek hk)]
          exact h.ent k ek hk
        rw [blk_set_ne (fun e => hne (h.inj hi hk e.symm)), blk_set_same hx]; rfl
      · rw [if_neg hji] at hj
        rw [blk_set_ne (fun e => hji (h.inj hj hi e)), blk_set_ne (fun e => hjk (h.inj hj hk e)), blk_set_ne (nH j e hj), blk_set_ne (nH j e hj)]
        exact h.ent j e hj
  · rw [length_swp]; exact h.small
  · refine (((((Keeps.refl _ _).setCell (.inl ?_) _).setCell (.inl ?_) _).setCell (.inl ?_) _).setCell (.inl ?_) _).drew.drew
    · exact .inl rfl
    · exact .inl rfl
    · exact .inr ⟨ek, List.mem_of_getElem? hk, rfl⟩
    · exact .inr ⟨ei, List.mem_of_getElem? hi, rfl⟩

set_option maxRecDepth 100000 in
set_option maxHeartbeats 1000000 in
theorem swap_ne (w : World) (v : Value) (L : List Ent) (h : HRep w v L) (i k : Nat) (ei ek : Ent) (hi : L[i]? = some ei) (hk : L[k]? = some ek) (hne : i ≠ k) :
    Calls Tryz.prog 198 #[v, .int .i64 (i : Int), .int .i64 (k : Int)] w fun e w' => e = .returned (.tuple #[]) ∧ SwapPost w v L i k w' := by
  have li : i < L.length := (List.getElem?_eq_some_iff.1 hi).1
  have lk : k < L.length := (List.getElem?_eq_some_iff.1 hk).1
  have hsm := h.small
  obtain ⟨H, cap, cur, hv, hH, -, -, -⟩ := h.form (by omega)
  have ci := h.cell hv hi
  have ck := h.cell hv hk
  have ci3 := h.e3 hi
  have ck3 := h.e3 hk
  have fi : w.frozen? ⟨H, i, none⟩ = false := frozen_of_blk hH
  have fk : w.frozen? ⟨H, k, none⟩ = false := frozen_of_blk hH
  have fi3 : w.frozen? ⟨ei.blk, 3, none⟩ = false := frozen_of_blk (h.ent i ei hi)
  have fk3 : w.frozen? ⟨ek.blk, 3, none⟩ = false := frozen_of_blk (h.ent k ek hk)
  have n1 : ¬ H = ei.blk := by rintro rfl; rw [h.ent i ei hi] at hH; simp at hH
  have n2 : ¬ H = ek.blk := by rintro rfl; rw [h.ent k ek hk] at hH; simp at hH
  have n3 : ¬ ei.blk = ek.blk := fun e => hne (h.inj hi hk e)
  subst hv
  have HP := Lib.hid (swap_post h hi hk hne)
  clear h hi hk hH
  have i0 : (0 : Int) ≤ (i : Int) := by omega
  have k0 : (0 : Int) ≤ (k : Int) := by omega
  have il : (i : Int) < (L.length : Int) := by omega
  have kl : (k : Int) < (L.length : Int) := by omega
  have hne' : ¬ k = i := fun e => hne e.symm
  have n1' : ¬ ei.blk = H := fun e => n1 e.symm
  have n2' : ¬ ek.blk = H := fun e => n2 e.symm
  have n3' : ¬ ek.blk = ei.blk := fun e => n3 e.symm
  go_enter Tryz.func198, Tryz.ntmps198
  go_wp2
  go_region
  go_wp2
  go_region
  go_end0
  exact ⟨rfl, HP.out⟩

set_option maxRecDepth 100000 in
set_option maxHeartbeats 1000000 in
theorem swap_eq (w : World) (v : Value) (L : List Ent) (h : HRep w v L) (i : Nat) (ei : Ent) (hi : L[i]? = some ei) :
    Calls Tryz.prog 198 #[v, .int .i64 (i : Int), .int .i64 (i : Int)] w fun e w' => e = .returned (.tuple #[]) ∧ SwapPost w v L i i w' := by
  have li : i < L.length := (List.getElem?_eq_some_iff.1 hi).1
  have hsm := h.small
  obtain ⟨H, cap, cur, hv, hH, -, -, -⟩ := h.form (by omega)
  have ci := h.cell hv hi
  have ci3 := h.e3 hi
  have fi : w.frozen? ⟨H, i, none⟩ = false := frozen_of_blk hH
  have fi3 : w.frozen? ⟨ei.blk, 3, none⟩ = false := frozen_of_blk (h.ent i ei hi)
  have n1 : ¬ H = ei.blk := by rintro rfl; rw [h.ent i ei hi] at hH; simp at hH
  subst hv
  have HP : Hid (SwapPost w (.slice (some ⟨H, 0, none⟩) L.length cap) L i i ((((w.setCell ⟨H, i, none⟩ (.pointer (some ⟨ei.blk, 0, none⟩))).setCell ⟨H, i, none⟩ (.pointer (some ⟨ei.blk, 0, none⟩))).setCell ⟨ei.blk, 3, none⟩ (.int .i64 (i : Int))).setCell ⟨ei.blk, 3, none⟩ (.int .i64 (i : Int))).drew.drew) := by
    rw [setCell_id ci, setCell_id ci, setCell_id ci3, setCell_id ci3]
    exact ⟨by rw [swp_self hi]; exact h.drewN 2, (Keeps.refl _ _).drewN 2⟩
  have n1' : ¬ ei.blk = H := fun e => n1 e.symm
  have i0 : (0 : Int) ≤ (i : Int) := by omega
  have il : (i : Int) < (L.length : Int) := by omega
  clear h hi hH
  go_enter Tryz.func198, Tryz.ntmps198
  go_wp2
  go_region
  go_wp2
  go_region
  go_end0
  exact ⟨rfl, HP.out⟩

end Go.Proofs.YtjcgkmodmjckjaaGreat.U

namespace Go.Proofs.YtjcgkmodmjckjaaGreat.U
open Go.RowKit

theorem method_Less_raw (a : Addr) (w : World) : (method 362 183 (.pointer (some a)) "Less").run Tryz.prog w = (Sem.load .plain a fun v => .pure (197, v)).run Tryz.prog w := by kernel_rfl
theorem method_Less {a : Addr} {w : World} {v : Value} (h : w.cell? a = some v) : (method 362 183 (.pointer (some a)) "Less").run Tryz.prog w = .ok (197, v) w := by
  rw [method_Less_raw]; simp [Sem.run, h]
theorem method_Swap_raw (a : Addr) (w : World) : (method 362 183 (.pointer (some a)) "Swap").run Tryz.prog w = (Sem.load .plain a fun v => .pure (198, v)).run Tryz.prog w := by kernel_rfl
theorem method_Len_raw (a : Addr) (w : World) : (method 362 183 (.pointer (some a)) "Len").run Tryz.prog w = (Sem.load .plain a fun v => .pure (196, v)).run Tryz.prog w := by kernel_rfl
theorem method_Push_raw (a : Addr) (w : World) : (method 362 183 (.pointer (some a)) "Push").run Tryz.prog w = .ok (200, .pointer (some a)) w := by kernel_rfl
theorem method_Pop_raw (a : Addr) (w : World) : (method 362 183 (.pointer (some a)) "Pop").run Tryz.prog w = .ok (199, .pointer (some a)) w := by kernel_rfl

theorem method_Swap {a : Addr} {w : World} {v : Value} (h : w.cell? a = some v) : (method 362 183 (.pointer (some a)) "Swap").run Tryz.prog w = .ok (198, v) w := by
  rw [method_Swap_raw]; simp [Sem.run, h]
theorem method_Len {a : Addr} {w : World} {v : Value} (h : w.cell? a = some v) : (method 362 183 (.pointer (some a)) "Len").run Tryz.prog w = .ok (196, v) w := by
  rw [method_Len_raw]; simp [Sem.run, h]

theorem hfoot_swp {v : Value} {L : List Ent} {i k b : Nat} (h : hfoot v (swp L i k) b) : hfoot v L b := by
  rcases h with h | ⟨e, he, rfl⟩
  · exact .inl h
  · exact .inr ⟨e, mem_swp he, rfl⟩

def lessAt (L : List Ent) (i k : Nat) : Bool :=
  match L[i]?, L[k]? with
  | some a, some b => lessE a b
  | _, _ => false

theorem lessAt_eq {L : List Ent} {i k : Nat} {a b : Ent} (hi : L[i]? = some a) (hk : L[k]? = some b) : lessAt L i k = lessE a b := by simp [lessAt, hi, hk]

def upL (L : List Ent) (j : Nat) : List Ent :=
  if j = 0 then L else if lessAt L j ((j - 1) / 2) then upL (swp L ((j - 1) / 2) j) ((j - 1) / 2) else L
termination_by j
decreasing_by omega

/-- What a call that only turns the heap leaves behind. -/
structure HPost (w : World) (v : Value) (L L' : List Ent) (w' : World) : Prop where
  rep : HRep w' v L'
  keeps : Keeps (hfoot v L) w w'
  len : L'.length = L.length
  sub : ∀ b, hfoot v L' b → hfoot v L b

theorem HPost.refl {w : World} {v : Value} {L : List Ent} (h : HRep w v L) : HPost w v L L w := ⟨h, Keeps.refl _ _, rfl, fun _ h => h⟩

theorem HPost.drewN {w w' : World} {v : Value} {L L' : List Ent} (h : HPost w v L L' w') (n : Nat) : HPost w v L L' (w'.drewN n) := ⟨h.rep.drewN n, h.keeps.drewN n, h.len, h.sub⟩

theorem HPost.swap {w w' w'' : World} {v : Value} {L L' : List Ent} (h : HPost w v L L' w') {i k : Nat} (hs : SwapPost w' v L' i k w'') : HPost w v L (swp L' i k) w'' :=
  ⟨hs.rep, h.keeps.trans (hs.keeps.mono (fun b _ hb => h.sub b hb)), by rw [length_swp]; exact h.len, fun b hb => h.sub b (hfoot_swp hb)⟩

theorem HPost.trans {w w' w'' : World} {v : Value} {L L' L'' : List Ent} (h : HPost w v L L' w') (hs : HPost w' v L' L'' w'') : HPost w v L L'' w'' :=
  ⟨hs.rep, h.keeps.trans (hs.keeps.mono (fun b _ hb => h.sub b hb)), hs.len.trans h.len, fun b hb => h.sub b (hs.sub b hb)⟩

theorem HPost.cell {w w' : World} {v : Value} {L L' : List Ent} (h : HPost w v L L' w') {Q : Nat} {o : Nat} {x : Value} (hQ : w.cell? ⟨Q, o, none⟩ = some x) (nQ : ¬ hfoot v L Q) : w'.cell? ⟨Q, o, none⟩ = some x := h.keeps.cell hQ nQ

set_option maxRecDepth 100000 in
set_option maxHeartbeats 1000000 in
theorem up_any (w : World) (Q : Nat) (v : Value) (L : List Ent) (h : HRep w v L) (hQ : w.cell? ⟨Q, 0, none⟩ = some v) (nQ : ¬ hfoot v L Q) (j : Nat) (hj : j < L.length) :
    Calls Tryz.prog 99 #[.iface 183 (.pointer (some ⟨Q, 0, none⟩)), .int .i64 (j : Int)] w fun e w' => e = .returned (.tuple #[]) ∧ HPost w v L (upL L j) w' := by
  have hsm := h.small
  go_enter Tryz.func99, Tryz.ntmps99
  go_wp2_with fail
  go_loopw [1] (fun x wr => ∃ (k : Nat) (Lc : List Ent), x = .int .i64 (k : Int) ∧ k < Lc.length ∧ upL Lc k = upL L j ∧ HPost w v L Lc wr) (fun x _ => (intOf x).toNat)
  case atStart => exact ⟨j, L, rfl, hj, rfl, HPost.refl h⟩
  case round =>
    obtain ⟨k, Lc, rfl, hk, hup, hP⟩ := hrel
    have hk' : Lc.length ≤ 1000000 := hP.rep.small
    have HU := Lib.hid hup; clear hup
    by_cases k0 : k = 0
    · subst k0
      have HP := Lib.hid hP; clear hP h
      go_wp2_with fail
      go_end0
      refine ⟨rfl, ?_⟩
      have := HU.out
      rw [upL, if_pos rfl] at this
      rw [← this]; exact HP.out
    · have e1 : ((k : Int) - 1) / 2 = (((k - 1) / 2 : Nat) : Int) := by omega
      have hup' : upL Lc k = if lessAt Lc k ((k - 1) / 2) then upL (swp Lc ((k - 1) / 2) k) ((k - 1) / 2) else Lc := by rw [upL, if_neg k0]
      generalize (k - 1) / 2 = i at *
      have hik : i < k := by omega
      have hne : (((i : Nat) : Int) == (k : Int)) = false := by simp; omega
      obtain ⟨ek, hek⟩ : ∃ e, Lc[k]? = some e := ⟨_, List.getElem?_eq_getElem hk⟩
      obtain ⟨ei, hei⟩ : ∃ e, Lc[i]? = some e := ⟨_, List.getElem?_eq_getElem (by omega)⟩
      rw [lessAt_eq hek hei] at hup'
      have hq : ∀ n, (wr.drewN n).cell? ⟨Q, 0, none⟩ = some v := fun n => hP.cell hQ nQ
      have mL := method_Less (hP.cell hQ nQ)
      have mS := fun n => method_Swap (hq n)
      have HE := Lib.hid hek
      have HI := Lib.hid hei
      have HUP := Lib.hid hup'
      have HP := Lib.hid hP
      have HQ := Lib.hid hQ
      clear hek hei hup' hP hq hQ h nQ
      cases hb : lessE ek ei
      · have HB := Lib.hid hb; clear hb
        go_wp2_with (first | (go_at_call 197; refine (less_any _ v Lc HP.out.rep k i ek ei HE.out HI.out).mono ?_; rintro e w' ⟨he, n, rfl⟩; rw [HB.out] at he; subst he))
        go_end0
        refine ⟨rfl, ?_⟩
        have x := HUP.out
        rw [HB.out, HU.out] at x
        rw [x]; exact HP.out.drewN n
      · have HB := Lib.hid hb; clear hb
        go_wp2_with (first | (go_at_call 197; refine (less_any _ v Lc HP.out.rep k i ek ei HE.out HI.out).mono ?_; rintro e w' ⟨he, n, rfl⟩; rw [HB.out] at he; subst he) | (go_at_call 198; refine (swap_ne _ v Lc (HP.out.rep.drewN _) i k ei ek HI.out HE.out (by omega)).mono ?_; rintro e w' ⟨rfl, hS⟩))
        go_roundw
        case rel =>
          refine ⟨i, _, by go_num, ?_, ?_, (HP.out.drewN _).swap hS⟩
          · rw [length_swp]; omega
          · have x := HUP.out
            rw [HB.out, HU.out] at x
            exact x.symm
        case measure => simp [intOf]; omega

theorem less_any' (w : World) (v : Value) (L : List Ent) (h : HRep w v L) (x y : Int) (i k : Nat) (ei ek : Ent) (hi : L[i]? = some ei) (hk : L[k]? = some ek) (b : Bool) (hb : lessE ei ek = b) (hx : x = (i : Int)) (hy : y = (k : Int)) :
    Calls Tryz.prog 197 #[v, .int .i64 x, .int .i64 y] w fun e w' => e = .returned (.bool b) ∧ ∃ n, w' = w.drewN n := by
  subst hx hy hb; exact less_any w v L h i k ei ek hi hk

theorem swap_ne' (w : World) (v : Value) (L : List Ent) (h : HRep w v L) (x y : Int) (i k : Nat) (ei ek : Ent) (hi : L[i]? = some ei) (hk : L[k]? = some ek) (hne : i ≠ k) (hx : x = (i : Int)) (hy : y = (k : Int)) :
    Calls Tryz.prog 198 #[v, .int .i64 x, .int .i64 y] w fun e w' => e = .returned (.tuple #[]) ∧ SwapPost w v L i k w' := by
  subst hx hy; exact swap_ne w v L h i k ei ek hi hk hne

def downL (L : List Ent) (n i : Nat) : List Ent × Nat :=
  if n ≤ 2 * i + 1 then (L, i) else
  let j := if 2 * i + 2 < n && lessAt L (2 * i + 2) (2 * i + 1) then 2 * i + 2 else 2 * i + 1
  if lessAt L j i then downL (swp L i j) n j else (L, i)
termination_by n - i
decreasing_by split <;> omega

theorem downL_stop {L : List Ent} {n i : Nat} (h : n ≤ 2 * i + 1) : downL L n i = (L, i) := by rw [downL, if_pos h]
theorem downL_go {L : List Ent} {n i j : Nat} (h : ¬ n ≤ 2 * i + 1) (hj : (if 2 * i + 2 < n && lessAt L (2 * i + 2) (2 * i + 1) then 2 * i + 2 else 2 * i + 1) = j) :
    downL L n i = if lessAt L j i then downL (swp L i j) n j else (L, i) := by
  rw [downL, if_neg h]; simp only [hj]

theorem ret_bool {a b : Bool} (h : a = b) : Ending.returned (.bool a) = .returned (.bool b) := by rw [h]


set_option maxRecDepth 100000 in
set_option maxHeartbeats 4000000 in
theorem down_any (w : World) (Q : Nat) (v : Value) (L : List Ent) (h : HRep w v L) (hQ : w.cell? ⟨Q, 0, none⟩ = some v) (nQ : ¬ hfoot v L Q) (i0 n : Nat) (hn : n ≤ L.length) (hi0 : i0 ≤ L.length) :
    Calls Tryz.prog 98 #[.iface 183 (.pointer (some ⟨Q, 0, none⟩)), .int .i64 (i0 : Int), .int .i64 (n : Int)] w fun e w' => e = .returned (.bool (decide (i0 < (downL L n i0).2))) ∧ HPost w v L (downL L n i0).1 w' := by
  have hsm := h.small
  have hnn : n ≤ 1000000 := by omega
  have hii : i0 ≤ 1000000 := by omega
  go_enter Tryz.func98, Tryz.ntmps98
  go_wp2_with fail
  go_loopw [7] (fun x wr => ∃ (i : Nat) (Lc : List Ent), x = .int .i64 (i : Int) ∧ i ≤ 1000000 ∧ downL Lc n i = downL L n i0 ∧ HPost w v L Lc wr) (fun x _ => n - (intOf x).toNat)
  case atStart => exact ⟨i0, L, rfl, hii, rfl, HPost.refl h⟩
  case round =>
    obtain ⟨i, Lc, rfl, hi, hdn, hP⟩ := hrel
    have hk' : Lc.length ≤ 1000000 := hP.rep.small
    have hlen : n ≤ Lc.length := by rw [hP.len]; exact hn
    have HU := Lib.hid hdn; clear hdn
    by_cases hst : n ≤ 2 * i + 1
    · have HP := Lib.hid hP; clear hP h
      have x := downL_stop (L := Lc) hst
      rw [HU.out] at x
      have HX := Lib.hid x; clear x
      go_wp2_with fail
      go_ret
      exact ⟨ret_bool (by rw [HX.out]), by rw [HX.out]; exact HP.out⟩
    · obtain ⟨ei, hei⟩ : ∃ e, Lc[i]? = some e := ⟨_, List.getElem?_eq_getElem (by omega)⟩
      obtain ⟨e1, he1⟩ : ∃ e, Lc[2 * i + 1]? = some e := ⟨_, List.getElem?_eq_getElem (by omega)⟩
      have hst' : 2 * i + 1 < n := by omega
      have hq : ∀ n, (wr.drewN n).cell? ⟨Q, 0, none⟩ = some v := fun n => hP.cell hQ nQ
      have mL := fun n => method_Less (hq n)
      have mL0 := method_Less (hP.cell hQ nQ)
      have mS := fun n => method_Swap (hq n)
      have HEI := Lib.hid hei
      have HE1 := Lib.hid he1
      have HP := Lib.hid hP
      by_cases h2 : 2 * i + 2 < n
      · obtain ⟨e2, he2⟩ : ∃ e, Lc[2 * i + 2]? = some e := ⟨_, List.getElem?_eq_getElem (by omega)⟩
        have HE2 := Lib.hid he2
        cases hb : lessE e2 e1
        · have hj : (if 2 * i + 2 < n && lessAt Lc (2 * i + 2) (2 * i + 1) then 2 * i + 2 else 2 * i + 1) = 2 * i + 1 := by simp [lessAt_eq he2 he1, hb]
          have HG := Lib.hid (downL_go hst hj)
          rw [lessAt_eq he1 hei, HU.out] at HG
          have HB := Lib.hid hb
          cases hc : lessE e1 ei
          · clear hei he1 hP hq hQ h nQ hb he2 hj
            have HC := Lib.hid hc; clear hc
            rw [HC.out] at HG
            go_wp2_with fail
            refine (less_any' _ v Lc HP.out.rep _ _ _ _ e2 e1 HE2.out HE1.out _ HB.out (by omega) (by omega)).mono ?_; rintro e w' ⟨rfl, n1, rfl⟩
            go_wp2_with fail
            refine (less_any' _ v Lc (HP.out.rep.drewN _) _ _ _ _ e1 ei HE1.out HEI.out _ HC.out (by omega) (by omega)).mono ?_; rintro e w' ⟨rfl, n2, rfl⟩
            go_wp2_with fail
            go_ret
            have hx := HG.out; simp only [Bool.false_eq_true, if_false] at hx
            exact ⟨ret_bool (by rw [hx]), by rw [hx]; exact HP.out.drewN _⟩
          · clear hei he1 hP hq hQ h nQ hb he2 hj
            have HC := Lib.hid hc; clear hc
            rw [HC.out] at HG
            go_wp2_with fail
            refine (less_any' _ v Lc HP.out.rep _ _ _ _ e2 e1 HE2.out HE1.out _ HB.out (by omega) (by omega)).mono ?_; rintro e w' ⟨rfl, n1, rfl⟩
            go_wp2_with fail
            refine (less_any' _ v Lc (HP.out.rep.drewN _) _ _ _ _ e1 ei HE1.out HEI.out _ HC.out (by omega) (by omega)).mono ?_; rintro e w' ⟨rfl, n2, rfl⟩
            go_wp2_with fail
            refine (swap_ne' _ v Lc (HP.out.rep.drewN _) _ _ i (2 * i + 1) ei e1 HEI.out HE1.out (by omega) (by omega) (by omega)).mono ?_; rintro e w' ⟨rfl, hS⟩
            go_wp2_with fail
            go_roundw
            case rel =>
              have hx := HG.out; simp only [if_true] at hx
              exact ⟨2 * i + 1, _, by go_num, by omega, hx.symm, (HP.out.drewN _).swap hS⟩
            case measure => simp [intOf]; omega
        · have hj : (if 2 * i + 2 < n && lessAt Lc (2 * i + 2) (2 * i + 1) then 2 * i + 2 else 2 * i + 1) = 2 * i + 2 := by simp [lessAt_eq he2 he1, hb, h2]
          have HG := Lib.hid (downL_go hst hj)
          rw [lessAt_eq he2 hei, HU.out] at HG
          have HB := Lib.hid hb
          cases hc : lessE e2 ei
          · clear hei he1 hP hq hQ h nQ hb he2 hj
            have HC := Lib.hid hc; clear hc
            rw [HC.out] at HG
            go_wp2_with fail
            refine (less_any' _ v Lc HP.out.rep _ _ _ _ e2 e1 HE2.out HE1.out _ HB.out (by omega) (by omega)).mono ?_; rintro e w' ⟨rfl, n1, rfl⟩
            go_wp2_with fail
            refine (less_any' _ v Lc (HP.out.rep.drewN _) _ _ _ _ e2 ei HE2.out HEI.out _ HC.out (by omega) (by omega)).mono ?_; rintro e w' ⟨rfl, n2, rfl⟩
            go_wp2_with fail
            go_ret
            have hx := HG.out; simp only [Bool.false_eq_true, if_false] at hx
            exact ⟨ret_bool (by rw [hx]), by rw [hx]; exact HP.out.drewN _⟩
          · clear hei he1 hP hq hQ h nQ hb he2 hj
            have HC := Lib.hid hc; clear hc
            rw [HC.out] at HG
            go_wp2_with fail
            refine (less_any' _ v Lc HP.out.rep _ _ _ _ e2 e1 HE2.out HE1.out _ HB.out (by omega) (by omega)).mono ?_; rintro e w' ⟨rfl, n1, rfl⟩
            go_wp2_with fail
            refine (less_any' _ v Lc (HP.out.rep.drewN _) _ _ _ _ e2 ei HE2.out HEI.out _ HC.out (by omega) (by omega)).mono ?_; rintro e w' ⟨rfl, n2, rfl⟩
            go_wp2_with fail
            refine (swap_ne' _ v Lc (HP.out.rep.drewN _) _ _ i (2 * i + 2) ei e2 HEI.out HE2.out (by omega) (by omega) (by omega)).mono ?_; rintro e w' ⟨rfl, hS⟩
            go_wp2_with fail
            go_roundw
            case rel =>
              have hx := HG.out; simp only [if_true] at hx
              exact ⟨2 * i + 2, _, by go_num, by omega, hx.symm, (HP.out.drewN _).swap hS⟩
            case measure => simp [intOf]; omega
      · have hj : (if 2 * i + 2 < n && lessAt Lc (2 * i + 2) (2 * i + 1) then 2 * i + 2 else 2 * i + 1) = 2 * i + 1 := by simp [h2]
        have HG := Lib.hid (downL_go hst hj)
        rw [lessAt_eq he1 hei, HU.out] at HG
        cases hc : lessE e1 ei
        · clear hei he1 hP hq hQ h nQ hj
          have HC := Lib.hid hc; clear hc
          rw [HC.out] at HG
          go_wp2_with fail
          refine (less_any' _ v Lc HP.out.rep _ _ _ _ e1 ei HE1.out HEI.out _ HC.out (by omega) (by omega)).mono ?_; rintro e w' ⟨rfl, n2, rfl⟩
          go_wp2_with fail
          go_ret
          have hx := HG.out; simp only [Bool.false_eq_true, if_false] at hx
          exact ⟨ret_bool (by rw [hx]), by rw [hx]; exact HP.out.drewN _⟩
        · clear hei he1 hP hq hQ h nQ hj
          have HC := Lib.hid hc; clear hc
          rw [HC.out] at HG
          go_wp2_with fail
          refine (less_any' _ v Lc HP.out.rep _ _ _ _ e1 ei HE1.out HEI.out _ HC.out (by omega) (by omega)).mono ?_; rintro e w' ⟨rfl, n2, rfl⟩
          go_wp2_with fail
          refine (swap_ne' _ v Lc (HP.out.rep.drewN _) _ _ i (2 * i + 1) ei e1 HEI.out HE1.out (by omega) (by omega) (by omega)).mono ?_; rintro e w' ⟨rfl, hS⟩
          go_wp2_with fail
          go_roundw
          case rel =>
            have hx := HG.out; simp only [if_true] at hx
            exact ⟨2 * i + 1, _, by go_num, by omega, hx.symm, (HP.out.drewN _).swap hS⟩
          case measure => simp [intOf]; omega

end Go.Proofs.YtjcgkmodmjckjaaGreat.U

namespace Go.Proofs.YtjcgkmodmjckjaaGreat.U
open Go.RowKit

/-- Q is the queue's struct: the slice v, the map m, the clock t. -/
def QBlk (w : World) (Q : Nat) (v m : Value) (t : Int) : Prop := w.heap[Q]? = some (.cells #[v, m, .int .i64 t] 178 (0, 0))

theorem QBlk.c0 {w : World} {Q : Nat} {v m : Value} {t : Int} (h : QBlk w Q v m t) : w.cell? ⟨Q, 0, none⟩ = some v := by rw [cell_of_blk h]; rfl
theorem QBlk.c1 {w : World} {Q : Nat} {v m : Value} {t : Int} (h : QBlk w Q v m t) : w.cell? ⟨Q, 1, none⟩ = some m := by rw [cell_of_blk h]; rfl
theorem QBlk.c2 {w : World} {Q : Nat} {v m : Value} {t : Int} (h : QBlk w Q v m t) : w.cell? ⟨Q, 2, none⟩ = some (.int .i64 t) := by rw [cell_of_blk h]; rfl

theorem QBlk.nfoot {w : World} {Q : Nat} {v m : Value} {t : Int} (h : QBlk w Q v m t) {L : List Ent} (hr : HRep w v L) : ¬ hfoot v L Q := by
  rintro (hb | ⟨e, he, rfl⟩)
  · rcases hr.row.2 with ⟨hv, _⟩ | ⟨g, cap, cur, hv, _, hg, _⟩
    · rw [hv] at hb; simp [Value.ownBlock] at hb
    · rw [hv] at hb; simp [Value.ownBlock] at hb
      subst hb
      unfold QBlk at h; rw [hg] at h; simp at h
  · obtain ⟨j, hj⟩ := List.mem_iff_getElem?.1 he
    have := hr.ent j e hj
    unfold QBlk at h; rw [this] at h; simp at h

theorem HPost.qblk {w w' : World} {v m : Value} {L L' : List Ent} (h : HPost w v L L' w') {Q : Nat} {t : Int} (hQ : QBlk w Q v m t) (hr : HRep w v L) : QBlk w' Q v m t := h.keeps.heap hQ (hQ.nfoot hr)

theorem HRep.isSlice {w : World} {v : Value} {L : List Ent} (h : HRep w v L) : ∃ ao cap, v = .slice ao L.length cap := by
  rcases h.row.2 with ⟨hv, h0⟩ | ⟨g, cap, cur, hv, _⟩
  · exact ⟨none, 0, by rw [hv, h0]⟩
  · exact ⟨_, _, hv⟩

set_option maxRecDepth 100000 in
set_option maxHeartbeats 400000 in
theorem len_any (w : World) (v : Value) (L : List Ent) (h : HRep w v L) :
    Calls Tryz.prog 196 #[v] w fun e w' => e = .returned (.int .i64 (L.length : Int)) ∧ w = w' := by
  obtain ⟨ao, cap, rfl⟩ := h.isSlice
  clear h
  go_enter Tryz.func196, Tryz.ntmps196
  go_wp2
  go_ret
  exact ⟨rfl, rfl⟩

def fixL (L : List Ent) (i : Nat) : List Ent := if i < (downL L L.length i).2 then (downL L L.length i).1 else upL (downL L L.length i).1 i

set_option maxRecDepth 100000 in
set_option maxHeartbeats 1000000 in
theorem fix_any (w : World) (Q : Nat) (v m : Value) (t : Int) (L : List Ent) (h : HRep w v L) (hQ : QBlk w Q v m t) (x : Int) (i : Nat) (hi : i < L.length) (hx : x = (i : Int)) :
    Calls Tryz.prog 73 #[.iface 183 (.pointer (some ⟨Q, 0, none⟩)), .int .i64 x] w fun e w' => e = .returned (.tuple #[]) ∧ HPost w v L (fixL L i) w' := by
  subst hx
  have hsm := h.small
  have mN := method_Len hQ.c0
  have H0 := Lib.hid h
  have HQ := Lib.hid hQ
  have HF : Hid (fixL L i = if i < (downL L L.length i).2 then (downL L L.length i).1 else upL (downL L L.length i).1 i) := rfl
  clear h hQ
  by_cases hd : i < (downL L L.length i).2
  · have HD := hid_true hd
    rw [if_pos hd] at HF
    clear hd
    go_enter Tryz.func73, Tryz.ntmps73
    go_wp2_with fail
    refine (len_any _ v L H0.out).mono ?_; rintro e w' ⟨rfl, rfl⟩
    go_wp2_with fail
    refine (down_any _ Q v L H0.out HQ.out.c0 (HQ.out.nfoot H0.out) i L.length (Nat.le_refl _) (by omega)).mono ?_; rintro e w' ⟨he, hP⟩; rw [HD.out] at he; subst he
    go_wp2_with fail
    go_end0
    exact ⟨rfl, by rw [HF.out]; exact hP⟩
  · have HD := hid_false hd
    rw [if_neg hd] at HF
    clear hd
    go_enter Tryz.func73, Tryz.ntmps73
    go_wp2_with fail
    refine (len_any _ v L H0.out).mono ?_; rintro e w' ⟨rfl, rfl⟩
    go_wp2_with fail
    refine (down_any _ Q v L H0.out HQ.out.c0 (HQ.out.nfoot H0.out) i L.length (Nat.le_refl _) (by omega)).mono ?_; rintro e w' ⟨he, hP⟩; rw [HD.out] at he; subst he
    go_wp2_with fail
    refine (up_any _ Q v _ hP.rep (hP.qblk HQ.out H0.out).c0 ((hP.qblk HQ.out H0.out).nfoot hP.rep) i (by rw [hP.len]; exact hi)).mono ?_; rintro e w'' ⟨rfl, hP2⟩
    go_wp2_with fail
    go_end0
    exact ⟨rfl, by rw [HF.out]; exact hP.trans hP2⟩

/-! ### the slice's own Pop -/
structure PopPost (w : World) (Q : Nat) (v m : Value) (t : Int) (L : List Ent) (w' : World) (v' : Value) : Prop where
  rep : HRep w' v' L
  q : QBlk w' Q v' m t
  keeps : Keeps (fun b => b = Q) w w'
  own : v'.ownBlock = v.ownBlock

theorem HRep.pop {w : World} {H cap : Nat} {L : List Ent} {e : Ent} {n : Nat} (h : HRep w (.slice (some ⟨H, 0, none⟩) n cap) (L ++ [e])) : HRep w (.slice (some ⟨H, 0, none⟩) L.length cap) L := by
  refine ⟨?_, ?_, ?_⟩
  · rcases h.row.2 with ⟨hv, _⟩ | ⟨g, cap', cur, hv, hb, hg, hn, hm, hs, ht⟩
    · simp at hv
    · simp only [Value.slice.injEq, Option.some.injEq, Addr.mk.injEq, and_true] at hv
      obtain ⟨rfl, _, rfl⟩ := hv
      refine ⟨by simp, .inr ⟨H, cap, cur, rfl, hb, hg, ?_, hm, hs, ?_⟩⟩
      · simp at hn; omega
      · have : (cur.toList.take ((L ++ [e]).length * 1)).take (L.length * 1) = ((L ++ [e]).map Ent.ptr).take (L.length * 1) := by rw [ht]
        rw [List.take_take] at this
        rw [show min (L.length * 1) ((L ++ [e]).length * 1) = L.length * 1 by simp] at this
        rw [this]; simp
  · intro i x hi
    have hl : i < L.length := (List.getElem?_eq_some_iff.1 hi).1
    exact h.ent i x (by rw [List.getElem?_append_left hl]; exact hi)
  · have := h.small; simp at this; omega

theorem pop_post {w : World} {Q H cap : Nat} {m : Value} {t : Int} {L : List Ent} {e : Ent} {n : Nat} (h : HRep w (.slice (some ⟨H, 0, none⟩) n cap) (L ++ [e])) (hQ : QBlk w Q (.slice (some ⟨H, 0, none⟩) n cap) m t) (d : Nat) :
    PopPost w Q (.slice (some ⟨H, 0, none⟩) n cap) m t L ((w.setCell ⟨Q, 0, none⟩ (.slice (some ⟨H, 0, none⟩) L.length cap)).drewN d) (.slice (some ⟨H, 0, none⟩) L.length cap) := by
  have nQ := hQ.nfoot h
  refine ⟨HRep.drewN (h.pop.keeps (S := fun b => b = Q) ((Keeps.refl (fun b => b = Q) w).setCell (p := ⟨Q, 0, none⟩) (.inl rfl) _) ?_) _, ?_, ((Keeps.refl (fun b => b = Q) w).setCell (p := ⟨Q, 0, none⟩) (.inl rfl) _).drewN _, rfl⟩
  · rintro b hb rfl
    apply nQ
    rcases hb with hb | ⟨x, hx, rfl⟩
    · exact .inl hb
    · exact .inr ⟨x, by simp [hx], rfl⟩
  · unfold QBlk
    rw [blk_drewN, blk_set_same hQ]; rfl

set_option maxRecDepth 100000 in
set_option maxHeartbeats 1000000 in
theorem opop_any (w : World) (Q : Nat) (v m : Value) (t : Int) (L : List Ent) (e0 : Ent) (h : HRep w v (L ++ [e0])) (hQ : QBlk w Q v m t) :
    Calls Tryz.prog 199 #[.pointer (some ⟨Q, 0, none⟩)] w fun e w' => e = .returned (.iface 179 (.pointer (some ⟨e0.blk, 0, none⟩))) ∧ ∃ v', PopPost w Q v m t L w' v' := by
  have hsm := h.small
  obtain ⟨H, cap, cur, hv, hH, hcs, hcl, -⟩ := h.form (by simp)
  have hlen : (L ++ [e0]).length = L.length + 1 := by simp
  have hlast := h.cell hv (i := L.length) (e := e0) (by simp)
  rw [hlen] at hv hsm hcl
  subst hv
  have c0 := hQ.c0
  have f0 : w.frozen? ⟨Q, 0, none⟩ = false := frozen_of_blk hQ
  have HP := Lib.hid (fun d => pop_post h hQ d)
  have e1 : ((L.length + 1 : Nat) : Int) - 1 = (L.length : Int) := by omega
  clear h hQ hH hcs hlen
  go_enter Tryz.func199, Tryz.ntmps199
  go_wp2
  go_ret
  exact ⟨rfl, _, HP.out 0⟩

/-- What heap.Pop leaves: the list behind the swap and the sinking, its last element. -/
def popL (L : List Ent) : List Ent := (downL (swp L 0 (L.length - 1)) (L.length - 1) 0).1

theorem length_downL (L : List Ent) (n i : Nat) : (downL L n i).1.length = L.length := by
  induction hm : n - i using Nat.strongRecOn generalizing L i with
  | _ m ih =>
    by_cases h : n ≤ 2 * i + 1
    · rw [downL_stop h]
    · rw [downL_go h rfl]
      generalize hj : (if (decide (2 * i + 2 < n) && lessAt L (2 * i + 2) (2 * i + 1)) = true then 2 * i + 2 else 2 * i + 1) = j
      have hij : i < j := by subst hj; split <;> omega
      split
      · rw [ih (n - j) (by omega) _ _ rfl, length_swp]
      · rfl

theorem length_popL (L : List Ent) : (popL L).length = L.length := by unfold popL; rw [length_downL, length_swp]

structure TookPost (w : World) (Q : Nat) (v m : Value) (t : Int) (L R : List Ent) (e0 : Ent) (w' : World) (v' : Value) : Prop where
  rep : HRep w' v' R
  q : QBlk w' Q v' m t
  ent0 : ∃ x, w'.heap[e0.blk]? = some (.cells #[.int .u32 e0.item, .int .i64 e0.key, .int .i64 e0.time, x] 182 (0, 0))
  keeps : Keeps (fun b => b = Q ∨ hfoot v L b) w w'
  sub : ∀ b, hfoot v' R b → hfoot v L b

theorem swap_any' (w : World) (v : Value) (L : List Ent) (h : HRep w v L) (x y : Int) (i k : Nat) (hi : i < L.length) (hk : k < L.length) (hx : x = (i : Int)) (hy : y = (k : Int)) :
    Calls Tryz.prog 198 #[v, .int .i64 x, .int .i64 y] w fun e w' => e = .returned (.tuple #[]) ∧ SwapPost w v L i k w' := by
  subst hx hy
  by_cases e : i = k
  · subst e; exact swap_eq w v L h i _ (List.getElem?_eq_getElem hi)
  · exact swap_ne w v L h i k _ _ (List.getElem?_eq_getElem hi) (List.getElem?_eq_getElem hk) e

theorem took_post {w w1 w2 : World} {Q : Nat} {v m : Value} {t : Int} {L R : List Ent} {e0 : Ent} {v' : Value} (hr : HRep w v L) (hQ : QBlk w Q v m t) (hP : HPost w v L (R ++ [e0]) w1) (hO : PopPost w1 Q v m t R w2 v') : TookPost w Q v m t L R e0 w2 v' := by
  have hE := hP.rep.ent R.length e0 (by simp)
  have nQ := hQ.nfoot hr
  have hin : hfoot v L e0.blk := hP.sub _ (.inr ⟨e0, by simp, rfl⟩)
  refine ⟨hO.rep, hO.q, ⟨_, hO.keeps.heap hE ?_⟩, ?_, ?_⟩
  · rintro rfl; exact nQ hin
  · exact (hP.keeps.mono (fun b _ hb => .inr hb)).trans (hO.keeps.mono (fun b _ hb => .inl hb))
  · intro b hb
    apply hP.sub
    rcases hb with hb | ⟨x, hx, rfl⟩
    · exact .inl (by rw [← hO.own]; exact hb)
    · exact .inr ⟨x, by simp [hx], rfl⟩

set_option maxRecDepth 100000 in
set_option maxHeartbeats 1000000 in
theorem hpop_any (w : World) (Q : Nat) (v m : Value) (t : Int) (L : List Ent) (h : HRep w v L) (hQ : QBlk w Q v m t) (R : List Ent) (e0 : Ent) (hR : popL L = R ++ [e0]) :
    Calls Tryz.prog 75 #[.iface 183 (.pointer (some ⟨Q, 0, none⟩))] w fun e w' => e = .returned (.iface 179 (.pointer (some ⟨e0.blk, 0, none⟩))) ∧ ∃ v', TookPost w Q v m t L R e0 w' v' := by
  have hsm := h.small
  have hlen : L.length = R.length + 1 := by rw [← length_popL L, hR]; simp
  have mN := method_Len hQ.c0
  have mS := method_Swap hQ.c0
  have H0 := Lib.hid h
  have HQ := Lib.hid hQ
  have HR := Lib.hid hR
  have HL := Lib.hid hlen
  have hr1 : R.length + 1 ≤ 1000000 := by omega
  clear h hQ hR hlen hsm
  have mP := fun w => method_Pop_raw ⟨Q, 0, none⟩ w
  go_enter Tryz.func75, Tryz.ntmps75
  go_wp2_with fail
  refine (len_any _ v L H0.out).mono ?_; rintro e w' ⟨he, rfl⟩; rw [HL.out] at he; subst he
  go_wp2_with fail
  refine (swap_any' _ v L H0.out _ _ 0 R.length (by have := HL.out; omega) (by have := HL.out; omega) (by omega) (by omega)).mono ?_; rintro e w1 ⟨rfl, hS⟩
  have hP1 := (HPost.refl H0.out).swap hS
  go_wp2_with fail
  refine (down_any _ Q v _ hP1.rep (hP1.qblk HQ.out H0.out).c0 ((hP1.qblk HQ.out H0.out).nfoot hP1.rep) 0 R.length (by have := hP1.len; have := HL.out; omega) (by omega)).mono ?_; rintro e w2 ⟨rfl, hP2⟩
  have hP3 := hP1.trans hP2
  have e4 : (downL (swp L 0 R.length) R.length 0).1 = R ++ [e0] := by
    have := HR.out; unfold popL at this; rw [HL.out] at this; exact this
  rw [e4] at hP3
  have HP3 := Lib.hid hP3
  clear hP1 hP2 hP3 hS e4
  go_wp2_with fail
  refine (opop_any _ Q v m t R e0 HP3.out.rep (HP3.out.qblk HQ.out H0.out)).mono ?_; rintro e w3 ⟨rfl, v', hO⟩
  have hT := Lib.hid (took_post H0.out HQ.out HP3.out hO)
  clear hO
  go_wp2_with fail
  go_ret
  exact ⟨rfl, v', hT.out⟩

end Go.Proofs.YtjcgkmodmjckjaaGreat.U
