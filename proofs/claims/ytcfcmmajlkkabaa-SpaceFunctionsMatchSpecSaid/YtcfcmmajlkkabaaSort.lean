/- cmp.Compare at int, slices.Compare at []int, the comparison of two words. -/
import Derived.Test.YtcfcmmajlkkabaaWord
import Derived.Test.YtcfcmmajlkkabaaShelf
import Derived.Sort.OwnSorted
namespace Go.Proofs.Ytcfcmmajlkkabaa
open Go.RowKit

def cmpI (a b : Int) : Int := if a < b then -1 else if b < a then 1 else 0

def cmpL : List Int → List Int → Int
  | [], [] => 0
  | [], _ :: _ => -1
  | _ :: _, [] => 1
  | a :: r, b :: s => if a < b then -1 else if b < a then 1 else cmpL r s

theorem nan_any (w : World) (x : Int) : Calls Try.prog 126 #[.int .i64 x] w fun e w' => e = .returned (.bool false) ∧ w = w' := by
  go_enter Try.func126, Try.ntmps126
  go_wp2_with fail
  go_ret
  exact ⟨rfl, rfl⟩

set_option maxHeartbeats 1000000 in
theorem compare_any (w : World) (x y : Int) : Calls Try.prog 109 #[.int .i64 x, .int .i64 y] w fun e w' => e = .returned (.int .i64 (cmpI x y)) ∧ w = w' := by
  by_cases h1 : x < y
  · have hf : Hid (cmpI x y = -1) := by unfold Hid cmpI; rw [if_pos h1]
    go_enter Try.func109, Try.ntmps109
    go_wp2_with (go_at_call 126; refine (nan_any _ _).mono ?_; rintro e w' ⟨rfl, rfl⟩)
    go_ret
    exact ⟨by rw [hf.out]; rfl, rfl⟩
  · by_cases h2 : y < x
    · have hf : Hid (cmpI x y = 1) := by unfold Hid cmpI; rw [if_neg h1, if_pos h2]
      go_enter Try.func109, Try.ntmps109
      go_wp2_with (go_at_call 126; refine (nan_any _ _).mono ?_; rintro e w' ⟨rfl, rfl⟩)
      go_ret
      exact ⟨by rw [hf.out]; rfl, rfl⟩
    · have hf : Hid (cmpI x y = 0) := by unfold Hid cmpI; rw [if_neg h1, if_neg h2]
      go_enter Try.func109, Try.ntmps109
      go_wp2_with (go_at_call 126; refine (nan_any _ _).mono ?_; rintro e w' ⟨rfl, rfl⟩)
      go_ret
      exact ⟨by rw [hf.out]; rfl, rfl⟩

theorem cmpL_step {a b : List Int} {k : Nat} {x y : Int} (hx : a[k]? = some x) (hy : b[k]? = some y) : cmpL (a.drop k) (b.drop k) = if x < y then -1 else if y < x then 1 else cmpL (a.drop (k + 1)) (b.drop (k + 1)) := by
  obtain ⟨h1, h2⟩ := List.getElem?_eq_some_iff.1 hx
  obtain ⟨h3, h4⟩ := List.getElem?_eq_some_iff.1 hy
  rw [List.drop_eq_getElem_cons h1, List.drop_eq_getElem_cons h3, h2, h4, cmpL]

theorem cmpL_long {a b : List Int} {k : Nat} (h1 : k < a.length) (h2 : b.length ≤ k) : cmpL (a.drop k) (b.drop k) = 1 := by
  rw [List.drop_eq_getElem_cons h1, List.drop_eq_nil_of_le h2, cmpL]
theorem cmpL_short {a b : List Int} {k : Nat} (h1 : a.length ≤ k) (h2 : k < b.length) : cmpL (a.drop k) (b.drop k) = -1 := by
  rw [List.drop_eq_getElem_cons h2, List.drop_eq_nil_of_le h1, cmpL]
theorem cmpL_end {a b : List Int} {k : Nat} (h1 : a.length ≤ k) (h2 : b.length ≤ k) : cmpL (a.drop k) (b.drop k) = 0 := by
  rw [List.drop_eq_nil_of_le h1, List.drop_eq_nil_of_le h2, cmpL]

set_option maxHeartbeats 1000000 in
theorem sliceCompare_any (w : World) (va vb : Value) (a b : List Int) (ha : Ints w va a) (hb : Ints w vb b) :
    Calls Try.prog 91 #[va, vb] w fun e w' => e = .returned (.int .i64 (cmpL a b)) ∧ w = w' := by
  obtain ⟨ao, ca, hva, ma⟩ := ha.form
  obtain ⟨bo, cb, hvb, mb⟩ := hb.form
  have CA := Lib.hid (ha.cell hva)
  have CB := Lib.hid (hb.cell hvb)
  subst hva hvb
  clear ha hb
  go_enter Try.func91, Try.ntmps91
  go_wp2_with fail
  go_loop [11] (fun i => ∃ k : Nat, k ≤ a.length ∧ k ≤ b.length ∧ i = .int .i64 (k : Int) ∧ cmpL a b = cmpL (a.drop k) (b.drop k)) (fun i => a.length - (intOf i).toNat)
  case atStart => exact ⟨0, Nat.zero_le _, Nat.zero_le _, rfl, rfl⟩
  case round =>
    obtain ⟨k, hk, hk2, rfl, ht⟩ := hrel
    have HT := Lib.hid ht; clear ht
    by_cases hlt : k < a.length
    · obtain ⟨ba, oa, rfl, ha'⟩ := CA.out (by omega)
      obtain ⟨x, hx⟩ : ∃ x, a[k]? = some x := ⟨_, List.getElem?_eq_getElem hlt⟩
      have ha1 := ha' k _ hx
      by_cases hlt2 : k < b.length
      · obtain ⟨bb, ob, rfl, hb'⟩ := CB.out (by omega)
        obtain ⟨y, hy⟩ : ∃ y, b[k]? = some y := ⟨_, List.getElem?_eq_getElem hlt2⟩
        have hb1 := hb' k _ hy
        have HS := Lib.hid (cmpL_step hx hy)
        clear ha' hb' hx hy
        by_cases hz : cmpI x y = 0
        · have hne : (cmpI x y != 0) = false := by simpa using hz
          have HN : Hid (cmpL a b = cmpL (a.drop (k + 1)) (b.drop (k + 1))) := by
            unfold Hid
            rw [HT.out, HS.out]
            unfold cmpI at hz
            by_cases h1 : x < y
            · rw [if_pos h1] at hz; cases hz
            · rw [if_neg h1] at hz ⊢
              by_cases h2 : y < x
              · rw [if_pos h2] at hz; cases hz
              · rw [if_neg h2]
          clear hz
          go_wp2_with fail
          refine (compare_any _ _ _).mono ?_; rintro e w1 ⟨rfl, rfl⟩
          generalize cmpI x y = c at hne ⊢
          go_wp2_with fail
          go_round
          case rel => exact ⟨k + 1, by omega, by omega, by go_num, HN.out⟩
          case measure => simp [intOf]; omega
        · have hne : (cmpI x y != 0) = true := by simpa using hz
          have HN : Hid (cmpL a b = cmpI x y) := by
            unfold Hid
            rw [HT.out, HS.out]
            unfold cmpI at hz ⊢
            by_cases h1 : x < y
            · rw [if_pos h1, if_pos h1]
            · rw [if_neg h1] at hz ⊢
              by_cases h2 : y < x
              · rw [if_pos h2, if_neg h1, if_pos h2]
              · rw [if_neg h2] at hz; exact absurd rfl hz
          clear hz
          go_wp2_with fail
          refine (compare_any _ _ _).mono ?_; rintro e w1 ⟨rfl, rfl⟩
          generalize cmpI x y = c at hne HN ⊢
          go_wp2_with fail
          go_ret
          exact ⟨congrArg (fun u : Int => Ending.returned (Value.int .i64 u)) HN.out.symm, rfl⟩
      · have HN : Hid (cmpL a b = 1) := by unfold Hid; rw [HT.out]; exact cmpL_long hlt (by omega)
        clear ha' hx
        go_wp2_with fail
        go_ret
        exact ⟨congrArg (fun u : Int => Ending.returned (Value.int .i64 u)) HN.out.symm, rfl⟩
    · by_cases hlt2 : k < b.length
      · have HN : Hid (cmpL a b = -1) := by unfold Hid; rw [HT.out]; exact cmpL_short (by omega) hlt2
        have hl : a.length < b.length := by omega
        go_wp2_with fail
        go_ret
        exact ⟨congrArg (fun u : Int => Ending.returned (Value.int .i64 u)) HN.out.symm, rfl⟩
      · have HN : Hid (cmpL a b = 0) := by unfold Hid; rw [HT.out]; exact cmpL_end (by omega) (by omega)
        have hl : b.length ≤ a.length := by omega
        go_wp2_with fail
        go_ret
        exact ⟨congrArg (fun u : Int => Ending.returned (Value.int .i64 u)) HN.out.symm, rfl⟩

/-- How two words compare. -/
def cmpW (x y : Nat) : Int := cmpL (facts x) (facts y)

set_option maxHeartbeats 1000000 in
theorem checked1_any (w : World) (x y : Nat) :
    Calls Try.prog 90 #[.int .u32 (x : Int), .int .u32 (y : Int)] w fun e w' => e = .returned (.int .i64 (cmpW x y)) ∧ Keeps (fun _ => False) w w' ∧ w.drawn ≤ w'.drawn := by
  go_enter Try.func90, Try.ntmps90
  go_wp2_with fail
  refine (facts_any _ _).mono ?_; rintro e w1 ⟨va, rfl, ho, hk, hd1⟩
  have OA := Lib.hid (Ints.of_own ho)
  have K1 := Lib.hid hk
  clear ho hk
  go_wp2_with fail
  refine (facts_any _ _).mono ?_; rintro e w2 ⟨vb, rfl, ho, hk, hd2⟩
  have OB := Lib.hid (Ints.of_own ho)
  have K2 := Lib.hid hk
  clear ho hk
  go_wp2_with fail
  refine (sliceCompare_any _ _ _ _ _ (OA.out.keeps0 K2.out) OB.out).mono ?_; rintro e w3 ⟨rfl, rfl⟩
  go_wp2_with fail
  go_ret
  exact ⟨rfl, K1.out.trans K2.out, Nat.le_trans hd1 hd2⟩

end Go.Proofs.Ytcfcmmajlkkabaa

/- slices.SortFunc over words, by the library's contract. -/
namespace Go.Proofs.Ytcfcmmajlkkabaa
open Go.RowKit Go.Sort Go.Proofs

/-! ### lists compare as a strict order -/
theorem cmpL_self (a : List Int) : cmpL a a = 0 := by
  induction a with
  | nil => rfl
  | cons x r ih => rw [cmpL, if_neg (by omega), if_neg (by omega), ih]

theorem cmpL_eq : ∀ {a b : List Int}, cmpL a b = 0 → a = b
  | [], [], _ => rfl
  | [], _ :: _, h => by rw [cmpL] at h; cases h
  | _ :: _, [], h => by rw [cmpL] at h; cases h
  | x :: r, y :: s, h => by
    rw [cmpL] at h
    split at h
    · cases h
    · split at h
      · cases h
      · rw [cmpL_eq h]; congr 1; omega

theorem cmpL_neg : ∀ (a b : List Int), cmpL b a = - cmpL a b
  | [], [] => rfl
  | [], _ :: _ => rfl
  | _ :: _, [] => rfl
  | x :: r, y :: s => by
    rw [cmpL, cmpL]
    by_cases h1 : x < y
    · have h2 : ¬ y < x := by omega
      simp [h1, h2]
    · by_cases h2 : y < x
      · simp [h1, h2]
      · simp only [h1, h2, if_false]; exact cmpL_neg r s

theorem cmpL_trans : ∀ {a b c : List Int}, cmpL a b < 0 → cmpL b c < 0 → cmpL a c < 0
  | [], [], _, h, _ => by rw [cmpL] at h; omega
  | [], _ :: _, [], _, h => by rw [cmpL] at h; omega
  | [], _ :: _, _ :: _, _, _ => by rw [cmpL]; omega
  | _ :: _, [], _, h, _ => by rw [cmpL] at h; omega
  | _ :: _, _ :: _, [], _, h => by rw [cmpL] at h; omega
  | x :: r, y :: s, z :: t, h1, h2 => by
    rw [cmpL] at h1 h2 ⊢
    split at h1
    · split at h2
      · rw [if_pos (by omega)]; omega
      · split at h2
        · omega
        · rw [if_pos (by omega)]; omega
    · split at h1
      · omega
      · split at h2
        · rw [if_pos (by omega)]; omega
        · split at h2
          · omega
          · rw [if_neg (by omega), if_neg (by omega)]; exact cmpL_trans h1 h2

theorem swoW : SWO (ltOf cmpW) where
  irrefl x := by unfold ltOf cmpW; rw [cmpL_self]; rfl
  trans x y z h1 h2 := by
    unfold ltOf cmpW at *
    rw [decide_eq_true_eq] at *
    exact cmpL_trans h1 h2
  ntrans x y z h1 h2 := by
    unfold ltOf cmpW at *
    rw [decide_eq_false_iff_not] at *
    intro h3
    have n1 := cmpL_neg (facts x) (facts y)
    have n2 := cmpL_neg (facts y) (facts z)
    by_cases e1 : cmpL (facts x) (facts y) = 0
    · rw [cmpL_eq e1] at h3; exact h2 h3
    · have : cmpL (facts y) (facts x) < 0 := by omega
      exact h2 (cmpL_trans this h3)

def encW (x : Nat) : Value := .int .u32 (x : Int)

/-! ### the two vocabularies -/
theorem holdsW_of_block {w : World} {g : Nat} {cur : Array Value} {e : TypeId} {ss : List Nat} (hb : w.heap[g]? = some (.cells cur e (0, 0))) (ht : cur.toList.take ss.length = ss.map encW) : Holds encW w g 0 ss.toArray := by
  intro j hj
  have hj' : j < ss.length := by simpa using hj
  refine ⟨?_, by simp [World.frozen?, hb]⟩
  have h1 : (cur.toList.take ss.length)[j]? = (ss.map encW)[j]? := by rw [ht]
  rw [List.getElem?_take_of_lt hj'] at h1
  simp only [World.cell?, hb, Nat.zero_add]
  simp only [Option.isSome_none, Bool.false_eq_true, if_false]
  rw [← Array.getElem?_toList, h1]
  simp [hj']

theorem take_putCellsW (cur : Array Value) (ts : List Nat) (h : ts.length ≤ cur.size) : (putCells encW 0 ts.toArray cur).toList.take ts.length = ts.map encW := by
  apply List.ext_getElem?
  intro j
  by_cases hj : j < ts.length
  · rw [List.getElem?_take_of_lt hj, Array.getElem?_toList]
    simp [putCells, hj, show j < cur.size by omega]
  · rw [List.getElem?_take_eq_none (by omega), List.getElem?_eq_none (by simp; omega)]

theorem heap_sortedW {w : World} {g n : Nat} {os : Array Obj} {cur : Array Value} {e : TypeId} {fr : Nat × Nat} (d : Array Nat) (hb : w.heap[g]? = some (.cells cur e fr)) :
    (sortWorld encW w g 0 n d os).heap[g]? = some (.cells (putCells encW 0 d cur) e fr) := by
  have hg : g < w.heap.size := (Array.getElem?_eq_some_iff.1 hb).1
  unfold sortWorld
  rw [heap_grow_old _ _ (by simpa using hg)]
  simp [putRow, mapBlock, Sort.ahead, Array.getElem?_modify, hb, onCells]

theorem keeps_sortedW {w : World} {g n : Nat} {os : Array Obj} (d : Array Nat) : Keeps (fun b => b = g) w (sortWorld encW w g 0 n d os) := by
  unfold sortWorld
  refine ⟨rfl, rfl, rfl, by simp, fun k hk hne => ?_⟩
  rw [heap_grow_old _ _ (by simpa using hk)]
  have : g ≠ k := fun e => hne e.symm
  simp [putRow, mapBlock, Sort.ahead, Array.getElem?_modify, this]

theorem cmpLaysW (blk off size : Nat) (w : World) : CmpLays1 Try.prog 90 #[] encW cmpW blk off size w := by
  intro m os dk hs x y
  refine (checked1_any _ x y).mono ?_
  rintro e w' ⟨he, hk, hd⟩
  refine ⟨he, ?_⟩
  obtain ⟨q, os', hw⟩ := grow_of_keeps hk hd
  exact ⟨q, os', hw⟩

theorem sort_any (w : World) (base : Nat) (T : TypeId) (v : Value) (ws : List Nat) (hown : w.ownsRow base T 1 v ws.length (ws.map encW)) (hlen : ws.length < 4611686018427387904) :
    Calls Try.prog 89 #[v, .func (.func 90) #[] #[]] w fun e w' => e = .returned (.tuple #[]) ∧ ∃ ws' : List Nat, ws'.Perm ws ∧ ws'.Pairwise (fun a b => ¬ cmpW b a < 0) ∧ w'.ownsRow base T 1 v ws'.length (ws'.map encW) ∧ Keeps (fun b => v.ownBlock = some b) w w' := by
  have eg : ∀ args w, (callFunc 90 args).run Try.prog w = .ok (.enter 90 args) w := enters_of Try.func90 (by kernel_rfl) rfl
  rcases hown.2 with ⟨rfl, h0⟩ | ⟨g, cap, cur, rfl, hb, hg, hn, hm, hs, ht⟩
  · have hz : ws = [] := List.length_eq_zero_iff.1 h0
    subst hz
    refine (Try.slices_SortFunc_none (α := Nat) none 0 _ w).mono ?_
    rintro e w' ⟨rfl, rfl⟩
    exact ⟨rfl, [], List.Perm.refl _, List.Pairwise.nil, World.ownsRow_nil _ _ _ _, Keeps.refl _ _⟩
  · have ht' : cur.toList.take ws.length = ws.map encW := by simpa using ht
    have hH := holdsW_of_block hg ht'
    have hl := lt_of_heap hg
    have hc := Try.slices_SortFunc encW (fun _ => rfl) cmpW swoW 90 #[] g 0 cap ws.toArray w eg (cmpLaysW g 0 _ w) hH hl (by simpa using hlen)
    simp only [List.size_toArray] at hc
    refine hc.mono ?_
    rintro e w' ⟨rfl, d', n, os, hp, hsort, rfl⟩
    obtain ⟨hsz, _, hperm⟩ := hp
    simp only [List.size_toArray] at hsz
    have hd : (d'.extract 0 ws.length).toList = d'.toList := by rw [← hsz]; simp
    have hd2 : (ws.toArray.extract 0 ws.length).toList = ws := by simp
    rw [hd, hd2] at hperm
    refine ⟨rfl, d'.toList, hperm, ?_, ?_, (keeps_sortedW _).mono (fun i _ h => by subst h; rfl)⟩
    · rw [List.pairwise_iff_getElem]
      intro i j hi hj hij
      have hj' : j < d'.size := by simpa using hj
      have := hsort i j (by omega) hij (by omega)
      unfold ltOf at this
      rw [decide_eq_false_iff_not, getElem!_pos d' i (by omega), getElem!_pos d' j hj'] at this
      simpa using this
    · have hll : d'.toList.length = ws.length := by simpa using hsz
      refine ⟨by simp, .inr ⟨g, cap, _, by rw [hll], hb, heap_sortedW d' hg, by rw [hll]; exact hn, hm, by simp [putCells, hs], ?_⟩⟩
      have := take_putCellsW cur d'.toList (by omega)
      simpa using this

end Go.Proofs.Ytcfcmmajlkkabaa
