/- slices.SortFunc over words, by the library's contract. -/
import Derived.Test.YtcfcmmajlkkabaaCmp
import Derived.Test.YtcfcmmajlkkabaaShelf
import Derived.Sort.OwnSorted
namespace Go.Proofs.Ytcfcmmajlkkabaa
open Go.RowKit Go.Sort Go.Proofs

/-! ### lists compare as a strict order -/
theorem cmpL_self (a : List Int) : cmpL a a = 0 := by
  induction a with
  | nil => rfl
  | cons x r ih => rw [cmpL, if_neg (by omega), if_neg (by omega), ih]

theorem cmpL_eq : ∀ {a b : List Int}, cmpL a b = 0 → a = b
  | [], [], _ => rfl
  | [], _ :: _, h => by rw [cmpL] at h; cases h
  | _ :: _, [], h => by rw [cmpL] at h; cases h
  | x :: r, y :: s, h => by
    rw [cmpL] at h
    split at h
    · cases h
    · split at h
      · cases h
      · rw [cmpL_eq h]; congr 1; omega

theorem cmpL_neg : ∀ (a b : List Int), cmpL b a = - cmpL a b
  | [], [] => rfl
  | [], _ :: _ => rfl
  | _ :: _, [] => rfl
  | x :: r, y :: s => by
    rw [cmpL, cmpL]
    by_cases h1 : x < y
    · have h2 : ¬ y < x := by omega
      simp [h1, h2]
    · by_cases h2 : y < x
      · simp [h1, h2]
      · simp only [h1, h2, if_false]; exact cmpL_neg r s

theorem cmpL_trans : ∀ {a b c : List Int}, cmpL a b < 0 → cmpL b c < 0 → cmpL a c < 0
  | [], [], _, h, _ => by rw [cmpL] at h; omega
  | [], _ :: _, [], _, h => by rw [cmpL] at h; omega
  | [], _ :: _, _ :: _, _, _ => by rw [cmpL]; omega
  | _ :: _, [], _, h, _ => by rw [cmpL] at h; omega
  | _ :: _, _ :: _, [], _, h => by rw [cmpL] at h; omega
  | x :: r, y :: s, z :: t, h1, h2 => by
    rw [cmpL] at h1 h2 ⊢
    split at h1
    · split at h2
      · rw [if_pos (by omega)]; omega
      · split at h2
        · omega
        · rw [if_pos (by omega)]; omega
    · split at h1
      · omega
      · split at h2
        · rw [if_pos (by omega)]; omega
        · split at h2
          · omega
          · rw [if_neg (by omega), if_neg (by omega)]; exact cmpL_trans h1 h2

theorem swoW : SWO (ltOf cmpW) where
  irrefl x := by unfold ltOf cmpW; rw [cmpL_self]; rfl
  trans x y z h1 h2 := by
    unfold ltOf cmpW at *
    rw [decide_eq_true_eq] at *
    exact cmpL_trans h1 h2
  ntrans x y z h1 h2 := by
    unfold ltOf cmpW at *
    rw [decide_eq_false_iff_not] at *
    intro h3
    have n1 := cmpL_neg (facts x) (facts y)
    have n2 := cmpL_neg (facts y) (facts z)
    by_cases e1 : cmpL (facts x) (facts y) = 0
    · rw [cmpL_eq e1] at h3; exact h2 h3
    · have : cmpL (facts y) (facts x) < 0 := by omega
      exact h2 (cmpL_trans this h3)

def encW (x : Nat) : Value := .int .u32 (x : Int)

/-! ### the two vocabularies -/
theorem holdsW_of_block {w : World} {g : Nat} {cur : Array Value} {e : TypeId} {ss : List Nat} (hb : w.heap[g]? = some (.cells cur e (0, 0))) (ht : cur.toList.take ss.length = ss.map encW) : Holds encW w g 0 ss.toArray := by
  intro j hj
  have hj' : j < ss.length := by simpa using hj
  refine ⟨?_, by simp [World.frozen?, hb]⟩
  have h1 : (cur.toList.take ss.length)[j]? = (ss.map encW)[j]? := by rw [ht]
  rw [List.getElem?_take_of_lt hj'] at h1
  simp only [World.cell?, hb, Nat.zero_add]
  simp only [Option.isSome_none, Bool.false_eq_true, if_false]
  rw [← Array.getElem?_toList, h1]
  simp [hj']

theorem take_putCellsW (cur : Array Value) (ts : List Nat) (h : ts.length ≤ cur.size) : (putCells encW 0 ts.toArray cur).toList.take ts.length = ts.map encW := by
  apply List.ext_getElem?
  intro j
  by_cases hj : j < ts.length
  · rw [List.getElem?_take_of_lt hj, Array.getElem?_toList]
    simp [putCells, hj, show j < cur.size by omega]
  · rw [List.getElem?_take_eq_none (by omega), List.getElem?_eq_none (by simp; omega)]

theorem heap_sortedW {w : World} {g n : Nat} {os : Array Obj} {cur : Array Value} {e : TypeId} {fr : Nat × Nat} (d : Array Nat) (hb : w.heap[g]? = some (.cells cur e fr)) :
    (sortWorld encW w g 0 n d os).heap[g]? = some (.cells (putCells encW 0 d cur) e fr) := by
  have hg : g < w.heap.size := (Array.getElem?_eq_some_iff.1 hb).1
  unfold sortWorld
  rw [heap_grow_old _ _ (by simpa using hg)]
  simp [putRow, mapBlock, Sort.ahead, Array.getElem?_modify, hb, onCells]

theorem keeps_sortedW {w : World} {g n : Nat} {os : Array Obj} (d : Array Nat) : Keeps (fun b => b = g) w (sortWorld encW w g 0 n d os) := by
  unfold sortWorld
  refine ⟨rfl, rfl, rfl, by simp, fun k hk hne => ?_⟩
  rw [heap_grow_old _ _ (by simpa using hk)]
  have : g ≠ k := fun e => hne e.symm
  simp [putRow, mapBlock, Sort.ahead, Array.getElem?_modify, this]

theorem cmpLaysW (blk off size : Nat) (w : World) : CmpLays1 Try.prog 90 #[] encW cmpW blk off size w := by
  intro m os dk hs x y
  refine (checked1_any _ x y).mono ?_
  rintro e w' ⟨he, hk, hd⟩
  refine ⟨he, ?_⟩
  obtain ⟨q, os', hw⟩ := grow_of_keeps hk hd
  exact ⟨q, os', hw⟩

theorem sort_any (w : World) (base : Nat) (T : TypeId) (v : Value) (ws : List Nat) (hown : w.ownsRow base T 1 v ws.length (ws.map encW)) (hlen : ws.length < 4611686018427387904) :
    Calls Try.prog 89 #[v, .func (.func 90) #[] #[]] w fun e w' => e = .returned (.tuple #[]) ∧ ∃ ws' : List Nat, ws'.Perm ws ∧ ws'.Pairwise (fun a b => ¬ cmpW b a < 0) ∧ w'.ownsRow base T 1 v ws'.length (ws'.map encW) ∧ Keeps (fun b => v.ownBlock = some b) w w' := by
  have eg : ∀ args w, (callFunc 90 args).run Try.prog w = .ok (.enter 90 args) w := enters_of Try.func90 (by kernel_rfl) rfl
  rcases hown.2 with ⟨rfl, h0⟩ | ⟨g, cap, cur, rfl, hb, hg, hn, hm, hs, ht⟩
  · have hz : ws = [] := List.length_eq_zero_iff.1 h0
    subst hz
    refine (Try.slices_SortFunc_none (α := Nat) none 0 _ w).mono ?_
    rintro e w' ⟨rfl, rfl⟩
    exact ⟨rfl, [], List.Perm.refl _, List.Pairwise.nil, World.ownsRow_nil _ _ _ _, Keeps.refl _ _⟩
  · have ht' : cur.toList.take ws.length = ws.map encW := by simpa using ht
    have hH := holdsW_of_block hg ht'
    have hl := lt_of_heap hg
    have hc := Try.slices_SortFunc encW (fun _ => rfl) cmpW swoW 90 #[] g 0 cap ws.toArray w eg (cmpLaysW g 0 _ w) hH hl (by simpa using hlen)
    simp only [List.size_toArray] at hc
    refine hc.mono ?_
    rintro e w' ⟨rfl, d', n, os, hp, hsort, rfl⟩
    obtain ⟨hsz, _, hperm⟩ := hp
    simp only [List.size_toArray] at hsz
    have hd : (d'.extract 0 ws.length).toList = d'.toList := by rw [← hsz]; simp
    have hd2 : (ws.toArray.extract 0 ws.length).toList = ws := by simp
    rw [hd, hd2] at hperm
    refine ⟨rfl, d'.toList, hperm, ?_, ?_, (keeps_sortedW _).mono (fun i _ h => by subst h; rfl)⟩
    · rw [List.pairwise_iff_getElem]
      intro i j hi hj hij
      have hj' : j < d'.size := by simpa using hj
      have := hsort i j (by omega) hij (by omega)
      unfold ltOf at this
      rw [decide_eq_false_iff_not, getElem!_pos d' i (by omega), getElem!_pos d' j hj'] at this
      simpa using this
    · have hll : d'.toList.length = ws.length := by simpa using hsz
      refine ⟨by simp, .inr ⟨g, cap, _, by rw [hll], hb, heap_sortedW d' hg, by rw [hll]; exact hn, hm, by simp [putCells, hs], ?_⟩⟩
      have := take_putCellsW cur d'.toList (by omega)
      simpa using this

end Go.Proofs.Ytcfcmmajlkkabaa
