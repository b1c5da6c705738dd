/- Tasks, sets of facts as lists and as words, the fault of a task. Nothing here speaks of one program. IsSet (of the reference, of strips), Disjoint. Words of facts: space.Word, space.Facts, the reference's Word. strips.Meets: slices.ContainsFunc with a closure over slices.BinarySearch. Tasks in memory; strips.operator, strips.Validate. strips.Validate. No condition beyond what each theorem says. -/
import Derived.WalkKit
import Derived.Test.YtdonadeodioplaaK1
import Derived.IntWalk
import Derived.Test.YtdonadeodioplaaShelf

namespace Go.Proofs.Ytdonadeodioplaa

structure Opr where
  pre : List Int
  add : List Int
  del : List Int
  cost : Int

structure Tsk where
  n : Int
  init : List Int
  goal : List Int
  ops : List Opr

/-! ### sets -/
/-- A strictly increasing list of numbers from lo to n - 1. -/
def setFrom (n : Int) : Int → List Int → Bool
  | _, [] => true
  | lo, x :: r => decide (lo ≤ x) && decide (x < n) && setFrom n (x + 1) r
def isSetB (l : List Int) (n : Int) : Bool := setFrom n 0 l
def disjB (a b : List Int) : Bool := a.all fun x => !b.contains x

theorem setFrom_iff {n : Int} {l : List Int} : ∀ {lo : Int}, setFrom n lo l = true ↔ (∀ x ∈ l, lo ≤ x ∧ x < n) ∧ l.Pairwise (· < ·) := by
  induction l with
  | nil => intro lo; simp [setFrom]
  | cons y r ih =>
    intro lo
    simp only [setFrom, Bool.and_eq_true, decide_eq_true_eq, ih, List.mem_cons, forall_eq_or_imp, List.pairwise_cons]
    constructor
    · rintro ⟨⟨h1, h2⟩, h3, h4⟩
      exact ⟨⟨⟨h1, h2⟩, fun x hx => ⟨by have := (h3 x hx).1; omega, (h3 x hx).2⟩⟩, fun x hx => by have := (h3 x hx).1; omega, h4⟩
    · rintro ⟨⟨⟨h1, h2⟩, h3⟩, h4, h5⟩
      exact ⟨⟨h1, h2⟩, fun x hx => ⟨by have := h4 x hx; omega, (h3 x hx).2⟩, h5⟩

theorem isSet_iff {n : Int} {l : List Int} : isSetB l n = true ↔ (∀ x ∈ l, 0 ≤ x ∧ x < n) ∧ l.Pairwise (· < ·) := setFrom_iff

theorem disj_iff {a b : List Int} : disjB a b = true ↔ ∀ x ∈ a, x ∉ b := by simp [disjB]

/-! ### the fault of a task -/
def opCode (o : Opr) (n : Int) : Int :=
  if (isSetB o.pre n && isSetB o.add n && isSetB o.del n && disjB o.add o.del) = true then (if 0 ≤ o.cost ∧ o.cost ≤ 100 then 0 else 3) else 5
def opsFault (n : Int) : Int → List Opr → Int × Int
  | _, [] => (0, 0)
  | i, o :: r => if opCode o n = 0 then opsFault n (i + 1) r else (opCode o n, i)
def taskFault (t : Tsk) : Int × Int :=
  if ¬ (0 ≤ t.n ∧ t.n ≤ 24) then (3, -1) else
  if isSetB t.init t.n = false then (5, -2) else
  if isSetB t.goal t.n = false then (5, -3) else
  if 40 < t.ops.length then (2, -1) else opsFault t.n 0 t.ops

structure Opr.Ok (o : Opr) (n : Int) : Prop where
  pre : isSetB o.pre n = true
  add : isSetB o.add n = true
  del : isSetB o.del n = true
  disj : disjB o.add o.del = true
  cost0 : 0 ≤ o.cost
  cost1 : o.cost ≤ 100

structure Tsk.Ok (t : Tsk) : Prop where
  n0 : 0 ≤ t.n
  n1 : t.n ≤ 24
  init : isSetB t.init t.n = true
  goal : isSetB t.goal t.n = true
  few : t.ops.length ≤ 40
  ops : ∀ o ∈ t.ops, o.Ok t.n

theorem opCode_zero {o : Opr} {n : Int} : opCode o n = 0 ↔ o.Ok n := by
  unfold opCode
  constructor
  · intro h
    split at h
    · rename_i h1
      split at h
      · rename_i h2
        simp only [Bool.and_eq_true] at h1
        exact ⟨h1.1.1.1, h1.1.1.2, h1.1.2, h1.2, h2.1, h2.2⟩
      · cases h
    · cases h
  · intro h
    rw [if_pos (by simp [h.pre, h.add, h.del, h.disj]), if_pos ⟨h.cost0, h.cost1⟩]

theorem opsFault_zero {n : Int} {l : List Opr} : ∀ {i : Int}, (opsFault n i l).1 = 0 ↔ ∀ o ∈ l, o.Ok n := by
  induction l with
  | nil => intro i; simp [opsFault]
  | cons o r ih =>
    intro i
    rw [opsFault]
    by_cases h : opCode o n = 0
    · rw [if_pos h, ih]; simp [opCode_zero.1 h]
    · rw [if_neg h]
      simp only [h, false_iff, List.mem_cons, forall_eq_or_imp, not_and]
      intro h'; exact absurd (opCode_zero.2 h') h

theorem opsFault_index {n : Int} {l : List Opr} : ∀ {i : Int}, (opsFault n i l).1 = 0 → opsFault n i l = (0, 0) := by
  induction l with
  | nil => intro i _; rfl
  | cons o r ih =>
    intro i h
    rw [opsFault] at h ⊢
    split at h
    · rename_i h1; rw [if_pos h1]; exact ih h
    · rename_i h1; exact absurd h h1

theorem taskFault_zero {t : Tsk} : (taskFault t).1 = 0 ↔ t.Ok := by
  unfold taskFault
  constructor
  · intro h
    split at h
    · cases h
    · rename_i h1
      split at h
      · cases h
      · rename_i h2
        split at h
        · cases h
        · rename_i h3
          split at h
          · cases h
          · rename_i h4
            exact ⟨by omega, by omega, by simpa using h2, by simpa using h3, by omega, opsFault_zero.1 h⟩
  · intro h
    rw [if_neg (by simpa using ⟨h.n0, h.n1⟩), if_neg (by simp [h.init]), if_neg (by simp [h.goal]), if_neg (by have := h.few; omega)]
    exact opsFault_zero.2 h.ops

theorem taskFault_ok {t : Tsk} (h : t.Ok) : taskFault t = (0, 0) := by
  have h0 := taskFault_zero.2 h
  unfold taskFault at h0 ⊢
  rw [if_neg (by simpa using ⟨h.n0, h.n1⟩), if_neg (by simp [h.init]), if_neg (by simp [h.goal]), if_neg (by have := h.few; omega)] at h0 ⊢
  exact opsFault_index h0

/-! ### words -/
/-- The word of a list of facts. -/
def wd : List Int → Nat
  | [] => 0
  | p :: r => wd r ||| 2 ^ p.toNat

theorem testBit_wd {l : List Int} (h : ∀ x ∈ l, 0 ≤ x) (i : Nat) : (wd l).testBit i = decide ((i : Int) ∈ l) := by
  induction l with
  | nil => simp [wd]
  | cons p r ih =>
    rw [wd, Nat.testBit_or, ih (fun x hx => h x (by simp [hx])), Nat.testBit_two_pow]
    have hp := h p (by simp)
    by_cases e : p.toNat = i
    · have : (i : Int) = p := by omega
      simp [e, this]
    · have : (i : Int) ≠ p := by omega
      simp [e, this]

theorem wd_lt {l : List Int} {n : Nat} (h : ∀ x ∈ l, 0 ≤ x ∧ x < n) : wd l < 2 ^ n := by
  apply Nat.lt_pow_two_of_testBit
  intro i hi
  rw [testBit_wd (fun x hx => (h x hx).1)]
  simp only [decide_eq_false_iff_not]
  intro hm
  have := (h _ hm).2
  omega

/-- The facts of a word, up to the fact 31. -/
def facts (w : Nat) : List Int := ((List.range 32).filter fun p => w.testBit p).map fun p : Nat => (p : Int)

theorem mem_facts {w : Nat} {x : Int} : x ∈ facts w ↔ ∃ p : Nat, x = p ∧ p < 32 ∧ w.testBit p = true := by
  unfold facts
  simp only [List.mem_map, List.mem_filter, List.mem_range]
  constructor
  · rintro ⟨p, ⟨h1, h2⟩, rfl⟩; exact ⟨p, rfl, h1, h2⟩
  · rintro ⟨p, rfl, h1, h2⟩; exact ⟨p, ⟨h1, h2⟩, rfl⟩

theorem facts_sorted (w : Nat) : (facts w).Pairwise (· < ·) := by
  unfold facts
  rw [List.pairwise_map]
  refine List.Pairwise.imp ?_ ((List.pairwise_lt_range (n := 32)).sublist (List.filter_sublist))
  intro a b h; omega

theorem sorted_ext {a b : List Int} (ha : a.Pairwise (· < ·)) (hb : b.Pairwise (· < ·)) (h : ∀ x, x ∈ a ↔ x ∈ b) : a = b := by
  have hp : a.Perm b := (List.perm_ext_iff_of_nodup (ha.imp (fun h => by omega)) (hb.imp (fun h => by omega))).2 h
  exact hp.eq_of_pairwise (le := (· < ·)) (fun x y _ _ h1 h2 => by omega) ha hb

theorem facts_wd {l : List Int} (h : isSetB l 32 = true) : facts (wd l) = l := by
  obtain ⟨h1, h2⟩ := isSet_iff.1 h
  refine sorted_ext (facts_sorted _) h2 fun x => ?_
  rw [mem_facts]
  constructor
  · rintro ⟨p, rfl, hp, ht⟩
    rw [testBit_wd (fun x hx => (h1 x hx).1)] at ht
    simpa using ht
  · intro hx
    have := h1 x hx
    refine ⟨x.toNat, by omega, by omega, ?_⟩
    rw [testBit_wd (fun x hx => (h1 x hx).1)]
    have e : ((x.toNat : Nat) : Int) = x := by omega
    simp [e, hx]

theorem isSet_mono {l : List Int} {n m : Int} (h : isSetB l n = true) (hm : n ≤ m) : isSetB l m = true := by
  obtain ⟨h1, h2⟩ := isSet_iff.1 h
  exact isSet_iff.2 ⟨fun x hx => ⟨(h1 x hx).1, by have := (h1 x hx).2; omega⟩, h2⟩

theorem wd_facts {w : Nat} (h : w < 2 ^ 32) : wd (facts w) = w := by
  apply Nat.eq_of_testBit_eq
  intro i
  rw [testBit_wd (fun x hx => by obtain ⟨p, rfl, _⟩ := mem_facts.1 hx; omega)]
  by_cases hi : i < 32
  · cases ht : w.testBit i with
    | true => simp only [decide_eq_true_eq]; exact mem_facts.2 ⟨i, rfl, hi, ht⟩
    | false =>
      simp only [decide_eq_false_iff_not]
      intro hm
      obtain ⟨p, hp, _, h2⟩ := mem_facts.1 hm
      obtain rfl : p = i := by omega
      rw [ht] at h2; cases h2
  · rw [Nat.testBit_lt_two_pow (Nat.lt_of_lt_of_le h (Nat.pow_le_pow_right (by decide) (by omega)))]
    simp only [decide_eq_false_iff_not]
    intro hm
    obtain ⟨p, hp, h1, _⟩ := mem_facts.1 hm
    omega

theorem facts_inj {a b : Nat} (ha : a < 2 ^ 32) (hb : b < 2 ^ 32) (h : facts a = facts b) : a = b := by
  rw [← wd_facts ha, h, wd_facts hb]

theorem wd_inj {a b : List Int} (ha : isSetB a 32 = true) (hb : isSetB b 32 = true) (h : wd a = wd b) : a = b := by
  rw [← facts_wd ha, h, facts_wd hb]

/-! ### operators on words -/
structure Wop where
  pre : Nat
  add : Nat
  del : Nat
  cost : Int

def Opr.word (o : Opr) : Wop := ⟨wd o.pre, wd o.add, wd o.del, o.cost⟩
def Wop.can (o : Wop) (s : Nat) : Bool := s &&& o.pre == o.pre
def andN (a b : Nat) : Nat := a &&& (b ^^^ 4294967295)
def Wop.next (o : Wop) (s : Nat) : Nat := andN s o.del ||| o.add

/-- Applicable, on lists. -/
def appL (o : Opr) (s : List Int) : Bool := o.pre.all fun x => s.contains x
/-- The state after an operator, on lists. -/
def aftL (n : Int) (o : Opr) (s : List Int) : List Int := ((List.range n.toNat).map fun p : Nat => (p : Int)).filter fun p => o.add.contains p || s.contains p && !o.del.contains p

theorem testBit_andN (a b i : Nat) (hi : i < 32) : (andN a b).testBit i = (a.testBit i && !b.testBit i) := by
  have : (4294967295 : Nat).testBit i = true := by
    rw [show (4294967295 : Nat) = 2 ^ 32 - 1 by decide, Nat.testBit_two_pow_sub_one]; simpa using hi
  unfold andN
  rw [Nat.testBit_and, Nat.testBit_xor, this]; simp

theorem andN_lt {a b m : Nat} (h : a < 2 ^ m) : andN a b < 2 ^ m := Nat.lt_of_le_of_lt Nat.and_le_left h

theorem mem_aftL {n : Int} {o : Opr} {s : List Int} {x : Int} : x ∈ aftL n o s ↔ (0 ≤ x ∧ x < n) ∧ (x ∈ o.add ∨ x ∈ s ∧ x ∉ o.del) := by
  unfold aftL
  simp only [List.mem_filter, List.mem_map, List.mem_range, Bool.or_eq_true, List.contains_iff_mem, Bool.and_eq_true, Bool.not_eq_true']
  constructor
  · rintro ⟨⟨p, hp, rfl⟩, h⟩
    refine ⟨by omega, h.imp id (fun h => ⟨h.1, by simpa using h.2⟩)⟩
  · rintro ⟨h1, h⟩
    exact ⟨⟨x.toNat, by omega, by omega⟩, h.imp id (fun h => ⟨h.1, by simpa using h.2⟩)⟩

theorem isSet_aftL (n : Int) (o : Opr) (s : List Int) : isSetB (aftL n o s) n = true := by
  refine isSet_iff.2 ⟨fun x hx => (mem_aftL.1 hx).1, ?_⟩
  unfold aftL
  refine List.Pairwise.sublist List.filter_sublist ?_
  rw [List.pairwise_map]
  exact List.Pairwise.imp (fun h => by omega) (List.pairwise_lt_range (n := n.toNat))

theorem appL_word {n : Int} {o : Opr} {s : List Int} (ho : o.Ok n) (hs : isSetB s n = true) : appL o s = o.word.can (wd s) := by
  have hp := (isSet_iff.1 ho.pre).1
  have hs' := (isSet_iff.1 hs).1
  rw [Bool.eq_iff_iff]
  unfold appL Wop.can Opr.word
  simp only [List.all_eq_true, List.contains_iff_mem, beq_iff_eq]
  constructor
  · intro h
    apply Nat.eq_of_testBit_eq
    intro i
    rw [Nat.testBit_and, testBit_wd (fun x hx => (hp x hx).1), testBit_wd (fun x hx => (hs' x hx).1)]
    by_cases hi : (i : Int) ∈ o.pre
    · simp [hi, h _ hi]
    · simp [hi]
  · intro h x hx
    have h1 := congrArg (fun w => w.testBit x.toNat) h
    have e : ((x.toNat : Nat) : Int) = x := by have := (hp x hx).1; omega
    simp only [Nat.testBit_and] at h1
    rw [testBit_wd (fun x hx => (hp x hx).1), testBit_wd (fun x hx => (hs' x hx).1), e] at h1
    simpa [hx] using h1

theorem wd_aftL {n : Int} {o : Opr} {s : List Int} (hn : n ≤ 32) (ho : o.Ok n) (hs : isSetB s n = true) : wd (aftL n o s) = o.word.next (wd s) := by
  have ha := (isSet_iff.1 ho.add).1
  have hd := (isSet_iff.1 ho.del).1
  have hs' := (isSet_iff.1 hs).1
  apply Nat.eq_of_testBit_eq
  intro i
  unfold Wop.next Opr.word
  rw [Nat.testBit_or, testBit_wd (fun x hx => (mem_aftL.1 hx).1.1), testBit_wd (fun x hx => (ha x hx).1)]
  by_cases hi : i < 32
  · rw [testBit_andN _ _ _ hi, testBit_wd (fun x hx => (hs' x hx).1), testBit_wd (fun x hx => (hd x hx).1)]
    rw [Bool.eq_iff_iff]
    simp only [decide_eq_true_eq, Bool.or_eq_true, Bool.and_eq_true, Bool.not_eq_true', decide_eq_false_iff_not, mem_aftL]
    constructor
    · rintro ⟨_, h | h⟩
      · exact .inr h
      · exact .inl h
    · rintro (h | h)
      · exact ⟨hs' _ h.1, .inr h⟩
      · exact ⟨ha _ h, .inl h⟩
  · have h1 : (andN (wd s) (wd o.del)).testBit i = false := by
      have hlt : wd s < 2 ^ 32 := wd_lt (n := 32) (fun x hx => ⟨(hs' x hx).1, by have := (hs' x hx).2; omega⟩)
      rw [Nat.testBit_lt_two_pow (Nat.lt_of_lt_of_le (andN_lt hlt) (Nat.pow_le_pow_right (by decide) (by omega)))]
    rw [h1]
    have h2 : (i : Int) ∉ aftL n o s := fun h => by have := (mem_aftL.1 h).1.2; omega
    have h3 : (i : Int) ∉ o.add := fun h => by have := (ha _ h).2; omega
    simp [h2, h3]

end Go.Proofs.Ytdonadeodioplaa

/- The reachable words of a task: by the reference's loop, and by a search with a stack. Nothing here speaks of one program. -/
namespace Go.Proofs.Ytdonadeodioplaa

/-- The words behind one step, in the order of the operators. -/
def nexts (ops : List Wop) (x : Nat) : List Nat := (ops.filter fun o => o.can x).map fun o => o.next x

inductive Reach (ops : List Wop) (s : Nat) : Nat → Prop
  | refl : Reach ops s s
  | step {x y : Nat} : Reach ops s x → y ∈ nexts ops x → Reach ops s y

/-- Those of xs that are not in seen, each once, in their order. -/
def freshs : List Nat → List Nat → List Nat
  | _, [] => []
  | seen, x :: r => if x ∈ seen then freshs seen r else x :: freshs (seen ++ [x]) r

theorem freshs_snoc (xs : List Nat) (x : Nat) : ∀ seen, freshs seen (xs ++ [x]) = freshs seen xs ++ (if x ∈ seen ++ freshs seen xs then [] else [x]) := by
  induction xs with
  | nil =>
    intro seen
    rw [List.nil_append, freshs]
    by_cases h : x ∈ seen <;> simp [h, freshs]
  | cons y r ih =>
    intro seen
    rw [List.cons_append, freshs, freshs]
    by_cases h : y ∈ seen
    · rw [if_pos h, if_pos h, ih]
    · rw [if_neg h, if_neg h, ih]
      simp only [List.append_assoc, List.cons_append, List.nil_append]

theorem mem_freshs {xs : List Nat} {y : Nat} : ∀ {seen}, y ∈ seen ++ freshs seen xs ↔ y ∈ seen ∨ y ∈ xs := by
  induction xs with
  | nil => intro seen; simp [freshs]
  | cons x r ih =>
    intro seen
    rw [freshs]
    by_cases h : x ∈ seen
    · rw [if_pos h, ih]
      constructor
      · rintro (h1 | h1)
        · exact .inl h1
        · exact .inr (by simp [h1])
      · rintro (h1 | h1)
        · exact .inl h1
        · rcases List.mem_cons.1 h1 with rfl | h1
          · exact .inl h
          · exact .inr h1
    · rw [if_neg h]
      have := ih (seen := seen ++ [x])
      rw [List.append_assoc, List.singleton_append] at this
      rw [this]
      simp [or_assoc]

theorem nodup_freshs {xs : List Nat} : ∀ {seen : List Nat}, seen.Nodup → (seen ++ freshs seen xs).Nodup := by
  induction xs with
  | nil => intro seen h; simpa [freshs] using h
  | cons x r ih =>
    intro seen h
    rw [freshs]
    by_cases hx : x ∈ seen
    · rw [if_pos hx]; exact ih h
    · rw [if_neg hx]
      have h1 : (seen ++ [x]).Nodup := by
        rw [List.nodup_append]
        refine ⟨h, by simp, fun a ha b hb => ?_⟩
        simp at hb; subst hb
        intro e; subst e; exact hx ha
      have := ih h1
      rwa [List.append_assoc, List.singleton_append] at this

theorem freshs_le {xs seen : List Nat} : (freshs seen xs).length ≤ xs.length := by
  induction xs generalizing seen with
  | nil => simp [freshs]
  | cons x r ih =>
    rw [freshs]
    split
    · have := ih (seen := seen); simp only [List.length_cons]; omega
    · have := ih (seen := seen ++ [x]); simp only [List.length_cons]; omega

/-! ### the reference's loop -/
/-- The list behind i rounds, or none where it would pass 2000. -/
def bfs (ops : List Wop) (s : Nat) : Nat → Option (List Nat)
  | 0 => some [s]
  | i + 1 => match bfs ops s i with
    | none => none
    | some l => match l[i]? with
      | none => some l
      | some x => if (l ++ freshs l (nexts ops x)).length ≤ 2000 then some (l ++ freshs l (nexts ops x)) else none

def reached (ops : List Wop) (s : Nat) : Option (List Nat) := bfs ops s 2001

theorem bfs_none {ops : List Wop} {s i : Nat} (h : bfs ops s i = none) : ∀ k, bfs ops s (i + k) = none := by
  intro k
  induction k with
  | zero => exact h
  | succ k ih => rw [← Nat.add_assoc, bfs, ih]

theorem bfs_end {ops : List Wop} {s i : Nat} {l : List Nat} (h : bfs ops s i = some l) (hi : l.length ≤ i) : ∀ k, bfs ops s (i + k) = some l := by
  intro k
  induction k with
  | zero => exact h
  | succ k ih =>
    rw [← Nat.add_assoc, bfs, ih]
    simp only
    rw [List.getElem?_eq_none (by omega)]

theorem bfs_step {ops : List Wop} {s i x : Nat} {l : List Nat} (h : bfs ops s i = some l) (hx : l[i]? = some x) :
    bfs ops s (i + 1) = if (l ++ freshs l (nexts ops x)).length ≤ 2000 then some (l ++ freshs l (nexts ops x)) else none := by
  rw [bfs, h]; simp only; rw [hx]

structure BfsOk (ops : List Wop) (s i : Nat) (l : List Nat) : Prop where
  nodup : l.Nodup
  head : l[0]? = some s
  few : l.length ≤ 2000
  reach : ∀ x ∈ l, Reach ops s x
  closed : ∀ j x, j < i → l[j]? = some x → ∀ y ∈ nexts ops x, y ∈ l

theorem bfs_ok {ops : List Wop} {s : Nat} : ∀ {i : Nat} {l : List Nat}, bfs ops s i = some l → BfsOk ops s i l
  | 0, l, h => by
    cases h
    exact ⟨by simp, rfl, by simp, fun x hx => by simp at hx; subst hx; exact .refl, fun j x hj => by omega⟩
  | i + 1, l, h => by
    rw [bfs] at h
    cases hb : bfs ops s i with
    | none => rw [hb] at h; cases h
    | some l0 =>
      rw [hb] at h; simp only at h
      have ok := bfs_ok hb
      cases hx : l0[i]? with
      | none =>
        rw [hx] at h; cases h
        refine ⟨ok.nodup, ok.head, ok.few, ok.reach, fun j x hj hl => ?_⟩
        have h1 := (List.getElem?_eq_some_iff.1 hl).1
        have h2 := List.getElem?_eq_none_iff.1 hx
        exact ok.closed j x (by omega) hl
      | some x =>
        rw [hx] at h; simp only at h
        split at h
        · rename_i hle
          cases h
          have hxm : x ∈ l0 := List.mem_of_getElem? hx
          refine ⟨nodup_freshs ok.nodup, ?_, hle, fun y hy => ?_, fun j y hj hl z hz => ?_⟩
          · rw [List.getElem?_append_left (by have := (List.getElem?_eq_some_iff.1 ok.head).1; omega)]; exact ok.head
          · rcases mem_freshs.1 hy with hy | hy
            · exact ok.reach y hy
            · exact .step (ok.reach x hxm) hy
          · have hil : i < l0.length := (List.getElem?_eq_some_iff.1 hx).1
            rw [List.getElem?_append_left (by omega)] at hl
            by_cases hji : j = i
            · subst hji
              rw [hx] at hl; cases hl
              exact mem_freshs.2 (.inr hz)
            · exact mem_freshs.2 (.inl (ok.closed j y (by omega) hl z hz))
        · cases h

theorem reached_some {ops : List Wop} {s : Nat} {l : List Nat} (h : reached ops s = some l) : l.Nodup ∧ l.length ≤ 2000 ∧ l[0]? = some s ∧ ∀ x, x ∈ l ↔ Reach ops s x := by
  have ok := bfs_ok h
  refine ⟨ok.nodup, ok.few, ok.head, fun x => ⟨ok.reach x, fun hr => ?_⟩⟩
  induction hr with
  | refl => exact List.mem_of_getElem? ok.head
  | step _ hy ih =>
    obtain ⟨j, hj⟩ := List.mem_iff_getElem?.1 ih
    have hlt := (List.getElem?_eq_some_iff.1 hj).1
    exact ok.closed j _ (by have := ok.few; omega) hj _ hy

theorem reached_of_end {ops : List Wop} {s i : Nat} {l : List Nat} (h : bfs ops s i = some l) (hi : i = l.length) : reached ops s = some l := by
  have hf := (bfs_ok h).few
  have := bfs_end h (by omega) (2001 - i)
  unfold reached
  rwa [show i + (2001 - i) = 2001 by omega] at this

theorem reached_of_none {ops : List Wop} {s i : Nat} (h : bfs ops s i = none) (hi : i ≤ 2001) : reached ops s = none := by
  have := bfs_none h (2001 - i)
  unfold reached
  rwa [show i + (2001 - i) = 2001 by omega] at this

theorem bfs_none_many {ops : List Wop} {s : Nat} : ∀ {i : Nat}, bfs ops s i = none → ∃ l : List Nat, l.Nodup ∧ 2000 < l.length ∧ ∀ x ∈ l, Reach ops s x
  | 0, h => by cases h
  | i + 1, h => by
    rw [bfs] at h
    cases hb : bfs ops s i with
    | none => exact bfs_none_many hb
    | some l0 =>
      rw [hb] at h; simp only at h
      have ok := bfs_ok hb
      cases hx : l0[i]? with
      | none => rw [hx] at h; cases h
      | some x =>
        rw [hx] at h; simp only at h
        split at h
        · cases h
        · rename_i hle
          refine ⟨_, nodup_freshs (xs := nexts ops x) ok.nodup, by omega, fun y hy => ?_⟩
          rcases mem_freshs.1 hy with hy | hy
          · exact ok.reach y hy
          · exact .step (ok.reach x (List.mem_of_getElem? hx)) hy

theorem nodup_sub_length : ∀ {a b : List Nat}, a.Nodup → (∀ x ∈ a, x ∈ b) → a.length ≤ b.length
  | [], _, _, _ => Nat.zero_le _
  | x :: r, b, ha, h => by
    rw [List.nodup_cons] at ha
    have hx := h x (by simp)
    have := nodup_sub_length (b := b.erase x) ha.2 (fun y hy => (List.mem_erase_of_ne (by rintro rfl; exact ha.1 hy)).2 (h y (by simp [hy])))
    have hl := List.length_erase_of_mem hx
    have : 0 < b.length := List.length_pos_of_mem hx
    simp only [List.length_cons]; omega

theorem reached_none {ops : List Wop} {s : Nat} (h : reached ops s = none) {l : List Nat} (hl : ∀ x, Reach ops s x → x ∈ l) : 2000 < l.length := by
  obtain ⟨m, h1, h2, h3⟩ := bfs_none_many h
  have := nodup_sub_length h1 (fun x hx => hl x (h3 x hx))
  omega

/-! ### a search with a stack -/
structure Dfs (ops : List Wop) (s : Nat) (stack seen out : List Nat) : Prop where
  nodup : seen.Nodup
  perm : seen.Perm (out ++ stack)
  head : s ∈ seen
  reach : ∀ x ∈ seen, Reach ops s x
  closed : ∀ x ∈ out, ∀ y ∈ nexts ops x, y ∈ seen

theorem Dfs.start (ops : List Wop) (s : Nat) : Dfs ops s [s] [s] [] :=
  ⟨by simp, by simp, by simp, fun x hx => by simp at hx; subst hx; exact .refl, fun x hx => by cases hx⟩

theorem Dfs.step {ops : List Wop} {s x : Nat} {stack seen out : List Nat} (h : Dfs ops s (stack ++ [x]) seen out) :
    Dfs ops s (stack ++ freshs seen (nexts ops x)) (seen ++ freshs seen (nexts ops x)) (out ++ [x]) := by
  have hx : x ∈ seen := h.perm.mem_iff.2 (by simp)
  refine ⟨nodup_freshs h.nodup, ?_, by simp [h.head], fun y hy => ?_, fun y hy z hz => ?_⟩
  · have h1 : (out ++ (stack ++ [x])).Perm (out ++ [x] ++ stack) := by
      rw [List.append_assoc]
      exact List.Perm.append_left _ List.perm_append_comm
    have := (h.perm.trans h1).append_right (freshs seen (nexts ops x))
    rwa [List.append_assoc] at this
  · rcases mem_freshs.1 hy with hy | hy
    · exact h.reach y hy
    · exact .step (h.reach x hx) hy
  · rcases List.mem_append.1 hy with hy | hy
    · exact mem_freshs.2 (.inl (h.closed y hy z hz))
    · simp at hy; subst hy
      exact mem_freshs.2 (.inr hz)

theorem Dfs.done {ops : List Wop} {s : Nat} {seen out : List Nat} (h : Dfs ops s [] seen out) : out.Nodup ∧ (∀ x, x ∈ out ↔ Reach ops s x) ∧ seen.length = out.length := by
  have hp : seen.Perm out := by simpa using h.perm
  refine ⟨hp.nodup_iff.1 h.nodup, fun x => ⟨fun hx => h.reach x (hp.mem_iff.2 hx), fun hr => ?_⟩, hp.length_eq⟩
  induction hr with
  | refl => exact hp.mem_iff.1 h.head
  | step _ hy ih => exact hp.mem_iff.1 (h.closed _ ih _ hy)

theorem Dfs.many {ops : List Wop} {s : Nat} {stack seen out : List Nat} (h : Dfs ops s stack seen out) (hm : 2000 < seen.length) : reached ops s = none := by
  cases hr : reached ops s with
  | none => rfl
  | some l =>
    obtain ⟨_, h2, _, h3⟩ := reached_some hr
    have := nodup_sub_length h.nodup (fun x hx => (h3 x).2 (h.reach x hx))
    omega

theorem Dfs.found {ops : List Wop} {s : Nat} {seen out : List Nat} (h : Dfs ops s [] seen out) (hf : seen.length ≤ 2000) : ∃ l, reached ops s = some l ∧ out.Perm l := by
  obtain ⟨h1, h2, h3⟩ := h.done
  cases hr : reached ops s with
  | none =>
    have := reached_none hr (fun x hx => (h2 x).2 hx)
    omega
  | some l =>
    obtain ⟨k1, _, _, k3⟩ := reached_some hr
    exact ⟨l, rfl, (List.perm_ext_iff_of_nodup h1 k1).2 fun x => (h2 x).trans (k3 x).symm⟩

end Go.Proofs.Ytdonadeodioplaa

/- The plain law of novelty: what is covered, what is fresh. Nothing here speaks of one program. -/
namespace Go.Proofs.Ytdonadeodioplaa

/-- Whether each set of facts of s that holds those of ch and at most n further ones occurs in a state of seen. -/
def covN (s : Nat) (seen : List Nat) : Nat → Nat → Bool
  | 0, ch => (seen.find? fun x => andN s x &&& ch == 0).isSome
  | n + 1, ch => match seen.find? fun x => andN s x &&& ch == 0 with
    | none => false
    | some x => (facts (andN s x)).all fun p => covN s seen n (ch ||| 2 ^ p.toNat)

def occurs (ls : List (List Int)) (ch : List Int) : Bool := ls.any fun l => ch.all fun x => l.contains x
def after (ch : List Int) (y : Int) : Bool := match ch.getLast? with
  | none => true
  | some z => decide (z < y)
def freshL (ls : List (List Int)) (s : List Int) : Nat → List Int → Bool
  | 0, ch => !occurs ls ch
  | n + 1, ch => !occurs ls ch || s.any fun y => after ch y && freshL ls s n (ch ++ [y])

theorem occurs_iff {ls : List (List Int)} {ch : List Int} : occurs ls ch = true ↔ ∃ l ∈ ls, ∀ y ∈ ch, y ∈ l := by
  unfold occurs; simp

theorem freshL_iff {ls : List (List Int)} {s : List Int} (hs : s.Pairwise (· < ·)) : ∀ (n : Nat) (ch : List Int), ch.Pairwise (· < ·) →
    (freshL ls s n ch = true ↔ ∃ F : List Int, (∀ y ∈ F, y ∈ s) ∧ (ch ++ F).Pairwise (· < ·) ∧ F.length ≤ n ∧ ∀ l ∈ ls, ¬ ∀ y ∈ ch ++ F, y ∈ l)
  | 0, ch, hch => by
    unfold freshL
    constructor
    · intro h
      refine ⟨[], by simp, by simpa using hch, by simp, fun l hl hy => ?_⟩
      have : occurs ls ch = true := occurs_iff.2 ⟨l, hl, by simpa using hy⟩
      rw [this] at h; cases h
    · rintro ⟨F, h1, h2, h3, h4⟩
      have hF : F = [] := List.length_eq_zero_iff.1 (by omega)
      subst hF
      cases ho : occurs ls ch with
      | false => rfl
      | true =>
        obtain ⟨l, hl, hy⟩ := occurs_iff.1 ho
        exact absurd (by simpa using hy) (h4 l hl)
  | n + 1, ch, hch => by
    unfold freshL
    rw [Bool.or_eq_true, List.any_eq_true]
    constructor
    · rintro (h | ⟨y, hy, h⟩)
      · refine ⟨[], by simp, by simpa using hch, by simp, fun l hl hy => ?_⟩
        have : occurs ls ch = true := occurs_iff.2 ⟨l, hl, by simpa using hy⟩
        rw [this] at h; cases h
      · rw [Bool.and_eq_true] at h
        have hch2 : (ch ++ [y]).Pairwise (· < ·) := by
          rw [List.pairwise_append]
          refine ⟨hch, by simp, fun a ha b hb => ?_⟩
          simp at hb; subst hb
          have h1 := h.1
          unfold after at h1
          cases hl : ch.getLast? with
          | none => rw [List.getLast?_eq_none_iff] at hl; subst hl; cases ha
          | some z =>
            rw [hl] at h1; simp only [decide_eq_true_eq] at h1
            obtain ⟨r, rfl⟩ := List.getLast?_eq_some_iff.1 hl
            rcases List.mem_append.1 ha with ha | ha
            · have := (List.pairwise_append.1 hch).2.2 a ha z (by simp); omega
            · simp at ha; omega
        obtain ⟨F, h1, h2, h3, h4⟩ := (freshL_iff hs n (ch ++ [y]) hch2).1 h.2
        refine ⟨y :: F, ?_, ?_, by simp only [List.length_cons]; omega, ?_⟩
        · intro z hz
          rcases List.mem_cons.1 hz with rfl | hz
          · exact hy
          · exact h1 z hz
        · rwa [List.append_assoc, List.singleton_append] at h2
        · intro l hl; have := h4 l hl; rwa [List.append_assoc, List.singleton_append] at this
    · rintro ⟨F, h1, h2, h3, h4⟩
      cases F with
      | nil =>
        left
        cases ho : occurs ls ch with
        | false => rfl
        | true =>
          obtain ⟨l, hl, hy⟩ := occurs_iff.1 ho
          exact absurd (by simpa using hy) (h4 l hl)
      | cons y F =>
        right
        refine ⟨y, h1 y (by simp), ?_⟩
        rw [Bool.and_eq_true]
        have h2' : ((ch ++ [y]) ++ F).Pairwise (· < ·) := by rw [List.append_assoc, List.singleton_append]; exact h2
        refine ⟨?_, (freshL_iff hs n (ch ++ [y]) (List.pairwise_append.1 h2').1).2 ⟨F, fun z hz => h1 z (by simp [hz]), h2', by simp only [List.length_cons] at h3; omega, fun l hl => by rw [List.append_assoc, List.singleton_append]; exact h4 l hl⟩⟩
        unfold after
        cases hl : ch.getLast? with
        | none => rfl
        | some z =>
          simp only [decide_eq_true_eq]
          exact (List.pairwise_append.1 h2).2.2 z (List.mem_of_getLast? hl) y (by simp)

theorem and_zero {a b : Nat} : (a &&& b == 0) = true ↔ ∀ i, ¬ (a.testBit i = true ∧ b.testBit i = true) := by
  rw [beq_iff_eq]
  constructor
  · intro h i hi
    have : (a &&& b).testBit i = true := by rw [Nat.testBit_and, hi.1, hi.2]; rfl
    rw [h] at this; simp at this
  · intro h
    apply Nat.eq_of_testBit_eq
    intro i
    rw [Nat.testBit_and, Nat.zero_testBit]
    cases h1 : a.testBit i <;> cases h2 : b.testBit i <;> simp
    exact h i ⟨h1, h2⟩

/-- The facts of ch (a word below s) lie in x. -/
def under (ch x : Nat) : Prop := ∀ i, ch.testBit i = true → x.testBit i = true

theorem lacks_iff {s x ch : Nat} (hs : s < 2 ^ 32) (hch : under ch s) : (andN s x &&& ch == 0) = true ↔ under ch x := by
  rw [and_zero]
  have small : ∀ i, s.testBit i = true → i < 32 := fun i hi => Nat.lt_of_not_le fun hle => by
    rw [Nat.testBit_lt_two_pow (Nat.lt_of_lt_of_le hs (Nat.pow_le_pow_right (by decide) hle))] at hi; cases hi
  constructor
  · intro h i hi
    have hsi := hch i hi
    cases hx : x.testBit i with
    | true => rfl
    | false => exact absurd ⟨by rw [testBit_andN _ _ _ (small i hsi), hsi, hx]; rfl, hi⟩ (h i)
  · rintro h i ⟨h1, h2⟩
    rw [testBit_andN _ _ _ (small i (hch i h2)), h i h2] at h1
    simp at h1

theorem under_or {ch x : Nat} {p : Nat} : under (ch ||| 2 ^ p) x ↔ under ch x ∧ x.testBit p = true := by
  unfold under
  simp only [Nat.testBit_or, Bool.or_eq_true, Nat.testBit_two_pow, decide_eq_true_eq]
  constructor
  · intro h; exact ⟨fun i hi => h i (.inl hi), h p (.inr rfl)⟩
  · rintro ⟨h1, h2⟩ i (hi | rfl)
    · exact h1 i hi
    · exact h2

theorem covN_iff {s : Nat} (hs : s < 2 ^ 32) {seen : List Nat} : ∀ (n ch : Nat), under ch s →
    (covN s seen n ch = true ↔ ∀ F : List Nat, (∀ p ∈ F, s.testBit p = true) → F.length ≤ n → ∃ x ∈ seen, under ch x ∧ ∀ p ∈ F, x.testBit p = true)
  | 0, ch, hch => by
    unfold covN
    rw [List.find?_isSome]
    constructor
    · rintro ⟨x, hx, h⟩ F _ hl
      have : F = [] := List.length_eq_zero_iff.1 (by omega)
      subst this
      exact ⟨x, hx, (lacks_iff hs hch).1 h, by simp⟩
    · intro h
      obtain ⟨x, hx, h1, _⟩ := h [] (by simp) (by simp)
      exact ⟨x, hx, (lacks_iff hs hch).2 h1⟩
  | n + 1, ch, hch => by
    unfold covN
    have small : ∀ i, s.testBit i = true → i < 32 := fun i hi => Nat.lt_of_not_le fun hle => by
      rw [Nat.testBit_lt_two_pow (Nat.lt_of_lt_of_le hs (Nat.pow_le_pow_right (by decide) hle))] at hi; cases hi
    have up : ∀ p, s.testBit p = true → under (ch ||| 2 ^ p) s := fun p hp => under_or.2 ⟨hch, hp⟩
    cases hf : seen.find? fun x => andN s x &&& ch == 0 with
    | none =>
      simp only [Bool.false_eq_true, false_iff]
      intro h
      obtain ⟨x, hx, h1, _⟩ := h [] (by simp) (by simp)
      rw [List.find?_eq_none] at hf
      exact hf x hx ((lacks_iff hs hch).2 h1)
    | some x =>
      have hx := List.mem_of_find?_eq_some hf
      have hc := (lacks_iff hs hch).1 (by simpa using List.find?_some hf)
      simp only [List.all_eq_true]
      constructor
      · intro h F hF hl
        by_cases hall : ∀ p ∈ F, x.testBit p = true
        · exact ⟨x, hx, hc, hall⟩
        · obtain ⟨p, hp, hpx⟩ : ∃ p, p ∈ F ∧ x.testBit p = false := by
            refine Classical.byContradiction fun hne => hall fun p hp => ?_
            cases hb : x.testBit p with
            | true => rfl
            | false => exact absurd ⟨p, hp, hb⟩ hne
          have hps := hF p hp
          have hm : ((p : Nat) : Int) ∈ facts (andN s x) := mem_facts.2 ⟨p, rfl, small p hps, by rw [testBit_andN _ _ _ (small p hps), hps, hpx]; rfl⟩
          have h1 := h _ hm
          rw [Int.toNat_natCast] at h1
          obtain ⟨z, hz, h2, h3⟩ := (covN_iff hs n _ (up p hps)).1 h1 (F.erase p) (fun q hq => hF q (List.mem_of_mem_erase hq)) (by rw [List.length_erase_of_mem hp]; omega)
          obtain ⟨h4, h5⟩ := under_or.1 h2
          refine ⟨z, hz, h4, fun q hq => ?_⟩
          by_cases hqp : q = p
          · rw [hqp]; exact h5
          · exact h3 q ((List.mem_erase_of_ne hqp).2 hq)
      · intro h y hy
        obtain ⟨p, rfl, hp32, hpb⟩ := mem_facts.1 hy
        rw [Int.toNat_natCast]
        rw [testBit_andN _ _ _ hp32, Bool.and_eq_true] at hpb
        refine (covN_iff hs n _ (up p hpb.1)).2 fun F hF hl => ?_
        obtain ⟨z, hz, h1, h2⟩ := h (p :: F) (fun q hq => by
          rcases List.mem_cons.1 hq with rfl | hq
          · exact hpb.1
          · exact hF q hq) (by simp only [List.length_cons]; omega)
        exact ⟨z, hz, under_or.2 ⟨h1, h2 p (by simp)⟩, fun q hq => h2 q (by simp [hq])⟩

theorem fresh_cov {ls : List (List Int)} {s : List Int} (hs : isSetB s 32 = true) (hls : ∀ l ∈ ls, isSetB l 32 = true) (n : Nat) : freshL ls s n [] = !covN (wd s) (ls.map wd) n 0 := by
  obtain ⟨hr, hp⟩ := isSet_iff.1 hs
  have h0 : ∀ x ∈ s, 0 ≤ x := fun x hx => (hr x hx).1
  have hlt : wd s < 2 ^ 32 := wd_lt (n := 32) hr
  have key : (covN (wd s) (ls.map wd) n 0 = true ↔ ¬ freshL ls s n [] = true) := by
    rw [covN_iff hlt n 0 (fun i hi => by simp at hi), freshL_iff hp n [] List.Pairwise.nil]
    constructor
    · rintro h ⟨F, h1, h2, h3, h4⟩
      obtain ⟨x, hx, _, h5⟩ := h (F.map Int.toNat) (fun p hp => by
        obtain ⟨y, hy, rfl⟩ := List.mem_map.1 hp
        rw [testBit_wd h0, decide_eq_true_eq, Int.toNat_of_nonneg (h0 y (h1 y hy))]
        exact h1 y hy) (by rw [List.length_map]; exact h3)
      obtain ⟨l, hl, rfl⟩ := List.mem_map.1 hx
      refine h4 l hl fun y hy => ?_
      rw [List.nil_append] at hy
      have := h5 y.toNat (List.mem_map.2 ⟨y, hy, rfl⟩)
      rw [testBit_wd (fun x hx => ((isSet_iff.1 (hls l hl)).1 x hx).1), decide_eq_true_eq, Int.toNat_of_nonneg (h0 y (h1 y hy))] at this
      exact this
    · intro h F hF hl
      refine Classical.byContradiction fun hne => h ?_
      refine ⟨s.filter fun y => decide (y.toNat ∈ F), fun y hy => (List.mem_filter.1 hy).1, by rw [List.nil_append]; exact List.Pairwise.sublist List.filter_sublist hp, ?_, fun l hl2 hall => hne ⟨wd l, List.mem_map.2 ⟨l, hl2, rfl⟩, fun i hi => by simp at hi, fun p hp2 => ?_⟩⟩
      · have hnd : ((s.filter fun y => decide (y.toNat ∈ F)).map Int.toNat).Nodup := by
          rw [List.Nodup, List.pairwise_map]
          refine List.Pairwise.imp_of_mem ?_ (List.Pairwise.sublist List.filter_sublist hp)
          intro a b ha hb hab
          have := h0 a (List.mem_filter.1 ha).1; have := h0 b (List.mem_filter.1 hb).1; omega
        have hsub : ∀ p ∈ (s.filter fun y => decide (y.toNat ∈ F)).map Int.toNat, p ∈ F := by
          intro p hp2
          obtain ⟨y, hy, rfl⟩ := List.mem_map.1 hp2
          simpa using (List.mem_filter.1 hy).2
        have hlen : ∀ {a b : List Nat}, a.Nodup → (∀ x ∈ a, x ∈ b) → a.length ≤ b.length := by
          intro a
          induction a with
          | nil => intros; exact Nat.zero_le _
          | cons x r ih =>
            intro b ha hb
            rw [List.nodup_cons] at ha
            have hx := hb x (by simp)
            have := ih (b := b.erase x) ha.2 (fun y hy => (List.mem_erase_of_ne (by rintro rfl; exact ha.1 hy)).2 (hb y (by simp [hy])))
            rw [List.length_erase_of_mem hx] at this
            have : 0 < b.length := List.length_pos_of_mem hx
            simp only [List.length_cons]; omega
        have := hlen hnd hsub
        rw [List.length_map] at this
        omega
      · have hps := hF p hp2
        rw [testBit_wd h0, decide_eq_true_eq] at hps
        rw [testBit_wd (fun x hx => ((isSet_iff.1 (hls l hl2)).1 x hx).1), decide_eq_true_eq]
        exact hall (p : Int) (by rw [List.nil_append]; exact List.mem_filter.2 ⟨hps, by simpa using hp2⟩)
  cases h1 : freshL ls s n [] <;> cases h2 : covN (wd s) (ls.map wd) n 0 <;> simp_all

end Go.Proofs.Ytdonadeodioplaa

namespace Go.Proofs.Ytdonadeodioplaa
open Go.RowKit

theorem in_val {x lo hi : Int} {b : Bool} (w : World) (h : inB x lo hi = b) : Calls Try.prog 76 #[.int .i64 x, .int .i64 lo, .int .i64 hi] w fun e w' => e = .returned (.bool b) ∧ w' = w :=
  (in_any w x lo hi).mono fun _ _ ⟨he, hw⟩ => ⟨by rw [he, h], hw.symm⟩

theorem inB_false' {k lo hi : Int} (h : ¬ (lo ≤ k ∧ k ≤ hi)) : inB k lo hi = false := by
  unfold inB
  by_cases h1 : lo ≤ k
  · have h2 : ¬ k ≤ hi := fun h2 => h ⟨h1, h2⟩
    simp [h2]
  · simp [h1]
theorem inB_true' {k lo hi : Int} (h1 : lo ≤ k) (h2 : k ≤ hi) : inB k lo hi = true := by unfold inB; simp [h1, h2]

theorem take_getS {α : Type} {l : List α} {n : Nat} {k : α} (h : l[n]? = some k) : l.take (n + 1) = l.take n ++ [k] := by
  obtain ⟨h1, h2⟩ := List.getElem?_eq_some_iff.1 h
  rw [List.take_succ_eq_append_getElem h1, h2]

/-- What is left of the test of a set at place i. -/
def setLo (l : List Int) (i : Nat) : Int := match i with
  | 0 => 0
  | j + 1 => (l[j]?.getD 0) + 1
def setAt (n : Int) (l : List Int) (i : Nat) : Bool := setFrom n (setLo l i) (l.drop i)

theorem setAt_zero (n : Int) (l : List Int) : setAt n l 0 = isSetB l n := rfl
theorem setAt_step {n : Int} {l : List Int} {i : Nat} {x : Int} (h : l[i]? = some x) : setAt n l i = (decide (setLo l i ≤ x) && decide (x < n) && setAt n l (i + 1)) := by
  obtain ⟨h1, h2⟩ := List.getElem?_eq_some_iff.1 h
  unfold setAt
  rw [List.drop_eq_getElem_cons h1, h2, setFrom]
  have : setLo l (i + 1) = x + 1 := by show (l[i]?.getD 0) + 1 = x + 1; rw [h]; rfl
  rw [this]
theorem setAt_end {n : Int} {l : List Int} {i : Nat} (h : l.length ≤ i) : setAt n l i = true := by
  unfold setAt
  rw [List.drop_eq_nil_of_le h]; rfl
theorem setLo_succ {l : List Int} {i : Nat} {x : Int} (h : l[i]? = some x) : setLo l (i + 1) = x + 1 := by show (l[i]?.getD 0) + 1 = x + 1; rw [h]; rfl

set_option maxHeartbeats 1000000 in
theorem sIsSet_any (w : World) (v : Value) (l : List Int) (n : Int) (h : Ints w v l) :
    Calls Try.prog 88 #[v, .int .i64 n] w fun e w' => e = .returned (.bool (isSetB l n)) ∧ w = w' := by
  obtain ⟨ao, ca, hv, ma⟩ := h.form
  have CA := Lib.hid (h.cell hv)
  subst hv
  clear h
  go_enter Try.func88, Try.ntmps88
  go_wp2_with fail
  go_loop [9] (fun i => ∃ k : Nat, k ≤ l.length ∧ i = .int .i64 (k : Int) ∧ setAt n l k = isSetB l n ∧ ∀ j x, j < k → l[j]? = some x → 0 ≤ x) (fun i => l.length - (intOf i).toNat)
  case atStart => exact ⟨0, Nat.zero_le _, rfl, rfl, fun j x hj => by omega⟩
  case round =>
    obtain ⟨k, hk, rfl, ht, hp⟩ := hrel
    have HT := Lib.hid ht; clear ht
    have HP := Lib.hid hp; clear hp
    by_cases hlt : k < l.length
    · obtain ⟨ba, oa, rfl, ha'⟩ := CA.out (by omega)
      obtain ⟨x, hx⟩ : ∃ x, l[k]? = some x := ⟨_, List.getElem?_eq_getElem hlt⟩
      have ha1 := ha' k _ hx
      have HX := Lib.hid hx
      have HS := Lib.hid (setAt_step (n := n) hx)
      by_cases h0 : x < 0
      · have hf : Hid (isSetB l n = false) := by
          unfold Hid
          rw [← HT.out, HS.out]
          have : ¬ setLo l k ≤ x := by
            cases k with
            | zero => show ¬ (0 : Int) ≤ x; omega
            | succ j =>
              obtain ⟨y, hy⟩ : ∃ y, l[j]? = some y := ⟨_, List.getElem?_eq_getElem (by omega)⟩
              have := HP.out j y (by omega) hy
              rw [setLo_succ hy]; omega
          simp [this]
        clear ha' hx
        go_wp2_with fail
        go_ret
        exact ⟨congrArg (fun b => Ending.returned (Value.bool b)) hf.out.symm, rfl⟩
      · have h0' : 0 ≤ x := by omega
        clear h0
        by_cases h1 : n ≤ x
        · have hf : Hid (isSetB l n = false) := by
            unfold Hid
            rw [← HT.out, HS.out]
            have : ¬ x < n := by omega
            simp [this]
          clear ha' hx
          go_wp2_with fail
          go_ret
          exact ⟨congrArg (fun b => Ending.returned (Value.bool b)) hf.out.symm, rfl⟩
        · have h1' : x < n := by omega
          clear h1
          cases k with
          | zero =>
            have HN : Hid (setAt n l (0 + 1) = isSetB l n) := by
              unfold Hid
              rw [← HT.out, HS.out]
              have : setLo l 0 ≤ x := h0'
              simp [this, h1']
            have HQ : Hid (∀ j y, j < 0 + 1 → l[j]? = some y → 0 ≤ y) := by
              unfold Hid
              intro j y hj hy
              obtain rfl : j = 0 := by omega
              rw [HX.out] at hy; cases hy; exact h0'
            rw [Nat.add_zero] at ha1
            clear ha' hx
            go_wp2_with fail
            go_round
            case rel => exact ⟨0 + 1, by omega, by go_num, HN.out, HQ.out⟩
            case measure => simp [intOf]; omega
          | succ j =>
            obtain ⟨y, hy⟩ : ∃ y, l[j]? = some y := ⟨_, List.getElem?_eq_getElem (by omega)⟩
            have ha2 := ha' j _ hy
            have e1 : (((j + 1 : Nat) : Int) - 1) = (j : Int) := by omega
            have hj0 : (0 : Int) < ((j + 1 : Nat) : Int) := by omega
            have HY := Lib.hid hy
            have HQ : Hid (∀ i z, i < j + 1 + 1 → l[i]? = some z → 0 ≤ z) := by
              unfold Hid
              intro i z hi hz
              by_cases e : i = j + 1
              · subst e; rw [HX.out] at hz; cases hz; exact h0'
              · exact HP.out i z (by omega) hz
            clear ha' hx hy
            by_cases hle : x ≤ y
            · have hf : Hid (isSetB l n = false) := by
                unfold Hid
                rw [← HT.out, HS.out]
                have : ¬ setLo l (j + 1) ≤ x := by rw [setLo_succ HY.out]; omega
                simp [this]
              go_wp2_with fail
              go_ret
              exact ⟨congrArg (fun b => Ending.returned (Value.bool b)) hf.out.symm, rfl⟩
            · have hgt : y < x := by omega
              clear hle
              have HN : Hid (setAt n l (j + 1 + 1) = isSetB l n) := by
                unfold Hid
                rw [← HT.out, HS.out]
                have : setLo l (j + 1) ≤ x := by rw [setLo_succ HY.out]; omega
                simp [this, h1']
              go_wp2_with fail
              go_round
              case rel => exact ⟨j + 1 + 1, by omega, by go_num, HN.out, HQ.out⟩
              case measure => simp [intOf]; omega
    · have hf : Hid (isSetB l n = true) := by unfold Hid; rw [← HT.out]; exact setAt_end (by omega)
      go_wp2_with fail
      go_ret
      exact ⟨congrArg (fun b => Ending.returned (Value.bool b)) hf.out.symm, rfl⟩

end Go.Proofs.Ytdonadeodioplaa

/- IsSet of the reference; Disjoint. -/
namespace Go.Proofs.Ytdonadeodioplaa
open Go.RowKit

theorem rIsSet_val (w : World) (v : Value) (l : List Int) (n : Int) (h : Ints w v l) (hn0 : 0 ≤ n) (hn1 : n ≤ 1000) :
    Calls Try.prog 77 #[v, .int .i64 n] w fun e w' => e = .returned (.bool (isSetB l n)) ∧ Keeps (fun _ => False) w w' := by
  obtain ⟨ao, ca, hv, ma⟩ := h.form
  have CA := Lib.hid (h.cell hv)
  subst hv
  clear h
  go_enter Try.func77, Try.ntmps77
  go_wp2_with fail
  go_loopw [5] (fun i wr => ∃ k : Nat, k ≤ l.length ∧ i = .int .i64 (k : Int) ∧ setAt n l k = isSetB l n ∧ (∀ j x, j < k → l[j]? = some x → 0 ≤ x) ∧ Keeps (fun _ => False) w wr) (fun i _ => l.length - (intOf i).toNat)
  case atStart => exact ⟨0, Nat.zero_le _, rfl, rfl, fun j x hj => by omega, Keeps.refl _ _⟩
  case round =>
    obtain ⟨k, hk, rfl, ht, hp, hkw⟩ := hrel
    have HT := Lib.hid ht; clear ht
    have HP := Lib.hid hp; clear hp
    have KW := Lib.hid hkw; clear hkw
    by_cases hlt : k < l.length
    · obtain ⟨ba, oa, rfl, ha'⟩ := CA.out (by omega)
      obtain ⟨x, hx⟩ : ∃ x, l[k]? = some x := ⟨_, List.getElem?_eq_getElem hlt⟩
      have ha1 := KW.out.cell (ha' k _ hx) (fun h => h)
      have HX := Lib.hid hx
      have HS := Lib.hid (setAt_step (n := n) hx)
      by_cases h0 : ¬ (0 ≤ x ∧ x ≤ n - 1)
      · have hf : Hid (isSetB l n = false) := by
          unfold Hid
          rw [← HT.out, HS.out]
          by_cases h1 : x < n
          · have : ¬ setLo l k ≤ x := by
              cases k with
              | zero => show ¬ (0 : Int) ≤ x; omega
              | succ j =>
                obtain ⟨y, hy⟩ : ∃ y, l[j]? = some y := ⟨_, List.getElem?_eq_getElem (by omega)⟩
                have := HP.out j y (by omega) hy
                rw [setLo_succ hy]; omega
            simp [this]
          · simp [h1]
        have HIN := Lib.hid (inB_false' h0)
        clear ha' hx h0
        go_wp2_with fail
        go_quiet ((go_at_call 76; exact Calls.quiet_of_same (in_val _ HIN.out)))
        go_wp2_with fail
        go_ret
        exact ⟨congrArg (fun b => Ending.returned (Value.bool b)) hf.out.symm, KW.out.drewN _⟩
      · have h0' : 0 ≤ x := by omega
        have h1' : x < n := by omega
        have HIN := Lib.hid (inB_true' h0' (by omega : x ≤ n - 1))
        clear h0
        cases k with
        | zero =>
          have HN : Hid (setAt n l (0 + 1) = isSetB l n) := by
            unfold Hid
            rw [← HT.out, HS.out]
            have : setLo l 0 ≤ x := h0'
            simp [this, h1']
          have HQ : Hid (∀ j y, j < 0 + 1 → l[j]? = some y → 0 ≤ y) := by
            unfold Hid
            intro j y hj hy
            obtain rfl : j = 0 := by omega
            rw [HX.out] at hy; cases hy; exact h0'
          rw [Nat.add_zero] at ha1
          clear ha' hx
          go_wp2_with fail
          go_quiet ((go_at_call 76; exact Calls.quiet_of_same (in_val _ HIN.out)))
          go_wp2_with fail
          go_roundw
          case rel => exact ⟨0 + 1, by omega, by go_num, HN.out, HQ.out, KW.out.drewN _⟩
          case measure => simp [intOf]; omega
        | succ j =>
          obtain ⟨y, hy⟩ : ∃ y, l[j]? = some y := ⟨_, List.getElem?_eq_getElem (by omega)⟩
          have ha2 := KW.out.cell (ha' j _ hy) (fun h => h)
          have e1 : (((j + 1 : Nat) : Int) - 1) = (j : Int) := by omega
          have hj0 : (0 : Int) < ((j + 1 : Nat) : Int) := by omega
          have HY := Lib.hid hy
          have HQ : Hid (∀ i z, i < j + 1 + 1 → l[i]? = some z → 0 ≤ z) := by
            unfold Hid
            intro i z hi hz
            by_cases e : i = j + 1
            · subst e; rw [HX.out] at hz; cases hz; exact h0'
            · exact HP.out i z (by omega) hz
          clear ha' hx hy
          by_cases hle : x ≤ y
          · have hf : Hid (isSetB l n = false) := by
              unfold Hid
              rw [← HT.out, HS.out]
              have : ¬ setLo l (j + 1) ≤ x := by rw [setLo_succ HY.out]; omega
              simp [this]
            go_wp2_with fail
            go_quiet ((go_at_call 76; exact Calls.quiet_of_same (in_val _ HIN.out)))
            go_wp2_with fail
            go_ret
            exact ⟨congrArg (fun b => Ending.returned (Value.bool b)) hf.out.symm, KW.out.drewN _⟩
          · have hgt : y < x := by omega
            have hgt' : decide (x ≤ y) = false := by simpa using hle
            clear hle
            have HN : Hid (setAt n l (j + 1 + 1) = isSetB l n) := by
              unfold Hid
              rw [← HT.out, HS.out]
              have : setLo l (j + 1) ≤ x := by rw [setLo_succ HY.out]; omega
              simp [this, h1']
            go_wp2_with fail
            go_quiet ((go_at_call 76; exact Calls.quiet_of_same (in_val _ HIN.out)))
            go_wp2_with fail
            go_roundw
            case rel => exact ⟨j + 1 + 1, by omega, by go_num, HN.out, HQ.out, KW.out.drewN _⟩
            case measure => simp [intOf]; omega
    · have hf : Hid (isSetB l n = true) := by unfold Hid; rw [← HT.out]; exact setAt_end (by omega)
      go_wp2_with fail
      go_ret
      exact ⟨congrArg (fun b => Ending.returned (Value.bool b)) hf.out.symm, KW.out⟩

set_option maxHeartbeats 1000000 in
theorem disjoint_any (w : World) (va vb : Value) (a b : List Int) (ha : Ints w va a) (hb : Ints w vb b) :
    Calls Try.prog 78 #[va, vb] w fun e w' => e = .returned (.bool (disjB a b)) ∧ w = w' := by
  obtain ⟨ao, ca, hv, ma⟩ := ha.form
  have CA := Lib.hid (ha.cell hv)
  have HB := Lib.hid hb
  obtain ⟨bo, cb, hvb, mb⟩ := hb.form
  subst hv hvb
  clear ha hb
  go_enter Try.func78, Try.ntmps78
  go_wp2_with fail
  go_loop [5] (fun i => ∃ k : Nat, k ≤ a.length ∧ i = .int .i64 (k : Int) ∧ disjB (a.take k) b = true) (fun i => a.length - (intOf i).toNat)
  case atStart => exact ⟨0, Nat.zero_le _, rfl, rfl⟩
  case round =>
    obtain ⟨k, hk, rfl, ht⟩ := hrel
    have HT := Lib.hid ht; clear ht
    by_cases hlt : k < a.length
    · obtain ⟨ba, oa, rfl, ha'⟩ := CA.out (by omega)
      obtain ⟨x, hx⟩ : ∃ x, a[k]? = some x := ⟨_, List.getElem?_eq_getElem hlt⟩
      have ha1 := ha' k _ hx
      have HX := Lib.hid hx
      clear ha' hx
      have e2 := take_getS HX.out
      by_cases hm : x ∈ b
      · have hf : Hid (disjB a b = false) := by
          unfold Hid disjB
          rw [List.all_eq_false]
          exact ⟨x, List.mem_of_getElem? HX.out, by simp [hm]⟩
        have HD := Lib.hid (decide_eq_true hm)
        clear hm e2
        go_wp2_with fail
        refine (has_any _ _ _ _ HB.out).mono ?_; rintro e w1 ⟨rfl, rfl⟩
        rw [HD.out]
        go_wp2_with fail
        go_ret
        exact ⟨congrArg (fun b => Ending.returned (Value.bool b)) hf.out.symm, rfl⟩
      · have HN : Hid (disjB (a.take (k + 1)) b = true) := by
          unfold Hid
          rw [e2]
          have := HT.out
          unfold disjB at this ⊢
          rw [List.all_append, this]
          simp [hm]
        have HD := Lib.hid (decide_eq_false hm)
        clear hm e2
        go_wp2_with fail
        refine (has_any _ _ _ _ HB.out).mono ?_; rintro e w1 ⟨rfl, rfl⟩
        rw [HD.out]
        go_wp2_with fail
        go_round
        case rel => exact ⟨k + 1, by omega, by go_num, HN.out⟩
        case measure => simp [intOf]; omega
    · have hf : Hid (disjB a b = true) := by
        unfold Hid
        have := HT.out
        rwa [List.take_of_length_le (by omega)] at this
      go_wp2_with fail
      go_ret
      exact ⟨congrArg (fun b => Ending.returned (Value.bool b)) hf.out.symm, rfl⟩

end Go.Proofs.Ytdonadeodioplaa

namespace Go.Proofs.Ytdonadeodioplaa
open Go.RowKit

theorem u32_bits {a b : Nat} (ha : a < 4294967296) (hb : b < 4294967296) : bits .and .u32 (a : Int) (b : Int) = ((a &&& b : Nat) : Int) ∧ bits .or .u32 (a : Int) (b : Int) = ((a ||| b : Nat) : Int) :=
  bits_nat .u32 32 (by decide) (fun n h0 h1 => by rw [IntKind.wrap_u32]; omega) a b (by omega) (by omega)

theorem wd_lt32 {l : List Int} {n : Int} (hn : n ≤ 32) (h : isSetB l n = true) : wd l < 4294967296 :=
  wd_lt (n := 32) (fun x hx => by have := (isSet_iff.1 h).1 x hx; omega)

theorem pow_cast {p : Nat} (hp : p < 32) : (2 : Int) ^ p % 4294967296 = ((2 ^ p : Nat) : Int) := by
  have h : (2 : Nat) ^ p < 2 ^ 32 := Nat.pow_lt_pow_right (by decide) hp
  have e : ((2 : Int) ^ p) = ((2 ^ p : Nat) : Int) := by simp
  rw [e]
  have h' : (2 : Nat) ^ p < 4294967296 := h
  generalize (2 : Nat) ^ p = q at h' ⊢
  omega

theorem or_pow {u p : Nat} (hu : u < 4294967296) (hp : p < 32) : bits .or .u32 (u : Int) (2 ^ p % 4294967296) = ((u ||| 2 ^ p : Nat) : Int) := by
  rw [pow_cast hp]
  exact (u32_bits hu (by have := Nat.pow_lt_pow_right (a := 2) (by decide) hp; omega)).2

theorem wd_append (a b : List Int) : wd (a ++ b) = wd b ||| wd a := by
  induction a with
  | nil => simp [wd]
  | cons x r ih => rw [List.cons_append, wd, ih, wd, Nat.or_assoc]

theorem wd_reverse (l : List Int) : wd l.reverse = wd l := by
  induction l with
  | nil => rfl
  | cons x r ih => rw [List.reverse_cons, wd_append, ih, wd]; simp [wd, Nat.or_comm]

theorem wd_take_lt {l : List Int} (h : ∀ x ∈ l, 0 ≤ x ∧ x < 32) (k : Nat) : wd (l.take k) < 4294967296 :=
  wd_lt (n := 32) (fun x hx => h x (List.mem_of_mem_take hx))

set_option maxHeartbeats 1000000 in
theorem word_any (w : World) (v : Value) (l : List Int) (h : Ints w v l) (hl : ∀ x ∈ l, 0 ≤ x ∧ x < 32) :
    Calls Try.prog 67 #[v] w fun e w' => e = .returned (.int .u32 (wd l : Nat)) ∧ w = w' := by
  obtain ⟨ao, ca, hv, ma⟩ := h.form
  have CA := Lib.hid (h.cell hv)
  have HL := Lib.hid hl
  subst hv
  clear h hl
  go_enter Try.func67, Try.ntmps67
  go_wp2_with fail
  go_loop [3, 8] (fun u i => ∃ k : Nat, k ≤ l.length ∧ i = .int .i64 (k : Int) ∧ u = .int .u32 (wd (l.take k) : Nat)) (fun _ i => l.length - (intOf i).toNat)
  case atStart => exact ⟨0, Nat.zero_le _, rfl, rfl⟩
  case round =>
    obtain ⟨k, hk, rfl, rfl⟩ := hrel
    by_cases hlt : k < l.length
    · obtain ⟨ba, oa, rfl, ha'⟩ := CA.out (by omega)
      obtain ⟨x, hx⟩ : ∃ x, l[k]? = some x := ⟨_, List.getElem?_eq_getElem hlt⟩
      have ha1 := ha' k _ hx
      have hb := HL.out x (List.mem_of_getElem? hx)
      have e2 : wd (l.take (k + 1)) = wd (l.take k) ||| 2 ^ x.toNat := by
        rw [take_getS hx, wd_append, Nat.or_comm]; simp [wd]
      have e3 := or_pow (wd_take_lt HL.out k) (by omega : x.toNat < 32)
      rw [← e2] at e3
      have HE := Lib.hid e3
      have hb0 := hb.1
      clear ha' hx e2 e3
      go_wp2_with fail
      go_round
      case rel => exact ⟨k + 1, by omega, by go_num, by rw [HE.out]⟩
      case measure => simp [intOf]; omega
    · have hf : Hid (wd (l.take k) = wd l) := by unfold Hid; rw [List.take_of_length_le (by omega)]
      go_wp2_with fail
      go_ret
      exact ⟨congrArg (fun u : Nat => Ending.returned (Value.int .u32 (u : Int))) hf.out, rfl⟩

/-! ### Facts -/
theorem and_one {x k : Nat} : bits .and .u32 ((x : Int) / 2 ^ k) 1 = if x.testBit k then 1 else 0 := by
  have e : ((x : Int) / 2 ^ k) = ((x / 2 ^ k : Nat) : Int) := by simp
  rw [e]
  generalize hy : x / 2 ^ k = y
  have ht : x.testBit k = decide (y % 2 = 1) := by rw [Nat.testBit_eq_decide_div_mod_eq, hy]
  rw [ht]
  have e1 : bits .and .u32 (y : Int) 1 = ((y % 2 : Nat) : Int) := by
    have hm : (y % 4294967296) % 2 = y % 2 := by omega
    have hB : ∀ (a b : BitVec 32), a.toNat = y % 4294967296 → b.toNat = 1 → IntKind.u32.wrap ((a &&& b).toNat : Int) = ((y % 2 : Nat) : Int) := by
      intro a b ha hb
      rw [BitVec.toNat_and, ha, hb, Nat.and_one_is_mod, hm, IntKind.wrap_u32]
      omega
    exact hB (BitVec.ofInt 32 (y : Int)) (BitVec.ofInt 32 1) (by rw [BitVec.ofInt_natCast, BitVec.toNat_ofNat]) (by decide)
  rw [e1]
  by_cases h : y % 2 = 1
  · simp [h]
  · have : y % 2 = 0 := by omega
    simp [this]

theorem own_grown {e : TypeId} {size n : Nat} {xs : List Value} {w2 wr Wa w4 : World} {v : Value} (h : wr.ownsRow w2.heap.size e size v n xs) (hk : Keeps (fun _ => False) w2 wr) (hWa : Keeps (fun _ => False) wr Wa) (hgrow : Wa.grownBy w4 v.ownBlock) : Keeps (fun _ => False) w2 w4 :=
  (hk.trans hWa).trans' ((Keeps.refl (fun k => v.ownBlock = some k) Wa).grown hgrow (fun _ hk => .inl hk)) (fun b hb => .inr (World.ownsRow.lt h b hb).1)

/-- The facts of a word below a bound. -/
def factsTo (x k : Nat) : List Int := ((List.range k).filter fun p => x.testBit p).map fun p : Nat => (p : Int)
theorem factsTo_succ (x k : Nat) : factsTo x (k + 1) = if x.testBit k then factsTo x k ++ [(k : Int)] else factsTo x k := by
  unfold factsTo
  rw [List.range_succ, List.filter_append, List.map_append]
  cases h : x.testBit k <;> simp [h]
theorem factsTo_le (x k : Nat) : (factsTo x k).length ≤ k := by
  unfold factsTo
  rw [List.length_map]
  have := List.length_filter_le (fun p => x.testBit p) (List.range k)
  simpa using this

set_option maxRecDepth 100000 in
theorem facts_any (w : World) (x : Nat) :
    Calls Try.prog 45 #[.int .u32 (x : Int)] w fun e w' => ∃ v, e = .returned v ∧ w'.ownsRow w.heap.size 3 1 v (facts x).length ((facts x).map (Value.int .i64)) ∧ Keeps (fun _ => False) w w' ∧ w.drawn ≤ w'.drawn := by
  obtain ⟨i0, hi0, hz0, hz1, hz2⟩ := info_parts Try.info3
  go_enter Try.func45, Try.ntmps45
  go_wp2_with fail
  go_loopw [3, 5] (fun v i wr => ∃ k : Nat, k ≤ 32 ∧ i = .int .i64 (k : Int) ∧ wr.ownsRow w.heap.size 3 1 v (factsTo x k).length ((factsTo x k).map (Value.int .i64)) ∧ Keeps (fun _ => False) w wr ∧ w.drawn ≤ wr.drawn) (fun _ i _ => 32 - (intOf i).toNat)
  case atStart => exact ⟨0, by omega, rfl, World.ownsRow_nil _ _ _ _, Keeps.refl _ _, Nat.le_refl _⟩
  case round =>
    obtain ⟨k, hk, rfl, hown, hkw, hd⟩ := hrel
    have HO := Lib.hid hown; clear hown
    have KW := Lib.hid hkw; clear hkw
    by_cases hlt : k < 32
    · have hle := factsTo_le x k
      have hsz := KW.out.size
      by_cases ht : x.testBit k = true
      · have hb : (bits .and .u32 ((x : Int) / 2 ^ k) 1 == 1) = true := by rw [and_one, if_pos ht]; rfl
        have HS : Hid (factsTo x (k + 1) = factsTo x k ++ [(k : Int)]) := by unfold Hid; rw [factsTo_succ, if_pos ht]
        clear ht
        obtain ⟨av, cv, hv⟩ := ownsRow_form1 HO.out
        subst hv
        go_wp2_with (at_builtin; refine wpList_append_d rfl _ _ _ rfl w.heap.size 3 i0 _ 1 8 Try.underlying22 hi0 hz0 hz1 hz2 rfl (by omega) _ (factsTo x k).length ((factsTo x k).map (Value.int .i64)) (by rfl) (World.ownsRow.alloc HO.out (.cells #[.int .i64 (k : Int)] 3)) ⟨wr.heap.size, 0, none⟩ 1 1 [.int .i64 (k : Int)] (by rfl) (by rfl) ?hnews ?hone (by omega) (by unfold maxLen; omega) (by omega) (by simp; omega) (wr.heap.size + 1) (by simp) ?_)
        case hnews => exact World.news_of_block (cs := #[.int .i64 (k : Int)]) (t := 3) (fr := (0, 0)) (heap_alloc_new _ _)
        case hone => simp [Value.oneCell']
        intro g cap2 w4 hown hgrow hat hlt4 hd4
        have HN := Lib.hid (show w4.ownsRow w.heap.size 3 1 (.slice (some ⟨g, 0, none⟩) ((factsTo x k).length + 1) cap2) (factsTo x (k + 1)).length ((factsTo x (k + 1)).map (Value.int .i64)) by
          rw [HS.out, List.map_append, List.length_append]; exact hown)
        have HKN := Lib.hid (own_grown HO.out KW.out ((Keeps.refl _ wr).alloc (.cells #[.int .i64 (k : Int)] 3)) hgrow)
        have hd5 : w.drawn ≤ w4.drawn := Nat.le_trans hd hd4
        clear hown hgrow hat hd4
        go_wp2_with fail
        go_roundw
        case rel => exact ⟨k + 1, by omega, by go_num, HN.out, HKN.out, hd5⟩
        case measure => simp [intOf]; omega
      · have hb : (bits .and .u32 ((x : Int) / 2 ^ k) 1 == 1) = false := by rw [and_one, if_neg ht]; rfl
        have HS : Hid (factsTo x (k + 1) = factsTo x k) := by unfold Hid; rw [factsTo_succ, if_neg ht]
        clear ht
        go_wp2_with fail
        go_roundw
        case rel => exact ⟨k + 1, by omega, by go_num, by rw [HS.out]; exact HO.out, KW.out, hd⟩
        case measure => simp [intOf]; omega
    · obtain rfl : k = 32 := by omega
      go_wp2_with fail
      go_ret
      exact ⟨_, rfl, HO.out, KW.out, hd⟩

end Go.Proofs.Ytdonadeodioplaa

namespace Go.Proofs.Ytdonadeodioplaa
open Go.RowKit

theorem bsearch_any (w : World) (v : Value) (l : List Int) (x : Int) (h : Ints w v l) (hs : l.Pairwise (· < ·)) (hlen : l.length < 4611686018427387904) :
    Calls Try.prog 132 #[v, .int .i64 x] w fun e w' => ∃ k : Int, e = .returned (.tuple #[.int .i64 k, .bool (decide (x ∈ l))]) ∧ ∃ q, w' = w.drewN q := by
  obtain ⟨ao, ca, hv, ma⟩ := h.form
  have CA := h.cell hv
  subst hv
  by_cases hl : 0 < l.length
  · obtain ⟨b, off, rfl, hc⟩ := CA hl
    refine (Try.slices_BinarySearch_int b off l.length ca l x w (Nat.le_refl _) hlen (fun j hj => ?_) (by rw [List.take_length]; exact hs.imp (fun h => by omega))).mono ?_
    · obtain ⟨y, hy⟩ : ∃ y, l[j]? = some y := ⟨_, List.getElem?_eq_getElem hj⟩
      rw [hc j y hy, List.getD_eq_getElem?_getD, hy]; rfl
    · rintro e w' ⟨rfl, hw⟩
      have : (l.take l.length).contains x = decide (x ∈ l) := by
        rw [List.take_length]
        cases hd : decide (x ∈ l) with
        | true => simpa using hd
        | false => simpa using hd
      rw [this]
      exact ⟨_, rfl, hw⟩
  · obtain rfl : l = [] := List.length_eq_zero_iff.1 (by omega)
    refine (Try.slices_BinarySearch_int_empty ao ca x w).mono ?_
    rintro e w' ⟨rfl, rfl⟩
    exact ⟨0, by simp, 0, rfl⟩

theorem meets1_any (w : World) (a : Nat) (v : Value) (l : List Int) (x : Int) (h : Ints w v l) (hs : l.Pairwise (· < ·)) (hlen : l.length < 4611686018427387904) (hb : w.cell? ⟨a, 0, none⟩ = some v) :
    Calls Try.prog 131 #[.int .i64 x, .pointer (some ⟨a, 0, none⟩)] w fun e w' => e = .returned (.bool (decide (x ∈ l))) ∧ ∃ q, w' = w.drewN q := by
  obtain ⟨ao, ca, hv, ma⟩ := h.form
  have HI := Lib.hid h
  have HS := Lib.hid hs
  subst hv
  clear h hs
  generalize hm : decide (x ∈ l) = r
  have HM := Lib.hid hm
  clear hm
  go_enter Try.func131, Try.ntmps131
  go_wp2_with fail
  refine (bsearch_any _ _ _ _ HI.out HS.out hlen).mono ?_; rintro e w1 ⟨k, rfl, q, rfl⟩
  rw [HM.out]
  go_wp2_with fail
  go_ret
  exact ⟨rfl, q, rfl⟩

/-- The place of the first element of a in b, or -1. -/
theorem indexFunc_any (w : World) (va vb : Value) (a b : List Int) (bx : Nat) (ha : Ints w va a) (hb : Ints w vb b) (hs : b.Pairwise (· < ·)) (hlen : b.length < 4611686018427387904) (hbx : w.cell? ⟨bx, 0, none⟩ = some vb) :
    Calls Try.prog 141 #[va, .func (.func 131) #[] #[.pointer (some ⟨bx, 0, none⟩)]] w fun e w' => ∃ k : Int, e = .returned (.int .i64 k) ∧ (decide (0 ≤ k) = !disjB a b) ∧ Keeps (fun _ => False) w w' := by
  obtain ⟨ao, ca, hv, ma⟩ := ha.form
  have CA := Lib.hid (ha.cell hv)
  have HB := Lib.hid hb; have HS := Lib.hid hs; have HX := Lib.hid hbx
  subst hv
  clear ha hb hs hbx
  go_enter Try.func141, Try.ntmps141
  go_wp2_with fail
  go_loopw [8] (fun i wr => ∃ k : Nat, k ≤ a.length ∧ i = .int .i64 (k : Int) ∧ disjB (a.take k) b = true ∧ Keeps (fun _ => False) w wr) (fun i _ => a.length - (intOf i).toNat)
  case atStart => exact ⟨0, Nat.zero_le _, rfl, rfl, Keeps.refl _ _⟩
  case round =>
    obtain ⟨k, hk, rfl, ht, hkw⟩ := hrel
    have HT := Lib.hid ht; clear ht
    have KW := Lib.hid hkw; clear hkw
    by_cases hlt : k < a.length
    · obtain ⟨ba, oa, rfl, ha'⟩ := CA.out (by omega)
      obtain ⟨x, hx⟩ : ∃ x, a[k]? = some x := ⟨_, List.getElem?_eq_getElem hlt⟩
      have ha1 := KW.out.cell (ha' k _ hx) (fun h => h)
      have HXX := Lib.hid hx
      have e2 := take_getS hx
      clear ha' hx
      by_cases hm : x ∈ b
      · have hf : Hid (disjB a b = false) := by
          unfold Hid disjB
          rw [List.all_eq_false]
          exact ⟨x, List.mem_of_getElem? HXX.out, by simp [hm]⟩
        have HD := Lib.hid (decide_eq_true hm)
        clear hm e2
        go_wp2_with fail
        refine (meets1_any _ bx _ _ _ (HB.out.keeps0 KW.out) HS.out hlen (KW.out.cell HX.out (fun h => h))).mono ?_; rintro e w1 ⟨rfl, q, rfl⟩
        rw [HD.out]
        go_wp2_with fail
        go_ret
        exact ⟨_, rfl, by rw [hf.out]; simp, KW.out.drewN q⟩
      · have HN : Hid (disjB (a.take (k + 1)) b = true) := by
          unfold Hid
          rw [e2]
          have := HT.out
          unfold disjB at this ⊢
          rw [List.all_append, this]
          simp [hm]
        have HD := Lib.hid (decide_eq_false hm)
        clear hm e2
        go_wp2_with fail
        refine (meets1_any _ bx _ _ _ (HB.out.keeps0 KW.out) HS.out hlen (KW.out.cell HX.out (fun h => h))).mono ?_; rintro e w1 ⟨rfl, q, rfl⟩
        rw [HD.out]
        go_wp2_with fail
        go_roundw
        case rel => exact ⟨k + 1, by omega, by go_num, HN.out, KW.out.drewN q⟩
        case measure => simp [intOf]; omega
    · have hf : Hid (disjB a b = true) := by
        unfold Hid
        have := HT.out
        rwa [List.take_of_length_le (by omega)] at this
      go_wp2_with fail
      go_ret
      exact ⟨_, rfl, by rw [hf.out]; rfl, KW.out⟩

theorem containsFunc_any (w : World) (va vb : Value) (a b : List Int) (bx : Nat) (ha : Ints w va a) (hb : Ints w vb b) (hs : b.Pairwise (· < ·)) (hlen : b.length < 4611686018427387904) (hbx : w.cell? ⟨bx, 0, none⟩ = some vb) :
    Calls Try.prog 130 #[va, .func (.func 131) #[] #[.pointer (some ⟨bx, 0, none⟩)]] w fun e w' => e = .returned (.bool (!disjB a b)) ∧ Keeps (fun _ => False) w w' := by
  have H := Lib.hid (indexFunc_any w va vb a b bx ha hb hs hlen hbx)
  clear ha hb hs hbx
  generalize (!disjB a b) = r at H ⊢
  go_enter Try.func130, Try.ntmps130
  go_wp2_with fail
  refine H.out.mono ?_; rintro e w1 ⟨k, rfl, hk, hkw⟩
  have KW := Lib.hid hkw
  have HK := Lib.hid hk
  clear hkw hk
  go_wp2_with fail
  go_ret
  exact ⟨congrArg (fun b => Ending.returned (Value.bool b)) HK.out, KW.out⟩

theorem meets_any (w : World) (va vb : Value) (a b : List Int) (ha : Ints w va a) (hb : Ints w vb b) (hs : b.Pairwise (· < ·)) (hlen : b.length < 4611686018427387904) :
    Calls Try.prog 112 #[va, vb] w fun e w' => e = .returned (.bool (!disjB a b)) ∧ Keeps (fun _ => False) w w' := by
  have HA := Lib.hid ha; have HB := Lib.hid hb; have HS := Lib.hid hs
  obtain ⟨ao, ca, hva, ma⟩ := ha.form
  obtain ⟨bo, cb, hvb, mb⟩ := hb.form
  subst hva hvb
  clear ha hb hs
  generalize hr : (!disjB a b) = r
  have HR := Lib.hid hr
  clear hr
  go_enter Try.func112, Try.ntmps112
  go_wp2_with fail
  have K1 := (Keeps.refl (fun _ => False) w).alloc (.cells #[.slice bo b.length cb] 22)
  refine (containsFunc_any _ _ _ a b w.heap.size (HA.out.keeps0 K1) (HB.out.keeps0 K1) HS.out hlen ((cell_of_blk (heap_alloc_new w _)).trans rfl)).mono ?_; rintro e w1 ⟨rfl, hk⟩
  rw [HR.out]
  have KW := Lib.hid (K1.trans hk)
  clear hk K1
  go_wp2_with fail
  go_ret
  exact ⟨rfl, KW.out⟩

end Go.Proofs.Ytdonadeodioplaa

namespace Go.Proofs.Ytdonadeodioplaa
open Go.RowKit

/-- A slice of operators. -/
def OpsAt (w : World) (v : Value) (ops : List Opr) : Prop :=
  ∃ ao cap, v = .slice ao ops.length cap ∧ ops.length ≤ maxLen ∧ (0 < ops.length → ∃ b off, ao = some ⟨b, off, none⟩ ∧ ∀ i o, ops[i]? = some o →
    ∃ va vb vc, w.cell? ⟨b, off + i * 4, none⟩ = some va ∧ w.cell? ⟨b, off + i * 4 + 1, none⟩ = some vb ∧ w.cell? ⟨b, off + i * 4 + 2, none⟩ = some vc ∧ w.cell? ⟨b, off + i * 4 + 3, none⟩ = some (.int .i64 o.cost) ∧
      Ints w va o.pre ∧ Ints w vb o.add ∧ Ints w vc o.del)

theorem OpsAt.keeps0 {w w' : World} {v : Value} {ops : List Opr} (h : OpsAt w v ops) (hk : Keeps (fun _ => False) w w') : OpsAt w' v ops := by
  obtain ⟨ao, cap, hv, hm, hc⟩ := h
  refine ⟨ao, cap, hv, hm, fun h0 => ?_⟩
  obtain ⟨b, off, ha, hx⟩ := hc h0
  refine ⟨b, off, ha, fun i o ho => ?_⟩
  obtain ⟨va, vb, vc, h1, h2, h3, h4, h5, h6, h7⟩ := hx i o ho
  exact ⟨va, vb, vc, hk.cell h1 (fun h => h), hk.cell h2 (fun h => h), hk.cell h3 (fun h => h), hk.cell h4 (fun h => h), h5.keeps0 hk, h6.keeps0 hk, h7.keeps0 hk⟩

theorem OpsAt.form {w : World} {v : Value} {ops : List Opr} (h : OpsAt w v ops) : ∃ ao cap, v = .slice ao ops.length cap ∧ ops.length ≤ 9223372036854775807 := by
  obtain ⟨ao, cap, hv, hm, _⟩ := h
  unfold maxLen at hm
  exact ⟨ao, cap, hv, by omega⟩

theorem OpsAt.cell {w : World} {v : Value} {ops : List Opr} (h : OpsAt w v ops) {ao : Option Addr} {n cap : Nat} (hv : v = .slice ao n cap) (hn : 0 < ops.length) :
    ∃ b off, ao = some ⟨b, off, none⟩ ∧ ∀ i o, ops[i]? = some o →
    ∃ va vb vc, w.cell? ⟨b, off + i * 4, none⟩ = some va ∧ w.cell? ⟨b, off + i * 4 + 1, none⟩ = some vb ∧ w.cell? ⟨b, off + i * 4 + 2, none⟩ = some vc ∧ w.cell? ⟨b, off + i * 4 + 3, none⟩ = some (.int .i64 o.cost) ∧
      Ints w va o.pre ∧ Ints w vb o.add ∧ Ints w vc o.del := by
  obtain ⟨ao', cap', hv', hm, hc⟩ := h
  rw [hv'] at hv
  simp only [Value.slice.injEq] at hv
  obtain ⟨rfl, _, _⟩ := hv
  exact hc hn

/-- The four values of a task. -/
structure TaskAt (w : World) (vi vg vo : Value) (t : Tsk) : Prop where
  init : Ints w vi t.init
  goal : Ints w vg t.goal
  ops : OpsAt w vo t.ops

theorem TaskAt.keeps0 {w w' : World} {vi vg vo : Value} {t : Tsk} (h : TaskAt w vi vg vo t) (hk : Keeps (fun _ => False) w w') : TaskAt w' vi vg vo t := ⟨h.init.keeps0 hk, h.goal.keeps0 hk, h.ops.keeps0 hk⟩

/-- A block of four cells. -/
structure Four (w : World) (b : Nat) (x0 x1 x2 x3 : Value) : Prop where
  c0 : w.cell? ⟨b, 0, none⟩ = some x0
  c1 : w.cell? ⟨b, 1, none⟩ = some x1
  c2 : w.cell? ⟨b, 2, none⟩ = some x2
  c3 : w.cell? ⟨b, 3, none⟩ = some x3
theorem Four.keeps0 {w w' : World} {b : Nat} {x0 x1 x2 x3 : Value} (h : Four w b x0 x1 x2 x3) (hk : Keeps (fun _ => False) w w') : Four w' b x0 x1 x2 x3 :=
  ⟨hk.cell h.c0 (fun h => h), hk.cell h.c1 (fun h => h), hk.cell h.c2 (fun h => h), hk.cell h.c3 (fun h => h)⟩
theorem Four.new (w : World) (x0 x1 x2 x3 : Value) (T : TypeId) : Four (w.alloc (.cells #[x0, x1, x2, x3] T)) w.heap.size x0 x1 x2 x3 := by
  have h := heap_alloc_new w (.cells #[x0, x1, x2, x3] T)
  exact ⟨by rw [cell_of_blk h]; rfl, by rw [cell_of_blk h]; rfl, by rw [cell_of_blk h]; rfl, by rw [cell_of_blk h]; rfl⟩
theorem Four.lt {w : World} {b : Nat} {x0 x1 x2 x3 : Value} (h : Four w b x0 x1 x2 x3) : b < w.heap.size := by
  have := World.block_lt_of_cell? w _ h.c0; simpa using this

theorem setFrom_length {n : Int} {l : List Int} : ∀ {lo : Int}, setFrom n lo l = true → l = [] ∨ lo + l.length ≤ n := by
  induction l with
  | nil => intro lo _; exact .inl rfl
  | cons x r ih =>
    intro lo h
    simp only [setFrom, Bool.and_eq_true, decide_eq_true_eq] at h
    right
    rcases ih h.2 with rfl | h'
    · simp; omega
    · simp only [List.length_cons]; omega
theorem isSet_length {n : Int} {l : List Int} (h : isSetB l n = true) (hn : n ≤ 1000) : l.length ≤ 1000 := by
  rcases setFrom_length h with rfl | h
  · simp
  · omega

theorem sIsSet_val {w : World} {v : Value} {l : List Int} {n : Int} {b : Bool} (h : Ints w v l) (hb : isSetB l n = b) :
    Calls Try.prog 88 #[v, .int .i64 n] w fun e w' => e = .returned (.bool b) ∧ w = w' := by rw [← hb]; exact sIsSet_any w v l n h

theorem operator_any (w : World) (va vb vc : Value) (o : Opr) (n : Int) (ha : Ints w va o.pre) (hb : Ints w vb o.add) (hc : Ints w vc o.del) (hn : n ≤ 1000) :
    Calls Try.prog 89 #[.agg #[va, vb, vc, .int .i64 o.cost], .int .i64 n] w fun e w' => e = .returned (.int .i64 (opCode o n)) ∧ Keeps (fun _ => False) w w' := by
  have HA := Lib.hid (ha.keeps0 ((Keeps.refl _ w).alloc (.cells #[va, vb, vc, .int .i64 o.cost] 39)))
  have HB := Lib.hid (hb.keeps0 ((Keeps.refl _ w).alloc (.cells #[va, vb, vc, .int .i64 o.cost] 39)))
  have HC := Lib.hid (hc.keeps0 ((Keeps.refl _ w).alloc (.cells #[va, vb, vc, .int .i64 o.cost] 39)))
  have K0 := Lib.hid ((Keeps.refl (fun _ => False) w).alloc (.cells #[va, vb, vc, .int .i64 o.cost] 39))
  obtain ⟨ao1, ca1, h1, _⟩ := ha.form
  obtain ⟨ao2, ca2, h2, _⟩ := hb.form
  obtain ⟨ao3, ca3, h3, _⟩ := hc.form
  subst h1 h2 h3
  clear ha hb hc
  cases b1 : isSetB o.pre n with
  | false =>
    have hr : Hid (opCode o n = 5) := by unfold Hid opCode; simp [b1]
    have B1 := Lib.hid b1; clear b1
    go_enter Try.func89, Try.ntmps89
    go_wp2_with fail
    refine (sIsSet_val HA.out B1.out).mono ?_; rintro e w1 ⟨rfl, rfl⟩
    go_wp2_with fail
    go_ret
    exact ⟨congrArg (fun u : Int => Ending.returned (Value.int .i64 u)) hr.out.symm, K0.out⟩
  | true =>
    cases b2 : isSetB o.add n with
    | false =>
      have hr : Hid (opCode o n = 5) := by unfold Hid opCode; simp [b2]
      have B1 := Lib.hid b1; have B2 := Lib.hid b2; clear b1 b2
      go_enter Try.func89, Try.ntmps89
      go_wp2_with fail
      refine (sIsSet_val HA.out B1.out).mono ?_; rintro e w1 ⟨rfl, rfl⟩
      go_wp2_with fail
      refine (sIsSet_val HB.out B2.out).mono ?_; rintro e w1 ⟨rfl, rfl⟩
      go_wp2_with fail
      go_ret
      exact ⟨congrArg (fun u : Int => Ending.returned (Value.int .i64 u)) hr.out.symm, K0.out⟩
    | true =>
      cases b3 : isSetB o.del n with
      | false =>
        have hr : Hid (opCode o n = 5) := by unfold Hid opCode; simp [b3]
        have B1 := Lib.hid b1; have B2 := Lib.hid b2; have B3 := Lib.hid b3; clear b1 b2 b3
        go_enter Try.func89, Try.ntmps89
        go_wp2_with fail
        refine (sIsSet_val HA.out B1.out).mono ?_; rintro e w1 ⟨rfl, rfl⟩
        go_wp2_with fail
        refine (sIsSet_val HB.out B2.out).mono ?_; rintro e w1 ⟨rfl, rfl⟩
        go_wp2_with fail
        refine (sIsSet_val HC.out B3.out).mono ?_; rintro e w1 ⟨rfl, rfl⟩
        go_wp2_with fail
        go_ret
        exact ⟨congrArg (fun u : Int => Ending.returned (Value.int .i64 u)) hr.out.symm, K0.out⟩
      | true =>
        have hl := isSet_length b3 hn
        have HM := Lib.hid (meets_any _ _ _ _ _ HB.out HC.out (isSet_iff.1 b3).2 (by omega))
        cases b4 : disjB o.add o.del with
        | false =>
          have hr : Hid (opCode o n = 5) := by unfold Hid opCode; simp [b4]
          have B1 := Lib.hid b1; have B2 := Lib.hid b2; have B3 := Lib.hid b3; have B4 := Lib.hid b4; clear b1 b2 b3 b4
          go_enter Try.func89, Try.ntmps89
          go_wp2_with fail
          refine (sIsSet_val HA.out B1.out).mono ?_; rintro e w1 ⟨rfl, rfl⟩
          go_wp2_with fail
          refine (sIsSet_val HB.out B2.out).mono ?_; rintro e w1 ⟨rfl, rfl⟩
          go_wp2_with fail
          refine (sIsSet_val HC.out B3.out).mono ?_; rintro e w1 ⟨rfl, rfl⟩
          go_wp2_with fail
          refine HM.out.mono ?_; rintro e w1 ⟨rfl, hk⟩
          rw [B4.out]
          have KF := Lib.hid (K0.out.trans hk)
          clear hk
          go_wp2_with fail
          go_ret
          exact ⟨congrArg (fun u : Int => Ending.returned (Value.int .i64 u)) hr.out.symm, KF.out⟩
        | true =>
          have HO : Hid (opCode o n = if 0 ≤ o.cost ∧ o.cost ≤ 100 then 0 else 3) := by unfold Hid opCode; simp [b1, b2, b3, b4]
          have B1 := Lib.hid b1; have B2 := Lib.hid b2; have B3 := Lib.hid b3; have B4 := Lib.hid b4; clear b1 b2 b3 b4
          have HF := Lib.hid (Four.new w (.slice ao1 o.pre.length ca1) (.slice ao2 o.add.length ca2) (.slice ao3 o.del.length ca3) (.int .i64 o.cost) 39)
          go_enter Try.func89, Try.ntmps89
          go_wp2_with fail
          refine (sIsSet_val HA.out B1.out).mono ?_; rintro e w1 ⟨rfl, rfl⟩
          go_wp2_with fail
          refine (sIsSet_val HB.out B2.out).mono ?_; rintro e w1 ⟨rfl, rfl⟩
          go_wp2_with fail
          refine (sIsSet_val HC.out B3.out).mono ?_; rintro e w1 ⟨rfl, rfl⟩
          go_wp2_with fail
          refine HM.out.mono ?_; rintro e w1 ⟨rfl, hk⟩
          rw [B4.out]
          have KF := Lib.hid (K0.out.trans hk)
          have c3 := (HF.out.keeps0 hk).c3
          have l3 := (HF.out.keeps0 hk).lt
          clear hk
          by_cases h0 : o.cost < 0
          · have hr : Hid (opCode o n = 3) := by unfold Hid; rw [HO.out, if_neg (by omega)]
            go_wp2_with fail
            go_ret
            exact ⟨congrArg (fun u : Int => Ending.returned (Value.int .i64 u)) hr.out.symm, KF.out⟩
          · have h0' : 0 ≤ o.cost := by omega
            clear h0
            by_cases h1 : 100 < o.cost
            · have hr : Hid (opCode o n = 3) := by unfold Hid; rw [HO.out, if_neg (by omega)]
              go_wp2_with fail
              go_ret
              exact ⟨congrArg (fun u : Int => Ending.returned (Value.int .i64 u)) hr.out.symm, KF.out⟩
            · have h1' : o.cost ≤ 100 := by omega
              clear h1
              have hr : Hid (opCode o n = 0) := by unfold Hid; rw [HO.out, if_pos ⟨h0', h1'⟩]
              go_wp2_with fail
              go_ret
              exact ⟨congrArg (fun u : Int => Ending.returned (Value.int .i64 u)) hr.out.symm, KF.out⟩

end Go.Proofs.Ytdonadeodioplaa

namespace Go.Proofs.Ytdonadeodioplaa
open Go.RowKit

theorem opsFault_get {n i : Int} {l : List Opr} {k : Nat} {o : Opr} (h : l[k]? = some o) : opsFault n i (l.drop k) = if opCode o n = 0 then opsFault n (i + 1) (l.drop (k + 1)) else (opCode o n, i) := by
  obtain ⟨h1, h2⟩ := List.getElem?_eq_some_iff.1 h
  rw [List.drop_eq_getElem_cons h1, h2, opsFault]

/-- What a function that keeps its fault in a block of its own knows of that block. -/
structure Flt (w w1 : World) (F : Nat) (T : TypeId) : Prop where
  blk : w1.heap[F]? = some (.cells #[.int .i64 0, .int .i64 0] T (0, 0))
  base : w.heap.size ≤ F
  keep : Keeps (fun _ => False) w w1
theorem Flt.keeps0 {w w1 w2 : World} {F : Nat} {T : TypeId} (h : Flt w w1 F T) (hk : Keeps (fun _ => False) w1 w2) : Flt w w2 F T := ⟨hk.heap h.blk (fun h => h), h.base, h.keep.trans hk⟩
theorem Flt.cells {w w1 : World} {F : Nat} {T : TypeId} (h : Flt w w1 F T) : w1.cell? ⟨F, 0, none⟩ = some (.int .i64 0) ∧ w1.cell? ⟨F, 1, none⟩ = some (.int .i64 0) ∧ w1.frozen? ⟨F, 0, none⟩ = false ∧ w1.frozen? ⟨F, 1, none⟩ = false ∧ F < w1.heap.size :=
  ⟨by rw [cell_of_blk h.blk]; rfl, by rw [cell_of_blk h.blk]; rfl, frozen_of_blk h.blk, frozen_of_blk h.blk, lt_of_heap h.blk⟩
theorem Flt.set {w w1 : World} {F : Nat} {T : TypeId} (h : Flt w w1 F T) (c n : Value) : ((w1.setCell ⟨F, 0, none⟩ c).setCell ⟨F, 1, none⟩ n).heap[F]? = some (.cells #[c, n] T (0, 0)) ∧ Keeps (fun _ => False) w ((w1.setCell ⟨F, 0, none⟩ c).setCell ⟨F, 1, none⟩ n) :=
  ⟨pair_set h.blk c n, h.keep.trans' (keeps_pair F c n) (fun i hi => .inr (by have := h.base; omega))⟩

set_option maxHeartbeats 1000000 in
theorem validate_any (w : World) (vi vg vo : Value) (t : Tsk) (h : TaskAt w vi vg vo t) :
    Calls Try.prog 48 #[.agg #[.int .i64 t.n, vi, vg, vo]] w fun e w' => e = .returned (.agg #[.int .i64 (taskFault t).1, .int .i64 (taskFault t).2]) ∧ Keeps (fun _ => False) w w' := by
  obtain ⟨ai, ci, h1, _⟩ := h.init.form
  obtain ⟨ag, cg, h2, _⟩ := h.goal.form
  obtain ⟨ao, co, h3, hmo⟩ := h.ops.form
  subst h1 h2 h3
  have K1 := (Keeps.refl (fun _ => False) w).alloc (.cells #[.int .i64 t.n, .slice ai t.init.length ci, .slice ag t.goal.length cg, .slice ao t.ops.length co] 25)
  have HT := h.keeps0 (K1.alloc (.cells #[.int .i64 0, .int .i64 0] 30))
  have HB := (Four.new w (.int .i64 t.n) (.slice ai t.init.length ci) (.slice ag t.goal.length cg) (.slice ao t.ops.length co) 25).keeps0 ((Keeps.refl _ _).alloc (.cells #[.int .i64 0, .int .i64 0] 30))
  have HF : Flt w ((w.alloc (.cells #[.int .i64 t.n, .slice ai t.init.length ci, .slice ag t.goal.length cg, .slice ao t.ops.length co] 25)).alloc (.cells #[.int .i64 0, .int .i64 0] 30)) (w.heap.size + 1) 30 :=
    ⟨by have := heap_alloc_new (w.alloc (.cells #[.int .i64 t.n, .slice ai t.init.length ci, .slice ag t.goal.length cg, .slice ao t.ops.length co] 25)) (.cells #[.int .i64 0, .int .i64 0] 30); rwa [World.size_alloc] at this, by omega, K1.alloc _⟩
  replace HT := Lib.hid HT; replace HB := Lib.hid HB; replace HF := Lib.hid HF
  clear h K1
  go_enter Try.func48, Try.ntmps48
  go_upto_region 1 with fail
  generalize ((w.alloc (.cells #[.int .i64 t.n, .slice ai t.init.length ci, .slice ag t.goal.length cg, .slice ao t.ops.length co] 25)).alloc (.cells #[.int .i64 0, .int .i64 0] 30)) = w1 at HT HB HF ⊢
  obtain ⟨d0, d1, d2, d3⟩ := HB.out
  obtain ⟨e0, e1, z0, z1, hF⟩ := HF.out.cells
  by_cases hn : t.n < 0 ∨ 24 < t.n
  · have HP : Hid (taskFault t = (3, -1)) := by unfold Hid taskFault; rw [if_pos (by omega)]
    rcases hn with hn | hn
    all_goals
      go_wp2_with fail
      refine bodyPost_ret (results_cell_row rfl _ _ (w.heap.size + 1) 30 _ (0, 0) _ rfl (HF.out.set (.int .i64 3) (.int .i64 (-1))).1 Try.underlying30 rfl (by kernel_rfl)) rfl ?_
      exact ⟨by rw [HP.out], (HF.out.set _ _).2⟩
  · have hn0 : 0 ≤ t.n := by omega
    have hn1 : t.n ≤ 24 := by omega
    have hn2 : ¬ t.n < 0 := by omega
    have hn3 : ¬ 24 < t.n := by omega
    clear hn
    have P1 : taskFault t = if isSetB t.init t.n = false then (5, -2) else
      if isSetB t.goal t.n = false then (5, -3) else
      if 40 < t.ops.length then (2, -1) else opsFault t.n 0 t.ops := by unfold taskFault; rw [if_neg (by omega)]
    cases b1 : isSetB t.init t.n with
    | false =>
      have HP : Hid (taskFault t = (5, -2)) := by unfold Hid; rw [P1, if_pos b1]
      have B1 := Lib.hid b1
      clear b1 P1
      go_wp2_with fail
      refine (sIsSet_val HT.out.init B1.out).mono ?_; rintro e w2 ⟨rfl, rfl⟩
      go_wp2_with fail
      refine bodyPost_ret (results_cell_row rfl _ _ (w.heap.size + 1) 30 _ (0, 0) _ rfl (HF.out.set (.int .i64 5) (.int .i64 (-2))).1 Try.underlying30 rfl (by kernel_rfl)) rfl ?_
      exact ⟨by rw [HP.out], (HF.out.set _ _).2⟩
    | true =>
      rw [if_neg (by simp [b1])] at P1
      cases b2 : isSetB t.goal t.n with
      | false =>
        have HP : Hid (taskFault t = (5, -3)) := by unfold Hid; rw [P1, if_pos b2]
        have B1 := Lib.hid b1; have B2 := Lib.hid b2
        clear b1 b2 P1
        go_wp2_with fail
        refine (sIsSet_val HT.out.init B1.out).mono ?_; rintro e w2 ⟨rfl, rfl⟩
        go_wp2_with fail
        refine (sIsSet_val HT.out.goal B2.out).mono ?_; rintro e w2 ⟨rfl, rfl⟩
        go_wp2_with fail
        refine bodyPost_ret (results_cell_row rfl _ _ (w.heap.size + 1) 30 _ (0, 0) _ rfl (HF.out.set (.int .i64 5) (.int .i64 (-3))).1 Try.underlying30 rfl (by kernel_rfl)) rfl ?_
        exact ⟨by rw [HP.out], (HF.out.set _ _).2⟩
      | true =>
        rw [if_neg (by simp [b2])] at P1
        have B1 := Lib.hid b1; have B2 := Lib.hid b2
        clear b1 b2
        by_cases h40 : 40 < t.ops.length
        · have HP : Hid (taskFault t = (2, -1)) := by unfold Hid; rw [P1, if_pos h40]
          clear P1
          go_wp2_with fail
          refine (sIsSet_val HT.out.init B1.out).mono ?_; rintro e w2 ⟨rfl, rfl⟩
          go_wp2_with fail
          refine (sIsSet_val HT.out.goal B2.out).mono ?_; rintro e w2 ⟨rfl, rfl⟩
          go_wp2_with fail
          refine bodyPost_ret (results_cell_row rfl _ _ (w.heap.size + 1) 30 _ (0, 0) _ rfl (HF.out.set (.int .i64 2) (.int .i64 (-1))).1 Try.underlying30 rfl (by kernel_rfl)) rfl ?_
          exact ⟨by rw [HP.out], (HF.out.set _ _).2⟩
        · rw [if_neg h40] at P1
          have HQ := Lib.hid P1
          have HC := Lib.hid (HT.out.ops.cell rfl)
          clear P1
          go_wp2_with fail
          refine (sIsSet_val HT.out.init B1.out).mono ?_; rintro e w2 ⟨rfl, rfl⟩
          go_wp2_with fail
          refine (sIsSet_val HT.out.goal B2.out).mono ?_; rintro e w2 ⟨rfl, rfl⟩
          go_wp2_with fail
          go_loopw [41] (fun i wr => ∃ k : Nat, k ≤ t.ops.length ∧ i = .int .i64 (k : Int) ∧ opsFault t.n 0 t.ops = opsFault t.n (k : Int) (t.ops.drop k) ∧ Keeps (fun _ => False) w1 wr) (fun i _ => t.ops.length - (intOf i).toNat)
          case atStart => exact ⟨0, Nat.zero_le _, rfl, rfl, Keeps.refl _ _⟩
          case round =>
            obtain ⟨k, hk, rfl, ht, hkw⟩ := hrel
            have HTL := Lib.hid ht; clear ht
            have KW := Lib.hid hkw; clear hkw
            obtain ⟨d0, d1, d2, d3⟩ := HB.out.keeps0 KW.out
            have hbx := (HB.out.keeps0 KW.out).lt
            obtain ⟨e0, e1, z0, z1, hF⟩ := (HF.out.keeps0 KW.out).cells
            by_cases hlt : k < t.ops.length
            · obtain ⟨bo, oo, rfl, hcell⟩ := HC.out (by omega)
              obtain ⟨o, ho⟩ : ∃ o, t.ops[k]? = some o := ⟨_, List.getElem?_eq_getElem hlt⟩
              obtain ⟨va, vb, vc, p0, p1, p2, p3, i1, i2, i3⟩ := hcell k o ho
              have q0 := KW.out.cell p0 (fun h => h)
              have q1 := KW.out.cell p1 (fun h => h)
              have q2 := KW.out.cell p2 (fun h => h)
              have q3 := KW.out.cell p3 (fun h => h)
              have I1 := Lib.hid (i1.keeps0 KW.out); have I2 := Lib.hid (i2.keeps0 KW.out); have I3 := Lib.hid (i3.keeps0 KW.out)
              have HG := Lib.hid (opsFault_get (n := t.n) (i := (k : Int)) ho)
              obtain ⟨a1, k1, f1, _⟩ := i1.form
              obtain ⟨a2, k2, f2, _⟩ := i2.form
              obtain ⟨a3, k3, f3, _⟩ := i3.form
              subst f1 f2 f3
              clear hcell ho p0 p1 p2 p3 i1 i2 i3
              have KA := Lib.hid ((Keeps.refl (fun _ => False) wr).alloc (.cells #[.slice a1 o.pre.length k1, .slice a2 o.add.length k2, .slice a3 o.del.length k3, .int .i64 o.cost] 39))
              have HOP := Lib.hid (fun (w' : World) => operator_any w' (.slice a1 o.pre.length k1) (.slice a2 o.add.length k2) (.slice a3 o.del.length k3) o t.n)
              go_wp2_with fail
              refine (HOP.out _ (I1.out.keeps0 KA.out) (I2.out.keeps0 KA.out) (I3.out.keeps0 KA.out) (by omega)).mono ?_; rintro e w3 ⟨rfl, hk3⟩
              have K3 := Lib.hid (KA.out.trans hk3)
              clear hk3
              by_cases hz : opCode o t.n = 0
              · have HN : Hid (opsFault t.n 0 t.ops = opsFault t.n ((k + 1 : Nat) : Int) (t.ops.drop (k + 1))) := by
                  unfold Hid; rw [HTL.out, HG.out, if_pos hz]; rfl
                have hz' : (opCode o t.n != 0) = false := by simpa using hz
                clear hz
                generalize opCode o t.n = c at hz' ⊢
                go_wp2_with fail
                go_roundw
                case rel => exact ⟨k + 1, by omega, by go_num, HN.out, KW.out.trans K3.out⟩
                case measure => simp [intOf]; omega
              · have HP : Hid (taskFault t = (opCode o t.n, (k : Int))) := by unfold Hid; rw [HQ.out, HTL.out, HG.out, if_neg hz]
                have hz' : (opCode o t.n != 0) = true := by simpa using hz
                clear hz
                have HF4 := Lib.hid ((HF.out.keeps0 KW.out).keeps0 K3.out)
                obtain ⟨e0, e1, z0, z1, hF⟩ := HF4.out.cells
                generalize opCode o t.n = c at hz' HP ⊢
                go_wp2_with fail
                refine bodyPost_ret (results_cell_row rfl _ _ (w.heap.size + 1) 30 _ (0, 0) _ rfl (HF4.out.set (.int .i64 c) (.int .i64 (k : Int))).1 Try.underlying30 rfl (by kernel_rfl)) rfl ?_
                exact ⟨by rw [HP.out], (HF4.out.set _ _).2⟩
            · have HP : Hid (taskFault t = (0, 0)) := by unfold Hid; rw [HQ.out, HTL.out, List.drop_of_length_le (by omega)]; rfl
              have HF4 := Lib.hid (HF.out.keeps0 KW.out)
              go_wp2_with fail
              refine bodyPost_ret (results_cell_row rfl _ _ (w.heap.size + 1) 30 _ (0, 0) _ rfl (HF4.out.set (.int .i64 0) (.int .i64 0)).1 Try.underlying30 rfl (by kernel_rfl)) rfl ?_
              exact ⟨by rw [HP.out], (HF4.out.set _ _).2⟩

end Go.Proofs.Ytdonadeodioplaa
