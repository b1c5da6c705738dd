/- Tasks, sets of facts as lists and as words, the fault of a task. Nothing here speaks of one program. -/
import Derived.WalkKit
namespace Go.Proofs.Ytcfcmmajlkkabaa

structure Opr where
  pre : List Int
  add : List Int
  del : List Int
  cost : Int

structure Tsk where
  n : Int
  init : List Int
  goal : List Int
  ops : List Opr

/-! ### sets -/
/-- A strictly increasing list of numbers from lo to n - 1. -/
def setFrom (n : Int) : Int → List Int → Bool
  | _, [] => true
  | lo, x :: r => decide (lo ≤ x) && decide (x < n) && setFrom n (x + 1) r
def isSetB (l : List Int) (n : Int) : Bool := setFrom n 0 l
def disjB (a b : List Int) : Bool := a.all fun x => !b.contains x

theorem setFrom_iff {n : Int} {l : List Int} : ∀ {lo : Int}, setFrom n lo l = true ↔ (∀ x ∈ l, lo ≤ x ∧ x < n) ∧ l.Pairwise (· < ·) := by
  induction l with
  | nil => intro lo; simp [setFrom]
  | cons y r ih =>
    intro lo
    simp only [setFrom, Bool.and_eq_true, decide_eq_true_eq, ih, List.mem_cons, forall_eq_or_imp, List.pairwise_cons]
    constructor
    · rintro ⟨⟨h1, h2⟩, h3, h4⟩
      exact ⟨⟨⟨h1, h2⟩, fun x hx => ⟨by have := (h3 x hx).1; omega, (h3 x hx).2⟩⟩, fun x hx => by have := (h3 x hx).1; omega, h4⟩
    · rintro ⟨⟨⟨h1, h2⟩, h3⟩, h4, h5⟩
      exact ⟨⟨h1, h2⟩, fun x hx => ⟨by have := h4 x hx; omega, (h3 x hx).2⟩, h5⟩

theorem isSet_iff {n : Int} {l : List Int} : isSetB l n = true ↔ (∀ x ∈ l, 0 ≤ x ∧ x < n) ∧ l.Pairwise (· < ·) := setFrom_iff

theorem disj_iff {a b : List Int} : disjB a b = true ↔ ∀ x ∈ a, x ∉ b := by simp [disjB]

/-! ### the fault of a task -/
def opCode (o : Opr) (n : Int) : Int :=
  if (isSetB o.pre n && isSetB o.add n && isSetB o.del n && disjB o.add o.del) = true then (if 0 ≤ o.cost ∧ o.cost ≤ 100 then 0 else 3) else 5
def opsFault (n : Int) : Int → List Opr → Int × Int
  | _, [] => (0, 0)
  | i, o :: r => if opCode o n = 0 then opsFault n (i + 1) r else (opCode o n, i)
def taskFault (t : Tsk) : Int × Int :=
  if ¬ (0 ≤ t.n ∧ t.n ≤ 24) then (3, -1) else
  if isSetB t.init t.n = false then (5, -2) else
  if isSetB t.goal t.n = false then (5, -3) else
  if 40 < t.ops.length then (2, -1) else opsFault t.n 0 t.ops

structure Opr.Ok (o : Opr) (n : Int) : Prop where
  pre : isSetB o.pre n = true
  add : isSetB o.add n = true
  del : isSetB o.del n = true
  disj : disjB o.add o.del = true
  cost0 : 0 ≤ o.cost
  cost1 : o.cost ≤ 100

structure Tsk.Ok (t : Tsk) : Prop where
  n0 : 0 ≤ t.n
  n1 : t.n ≤ 24
  init : isSetB t.init t.n = true
  goal : isSetB t.goal t.n = true
  few : t.ops.length ≤ 40
  ops : ∀ o ∈ t.ops, o.Ok t.n

theorem opCode_zero {o : Opr} {n : Int} : opCode o n = 0 ↔ o.Ok n := by
  unfold opCode
  constructor
  · intro h
    split at h
    · rename_i h1
      split at h
      · rename_i h2
        simp only [Bool.and_eq_true] at h1
        exact ⟨h1.1.1.1, h1.1.1.2, h1.1.2, h1.2, h2.1, h2.2⟩
      · cases h
    · cases h
  · intro h
    rw [if_pos (by simp [h.pre, h.add, h.del, h.disj]), if_pos ⟨h.cost0, h.cost1⟩]

theorem opsFault_zero {n : Int} {l : List Opr} : ∀ {i : Int}, (opsFault n i l).1 = 0 ↔ ∀ o ∈ l, o.Ok n := by
  induction l with
  | nil => intro i; simp [opsFault]
  | cons o r ih =>
    intro i
    rw [opsFault]
    by_cases h : opCode o n = 0
    · rw [if_pos h, ih]; simp [opCode_zero.1 h]
    · rw [if_neg h]
      simp only [h, false_iff, List.mem_cons, forall_eq_or_imp, not_and]
      intro h'; exact absurd (opCode_zero.2 h') h

theorem opsFault_index {n : Int} {l : List Opr} : ∀ {i : Int}, (opsFault n i l).1 = 0 → opsFault n i l = (0, 0) := by
  induction l with
  | nil => intro i _; rfl
  | cons o r ih =>
    intro i h
    rw [opsFault] at h ⊢
    split at h
    · rename_i h1; rw [if_pos h1]; exact ih h
    · rename_i h1; exact absurd h h1

theorem taskFault_zero {t : Tsk} : (taskFault t).1 = 0 ↔ t.Ok := by
  unfold taskFault
  constructor
  · intro h
    split at h
    · cases h
    · rename_i h1
      split at h
      · cases h
      · rename_i h2
        split at h
        · cases h
        · rename_i h3
          split at h
          · cases h
          · rename_i h4
            exact ⟨by omega, by omega, by simpa using h2, by simpa using h3, by omega, opsFault_zero.1 h⟩
  · intro h
    rw [if_neg (by simpa using ⟨h.n0, h.n1⟩), if_neg (by simp [h.init]), if_neg (by simp [h.goal]), if_neg (by have := h.few; omega)]
    exact opsFault_zero.2 h.ops

theorem taskFault_ok {t : Tsk} (h : t.Ok) : taskFault t = (0, 0) := by
  have h0 := taskFault_zero.2 h
  unfold taskFault at h0 ⊢
  rw [if_neg (by simpa using ⟨h.n0, h.n1⟩), if_neg (by simp [h.init]), if_neg (by simp [h.goal]), if_neg (by have := h.few; omega)] at h0 ⊢
  exact opsFault_index h0

/-! ### words -/
/-- The word of a list of facts. -/
def wd : List Int → Nat
  | [] => 0
  | p :: r => wd r ||| 2 ^ p.toNat

theorem testBit_wd {l : List Int} (h : ∀ x ∈ l, 0 ≤ x) (i : Nat) : (wd l).testBit i = decide ((i : Int) ∈ l) := by
  induction l with
  | nil => simp [wd]
  | cons p r ih =>
    rw [wd, Nat.testBit_or, ih (fun x hx => h x (by simp [hx])), Nat.testBit_two_pow]
    have hp := h p (by simp)
    by_cases e : p.toNat = i
    · have : (i : Int) = p := by omega
      simp [e, this]
    · have : (i : Int) ≠ p := by omega
      simp [e, this]

theorem wd_lt {l : List Int} {n : Nat} (h : ∀ x ∈ l, 0 ≤ x ∧ x < n) : wd l < 2 ^ n := by
  apply Nat.lt_pow_two_of_testBit
  intro i hi
  rw [testBit_wd (fun x hx => (h x hx).1)]
  simp only [decide_eq_false_iff_not]
  intro hm
  have := (h _ hm).2
  omega

/-- The facts of a word, up to the fact 31. -/
def facts (w : Nat) : List Int := ((List.range 32).filter fun p => w.testBit p).map fun p : Nat => (p : Int)

theorem mem_facts {w : Nat} {x : Int} : x ∈ facts w ↔ ∃ p : Nat, x = p ∧ p < 32 ∧ w.testBit p = true := by
  unfold facts
  simp only [List.mem_map, List.mem_filter, List.mem_range]
  constructor
  · rintro ⟨p, ⟨h1, h2⟩, rfl⟩; exact ⟨p, rfl, h1, h2⟩
  · rintro ⟨p, rfl, h1, h2⟩; exact ⟨p, ⟨h1, h2⟩, rfl⟩

theorem facts_sorted (w : Nat) : (facts w).Pairwise (· < ·) := by
  unfold facts
  rw [List.pairwise_map]
  refine List.Pairwise.imp ?_ ((List.pairwise_lt_range (n := 32)).sublist (List.filter_sublist))
  intro a b h; omega

theorem sorted_ext {a b : List Int} (ha : a.Pairwise (· < ·)) (hb : b.Pairwise (· < ·)) (h : ∀ x, x ∈ a ↔ x ∈ b) : a = b := by
  have hp : a.Perm b := (List.perm_ext_iff_of_nodup (ha.imp (fun h => by omega)) (hb.imp (fun h => by omega))).2 h
  exact hp.eq_of_pairwise (le := (· < ·)) (fun x y _ _ h1 h2 => by omega) ha hb

theorem facts_wd {l : List Int} (h : isSetB l 32 = true) : facts (wd l) = l := by
  obtain ⟨h1, h2⟩ := isSet_iff.1 h
  refine sorted_ext (facts_sorted _) h2 fun x => ?_
  rw [mem_facts]
  constructor
  · rintro ⟨p, rfl, hp, ht⟩
    rw [testBit_wd (fun x hx => (h1 x hx).1)] at ht
    simpa using ht
  · intro hx
    have := h1 x hx
    refine ⟨x.toNat, by omega, by omega, ?_⟩
    rw [testBit_wd (fun x hx => (h1 x hx).1)]
    have e : ((x.toNat : Nat) : Int) = x := by omega
    simp [e, hx]

theorem isSet_mono {l : List Int} {n m : Int} (h : isSetB l n = true) (hm : n ≤ m) : isSetB l m = true := by
  obtain ⟨h1, h2⟩ := isSet_iff.1 h
  exact isSet_iff.2 ⟨fun x hx => ⟨(h1 x hx).1, by have := (h1 x hx).2; omega⟩, h2⟩

theorem wd_facts {w : Nat} (h : w < 2 ^ 32) : wd (facts w) = w := by
  apply Nat.eq_of_testBit_eq
  intro i
  rw [testBit_wd (fun x hx => by obtain ⟨p, rfl, _⟩ := mem_facts.1 hx; omega)]
  by_cases hi : i < 32
  · cases ht : w.testBit i with
    | true => simp only [decide_eq_true_eq]; exact mem_facts.2 ⟨i, rfl, hi, ht⟩
    | false =>
      simp only [decide_eq_false_iff_not]
      intro hm
      obtain ⟨p, hp, _, h2⟩ := mem_facts.1 hm
      obtain rfl : p = i := by omega
      rw [ht] at h2; cases h2
  · rw [Nat.testBit_lt_two_pow (Nat.lt_of_lt_of_le h (Nat.pow_le_pow_right (by decide) (by omega)))]
    simp only [decide_eq_false_iff_not]
    intro hm
    obtain ⟨p, hp, h1, _⟩ := mem_facts.1 hm
    omega

theorem facts_inj {a b : Nat} (ha : a < 2 ^ 32) (hb : b < 2 ^ 32) (h : facts a = facts b) : a = b := by
  rw [← wd_facts ha, h, wd_facts hb]

theorem wd_inj {a b : List Int} (ha : isSetB a 32 = true) (hb : isSetB b 32 = true) (h : wd a = wd b) : a = b := by
  rw [← facts_wd ha, h, facts_wd hb]

/-! ### operators on words -/
structure Wop where
  pre : Nat
  add : Nat
  del : Nat
  cost : Int

def Opr.word (o : Opr) : Wop := ⟨wd o.pre, wd o.add, wd o.del, o.cost⟩
def Wop.can (o : Wop) (s : Nat) : Bool := s &&& o.pre == o.pre
def andN (a b : Nat) : Nat := a &&& (b ^^^ 4294967295)
def Wop.next (o : Wop) (s : Nat) : Nat := andN s o.del ||| o.add

/-- Applicable, on lists. -/
def appL (o : Opr) (s : List Int) : Bool := o.pre.all fun x => s.contains x
/-- The state after an operator, on lists. -/
def aftL (n : Int) (o : Opr) (s : List Int) : List Int := ((List.range n.toNat).map fun p : Nat => (p : Int)).filter fun p => o.add.contains p || s.contains p && !o.del.contains p

theorem testBit_andN (a b i : Nat) (hi : i < 32) : (andN a b).testBit i = (a.testBit i && !b.testBit i) := by
  have : (4294967295 : Nat).testBit i = true := by
    rw [show (4294967295 : Nat) = 2 ^ 32 - 1 by decide, Nat.testBit_two_pow_sub_one]; simpa using hi
  unfold andN
  rw [Nat.testBit_and, Nat.testBit_xor, this]; simp

theorem andN_lt {a b m : Nat} (h : a < 2 ^ m) : andN a b < 2 ^ m := Nat.lt_of_le_of_lt Nat.and_le_left h

theorem mem_aftL {n : Int} {o : Opr} {s : List Int} {x : Int} : x ∈ aftL n o s ↔ (0 ≤ x ∧ x < n) ∧ (x ∈ o.add ∨ x ∈ s ∧ x ∉ o.del) := by
  unfold aftL
  simp only [List.mem_filter, List.mem_map, List.mem_range, Bool.or_eq_true, List.contains_iff_mem, Bool.and_eq_true, Bool.not_eq_true']
  constructor
  · rintro ⟨⟨p, hp, rfl⟩, h⟩
    refine ⟨by omega, h.imp id (fun h => ⟨h.1, by simpa using h.2⟩)⟩
  · rintro ⟨h1, h⟩
    exact ⟨⟨x.toNat, by omega, by omega⟩, h.imp id (fun h => ⟨h.1, by simpa using h.2⟩)⟩

theorem isSet_aftL (n : Int) (o : Opr) (s : List Int) : isSetB (aftL n o s) n = true := by
  refine isSet_iff.2 ⟨fun x hx => (mem_aftL.1 hx).1, ?_⟩
  unfold aftL
  refine List.Pairwise.sublist List.filter_sublist ?_
  rw [List.pairwise_map]
  exact List.Pairwise.imp (fun h => by omega) (List.pairwise_lt_range (n := n.toNat))

theorem appL_word {n : Int} {o : Opr} {s : List Int} (ho : o.Ok n) (hs : isSetB s n = true) : appL o s = o.word.can (wd s) := by
  have hp := (isSet_iff.1 ho.pre).1
  have hs' := (isSet_iff.1 hs).1
  rw [Bool.eq_iff_iff]
  unfold appL Wop.can Opr.word
  simp only [List.all_eq_true, List.contains_iff_mem, beq_iff_eq]
  constructor
  · intro h
    apply Nat.eq_of_testBit_eq
    intro i
    rw [Nat.testBit_and, testBit_wd (fun x hx => (hp x hx).1), testBit_wd (fun x hx => (hs' x hx).1)]
    by_cases hi : (i : Int) ∈ o.pre
    · simp [hi, h _ hi]
    · simp [hi]
  · intro h x hx
    have h1 := congrArg (fun w => w.testBit x.toNat) h
    have e : ((x.toNat : Nat) : Int) = x := by have := (hp x hx).1; omega
    simp only [Nat.testBit_and] at h1
    rw [testBit_wd (fun x hx => (hp x hx).1), testBit_wd (fun x hx => (hs' x hx).1), e] at h1
    simpa [hx] using h1

theorem wd_aftL {n : Int} {o : Opr} {s : List Int} (hn : n ≤ 32) (ho : o.Ok n) (hs : isSetB s n = true) : wd (aftL n o s) = o.word.next (wd s) := by
  have ha := (isSet_iff.1 ho.add).1
  have hd := (isSet_iff.1 ho.del).1
  have hs' := (isSet_iff.1 hs).1
  apply Nat.eq_of_testBit_eq
  intro i
  unfold Wop.next Opr.word
  rw [Nat.testBit_or, testBit_wd (fun x hx => (mem_aftL.1 hx).1.1), testBit_wd (fun x hx => (ha x hx).1)]
  by_cases hi : i < 32
  · rw [testBit_andN _ _ _ hi, testBit_wd (fun x hx => (hs' x hx).1), testBit_wd (fun x hx => (hd x hx).1)]
    rw [Bool.eq_iff_iff]
    simp only [decide_eq_true_eq, Bool.or_eq_true, Bool.and_eq_true, Bool.not_eq_true', decide_eq_false_iff_not, mem_aftL]
    constructor
    · rintro ⟨_, h | h⟩
      · exact .inr h
      · exact .inl h
    · rintro (h | h)
      · exact ⟨hs' _ h.1, .inr h⟩
      · exact ⟨ha _ h, .inl h⟩
  · have h1 : (andN (wd s) (wd o.del)).testBit i = false := by
      have hlt : wd s < 2 ^ 32 := wd_lt (n := 32) (fun x hx => ⟨(hs' x hx).1, by have := (hs' x hx).2; omega⟩)
      rw [Nat.testBit_lt_two_pow (Nat.lt_of_lt_of_le (andN_lt hlt) (Nat.pow_le_pow_right (by decide) (by omega)))]
    rw [h1]
    have h2 : (i : Int) ∉ aftL n o s := fun h => by have := (mem_aftL.1 h).1.2; omega
    have h3 : (i : Int) ∉ o.add := fun h => by have := (ha _ h).2; omega
    simp [h2, h3]

end Go.Proofs.Ytcfcmmajlkkabaa

/- The reachable words of a task: by the reference's loop, and by a search with a stack. Nothing here speaks of one program. -/
namespace Go.Proofs.Ytcfcmmajlkkabaa

/-- The words behind one step, in the order of the operators. -/
def nexts (ops : List Wop) (x : Nat) : List Nat := (ops.filter fun o => o.can x).map fun o => o.next x

inductive Reach (ops : List Wop) (s : Nat) : Nat → Prop
  | refl : Reach ops s s
  | step {x y : Nat} : Reach ops s x → y ∈ nexts ops x → Reach ops s y

/-- Those of xs that are not in seen, each once, in their order. -/
def freshs : List Nat → List Nat → List Nat
  | _, [] => []
  | seen, x :: r => if x ∈ seen then freshs seen r else x :: freshs (seen ++ [x]) r

theorem freshs_snoc (xs : List Nat) (x : Nat) : ∀ seen, freshs seen (xs ++ [x]) = freshs seen xs ++ (if x ∈ seen ++ freshs seen xs then [] else [x]) := by
  induction xs with
  | nil =>
    intro seen
    rw [List.nil_append, freshs]
    by_cases h : x ∈ seen <;> simp [h, freshs]
  | cons y r ih =>
    intro seen
    rw [List.cons_append, freshs, freshs]
    by_cases h : y ∈ seen
    · rw [if_pos h, if_pos h, ih]
    · rw [if_neg h, if_neg h, ih]
      simp only [List.append_assoc, List.cons_append, List.nil_append]

theorem mem_freshs {xs : List Nat} {y : Nat} : ∀ {seen}, y ∈ seen ++ freshs seen xs ↔ y ∈ seen ∨ y ∈ xs := by
  induction xs with
  | nil => intro seen; simp [freshs]
  | cons x r ih =>
    intro seen
    rw [freshs]
    by_cases h : x ∈ seen
    · rw [if_pos h, ih]
      constructor
      · rintro (h1 | h1)
        · exact .inl h1
        · exact .inr (by simp [h1])
      · rintro (h1 | h1)
        · exact .inl h1
        · rcases List.mem_cons.1 h1 with rfl | h1
          · exact .inl h
          · exact .inr h1
    · rw [if_neg h]
      have := ih (seen := seen ++ [x])
      rw [List.append_assoc, List.singleton_append] at this
      rw [this]
      simp [or_assoc]

theorem nodup_freshs {xs : List Nat} : ∀ {seen : List Nat}, seen.Nodup → (seen ++ freshs seen xs).Nodup := by
  induction xs with
  | nil => intro seen h; simpa [freshs] using h
  | cons x r ih =>
    intro seen h
    rw [freshs]
    by_cases hx : x ∈ seen
    · rw [if_pos hx]; exact ih h
    · rw [if_neg hx]
      have h1 : (seen ++ [x]).Nodup := by
        rw [List.nodup_append]
        refine ⟨h, by simp, fun a ha b hb => ?_⟩
        simp at hb; subst hb
        intro e; subst e; exact hx ha
      have := ih h1
      rwa [List.append_assoc, List.singleton_append] at this

theorem freshs_le {xs seen : List Nat} : (freshs seen xs).length ≤ xs.length := by
  induction xs generalizing seen with
  | nil => simp [freshs]
  | cons x r ih =>
    rw [freshs]
    split
    · have := ih (seen := seen); simp only [List.length_cons]; omega
    · have := ih (seen := seen ++ [x]); simp only [List.length_cons]; omega

/-! ### the reference's loop -/
/-- The list behind i rounds, or none where it would pass 2000. -/
def bfs (ops : List Wop) (s : Nat) : Nat → Option (List Nat)
  | 0 => some [s]
  | i + 1 => match bfs ops s i with
    | none => none
    | some l => match l[i]? with
      | none => some l
      | some x => if (l ++ freshs l (nexts ops x)).length ≤ 2000 then some (l ++ freshs l (nexts ops x)) else none

def reached (ops : List Wop) (s : Nat) : Option (List Nat) := bfs ops s 2001

theorem bfs_none {ops : List Wop} {s i : Nat} (h : bfs ops s i = none) : ∀ k, bfs ops s (i + k) = none := by
  intro k
  induction k with
  | zero => exact h
  | succ k ih => rw [← Nat.add_assoc, bfs, ih]

theorem bfs_end {ops : List Wop} {s i : Nat} {l : List Nat} (h : bfs ops s i = some l) (hi : l.length ≤ i) : ∀ k, bfs ops s (i + k) = some l := by
  intro k
  induction k with
  | zero => exact h
  | succ k ih =>
    rw [← Nat.add_assoc, bfs, ih]
    simp only
    rw [List.getElem?_eq_none (by omega)]

theorem bfs_step {ops : List Wop} {s i x : Nat} {l : List Nat} (h : bfs ops s i = some l) (hx : l[i]? = some x) :
    bfs ops s (i + 1) = if (l ++ freshs l (nexts ops x)).length ≤ 2000 then some (l ++ freshs l (nexts ops x)) else none := by
  rw [bfs, h]; simp only; rw [hx]

structure BfsOk (ops : List Wop) (s i : Nat) (l : List Nat) : Prop where
  nodup : l.Nodup
  head : l[0]? = some s
  few : l.length ≤ 2000
  reach : ∀ x ∈ l, Reach ops s x
  closed : ∀ j x, j < i → l[j]? = some x → ∀ y ∈ nexts ops x, y ∈ l

theorem bfs_ok {ops : List Wop} {s : Nat} : ∀ {i : Nat} {l : List Nat}, bfs ops s i = some l → BfsOk ops s i l
  | 0, l, h => by
    cases h
    exact ⟨by simp, rfl, by simp, fun x hx => by simp at hx; subst hx; exact .refl, fun j x hj => by omega⟩
  | i + 1, l, h => by
    rw [bfs] at h
    cases hb : bfs ops s i with
    | none => rw [hb] at h; cases h
    | some l0 =>
      rw [hb] at h; simp only at h
      have ok := bfs_ok hb
      cases hx : l0[i]? with
      | none =>
        rw [hx] at h; cases h
        refine ⟨ok.nodup, ok.head, ok.few, ok.reach, fun j x hj hl => ?_⟩
        have h1 := (List.getElem?_eq_some_iff.1 hl).1
        have h2 := List.getElem?_eq_none_iff.1 hx
        exact ok.closed j x (by omega) hl
      | some x =>
        rw [hx] at h; simp only at h
        split at h
        · rename_i hle
          cases h
          have hxm : x ∈ l0 := List.mem_of_getElem? hx
          refine ⟨nodup_freshs ok.nodup, ?_, hle, fun y hy => ?_, fun j y hj hl z hz => ?_⟩
          · rw [List.getElem?_append_left (by have := (List.getElem?_eq_some_iff.1 ok.head).1; omega)]; exact ok.head
          · rcases mem_freshs.1 hy with hy | hy
            · exact ok.reach y hy
            · exact .step (ok.reach x hxm) hy
          · have hil : i < l0.length := (List.getElem?_eq_some_iff.1 hx).1
            rw [List.getElem?_append_left (by omega)] at hl
            by_cases hji : j = i
            · subst hji
              rw [hx] at hl; cases hl
              exact mem_freshs.2 (.inr hz)
            · exact mem_freshs.2 (.inl (ok.closed j y (by omega) hl z hz))
        · cases h

theorem reached_some {ops : List Wop} {s : Nat} {l : List Nat} (h : reached ops s = some l) : l.Nodup ∧ l.length ≤ 2000 ∧ l[0]? = some s ∧ ∀ x, x ∈ l ↔ Reach ops s x := by
  have ok := bfs_ok h
  refine ⟨ok.nodup, ok.few, ok.head, fun x => ⟨ok.reach x, fun hr => ?_⟩⟩
  induction hr with
  | refl => exact List.mem_of_getElem? ok.head
  | step _ hy ih =>
    obtain ⟨j, hj⟩ := List.mem_iff_getElem?.1 ih
    have hlt := (List.getElem?_eq_some_iff.1 hj).1
    exact ok.closed j _ (by have := ok.few; omega) hj _ hy

theorem reached_of_end {ops : List Wop} {s i : Nat} {l : List Nat} (h : bfs ops s i = some l) (hi : i = l.length) : reached ops s = some l := by
  have hf := (bfs_ok h).few
  have := bfs_end h (by omega) (2001 - i)
  unfold reached
  rwa [show i + (2001 - i) = 2001 by omega] at this

theorem reached_of_none {ops : List Wop} {s i : Nat} (h : bfs ops s i = none) (hi : i ≤ 2001) : reached ops s = none := by
  have := bfs_none h (2001 - i)
  unfold reached
  rwa [show i + (2001 - i) = 2001 by omega] at this

theorem bfs_none_many {ops : List Wop} {s : Nat} : ∀ {i : Nat}, bfs ops s i = none → ∃ l : List Nat, l.Nodup ∧ 2000 < l.length ∧ ∀ x ∈ l, Reach ops s x
  | 0, h => by cases h
  | i + 1, h => by
    rw [bfs] at h
    cases hb : bfs ops s i with
    | none => exact bfs_none_many hb
    | some l0 =>
      rw [hb] at h; simp only at h
      have ok := bfs_ok hb
      cases hx : l0[i]? with
      | none => rw [hx] at h; cases h
      | some x =>
        rw [hx] at h; simp only at h
        split at h
        · cases h
        · rename_i hle
          refine ⟨_, nodup_freshs (xs := nexts ops x) ok.nodup, by omega, fun y hy => ?_⟩
          rcases mem_freshs.1 hy with hy | hy
          · exact ok.reach y hy
          · exact .step (ok.reach x (List.mem_of_getElem? hx)) hy

theorem nodup_sub_length : ∀ {a b : List Nat}, a.Nodup → (∀ x ∈ a, x ∈ b) → a.length ≤ b.length
  | [], _, _, _ => Nat.zero_le _
  | x :: r, b, ha, h => by
    rw [List.nodup_cons] at ha
    have hx := h x (by simp)
    have := nodup_sub_length (b := b.erase x) ha.2 (fun y hy => (List.mem_erase_of_ne (by rintro rfl; exact ha.1 hy)).2 (h y (by simp [hy])))
    have hl := List.length_erase_of_mem hx
    have : 0 < b.length := List.length_pos_of_mem hx
    simp only [List.length_cons]; omega

theorem reached_none {ops : List Wop} {s : Nat} (h : reached ops s = none) {l : List Nat} (hl : ∀ x, Reach ops s x → x ∈ l) : 2000 < l.length := by
  obtain ⟨m, h1, h2, h3⟩ := bfs_none_many h
  have := nodup_sub_length h1 (fun x hx => hl x (h3 x hx))
  omega

/-! ### a search with a stack -/
structure Dfs (ops : List Wop) (s : Nat) (stack seen out : List Nat) : Prop where
  nodup : seen.Nodup
  perm : seen.Perm (out ++ stack)
  head : s ∈ seen
  reach : ∀ x ∈ seen, Reach ops s x
  closed : ∀ x ∈ out, ∀ y ∈ nexts ops x, y ∈ seen

theorem Dfs.start (ops : List Wop) (s : Nat) : Dfs ops s [s] [s] [] :=
  ⟨by simp, by simp, by simp, fun x hx => by simp at hx; subst hx; exact .refl, fun x hx => by cases hx⟩

theorem Dfs.step {ops : List Wop} {s x : Nat} {stack seen out : List Nat} (h : Dfs ops s (stack ++ [x]) seen out) :
    Dfs ops s (stack ++ freshs seen (nexts ops x)) (seen ++ freshs seen (nexts ops x)) (out ++ [x]) := by
  have hx : x ∈ seen := h.perm.mem_iff.2 (by simp)
  refine ⟨nodup_freshs h.nodup, ?_, by simp [h.head], fun y hy => ?_, fun y hy z hz => ?_⟩
  · have h1 : (out ++ (stack ++ [x])).Perm (out ++ [x] ++ stack) := by
      rw [List.append_assoc]
      exact List.Perm.append_left _ List.perm_append_comm
    have := (h.perm.trans h1).append_right (freshs seen (nexts ops x))
    rwa [List.append_assoc] at this
  · rcases mem_freshs.1 hy with hy | hy
    · exact h.reach y hy
    · exact .step (h.reach x hx) hy
  · rcases List.mem_append.1 hy with hy | hy
    · exact mem_freshs.2 (.inl (h.closed y hy z hz))
    · simp at hy; subst hy
      exact mem_freshs.2 (.inr hz)

theorem Dfs.done {ops : List Wop} {s : Nat} {seen out : List Nat} (h : Dfs ops s [] seen out) : out.Nodup ∧ (∀ x, x ∈ out ↔ Reach ops s x) ∧ seen.length = out.length := by
  have hp : seen.Perm out := by simpa using h.perm
  refine ⟨hp.nodup_iff.1 h.nodup, fun x => ⟨fun hx => h.reach x (hp.mem_iff.2 hx), fun hr => ?_⟩, hp.length_eq⟩
  induction hr with
  | refl => exact hp.mem_iff.1 h.head
  | step _ hy ih => exact hp.mem_iff.1 (h.closed _ ih _ hy)

theorem Dfs.many {ops : List Wop} {s : Nat} {stack seen out : List Nat} (h : Dfs ops s stack seen out) (hm : 2000 < seen.length) : reached ops s = none := by
  cases hr : reached ops s with
  | none => rfl
  | some l =>
    obtain ⟨_, h2, _, h3⟩ := reached_some hr
    have := nodup_sub_length h.nodup (fun x hx => (h3 x).2 (h.reach x hx))
    omega

theorem Dfs.found {ops : List Wop} {s : Nat} {seen out : List Nat} (h : Dfs ops s [] seen out) (hf : seen.length ≤ 2000) : ∃ l, reached ops s = some l ∧ out.Perm l := by
  obtain ⟨h1, h2, h3⟩ := h.done
  cases hr : reached ops s with
  | none =>
    have := reached_none hr (fun x hx => (h2 x).2 hx)
    omega
  | some l =>
    obtain ⟨k1, _, _, k3⟩ := reached_some hr
    exact ⟨l, rfl, (List.perm_ext_iff_of_nodup h1 k1).2 fun x => (h2 x).trans (k3 x).symm⟩

end Go.Proofs.Ytcfcmmajlkkabaa

/- The plain law of novelty: what is covered, what is fresh. Nothing here speaks of one program. -/
namespace Go.Proofs.Ytcfcmmajlkkabaa

/-- Whether each set of facts of s that holds those of ch and at most n further ones occurs in a state of seen. -/
def covN (s : Nat) (seen : List Nat) : Nat → Nat → Bool
  | 0, ch => (seen.find? fun x => andN s x &&& ch == 0).isSome
  | n + 1, ch => match seen.find? fun x => andN s x &&& ch == 0 with
    | none => false
    | some x => (facts (andN s x)).all fun p => covN s seen n (ch ||| 2 ^ p.toNat)

def occurs (ls : List (List Int)) (ch : List Int) : Bool := ls.any fun l => ch.all fun x => l.contains x
def after (ch : List Int) (y : Int) : Bool := match ch.getLast? with
  | none => true
  | some z => decide (z < y)
def freshL (ls : List (List Int)) (s : List Int) : Nat → List Int → Bool
  | 0, ch => !occurs ls ch
  | n + 1, ch => !occurs ls ch || s.any fun y => after ch y && freshL ls s n (ch ++ [y])

theorem occurs_iff {ls : List (List Int)} {ch : List Int} : occurs ls ch = true ↔ ∃ l ∈ ls, ∀ y ∈ ch, y ∈ l := by
  unfold occurs; simp

theorem freshL_iff {ls : List (List Int)} {s : List Int} (hs : s.Pairwise (· < ·)) : ∀ (n : Nat) (ch : List Int), ch.Pairwise (· < ·) →
    (freshL ls s n ch = true ↔ ∃ F : List Int, (∀ y ∈ F, y ∈ s) ∧ (ch ++ F).Pairwise (· < ·) ∧ F.length ≤ n ∧ ∀ l ∈ ls, ¬ ∀ y ∈ ch ++ F, y ∈ l)
  | 0, ch, hch => by
    unfold freshL
    constructor
    · intro h
      refine ⟨[], by simp, by simpa using hch, by simp, fun l hl hy => ?_⟩
      have : occurs ls ch = true := occurs_iff.2 ⟨l, hl, by simpa using hy⟩
      rw [this] at h; cases h
    · rintro ⟨F, h1, h2, h3, h4⟩
      have hF : F = [] := List.length_eq_zero_iff.1 (by omega)
      subst hF
      cases ho : occurs ls ch with
      | false => rfl
      | true =>
        obtain ⟨l, hl, hy⟩ := occurs_iff.1 ho
        exact absurd (by simpa using hy) (h4 l hl)
  | n + 1, ch, hch => by
    unfold freshL
    rw [Bool.or_eq_true, List.any_eq_true]
    constructor
    · rintro (h | ⟨y, hy, h⟩)
      · refine ⟨[], by simp, by simpa using hch, by simp, fun l hl hy => ?_⟩
        have : occurs ls ch = true := occurs_iff.2 ⟨l, hl, by simpa using hy⟩
        rw [this] at h; cases h
      · rw [Bool.and_eq_true] at h
        have hch2 : (ch ++ [y]).Pairwise (· < ·) := by
          rw [List.pairwise_append]
          refine ⟨hch, by simp, fun a ha b hb => ?_⟩
          simp at hb; subst hb
          have h1 := h.1
          unfold after at h1
          cases hl : ch.getLast? with
          | none => rw [List.getLast?_eq_none_iff] at hl; subst hl; cases ha
          | some z =>
            rw [hl] at h1; simp only [decide_eq_true_eq] at h1
            obtain ⟨r, rfl⟩ := List.getLast?_eq_some_iff.1 hl
            rcases List.mem_append.1 ha with ha | ha
            · have := (List.pairwise_append.1 hch).2.2 a ha z (by simp); omega
            · simp at ha; omega
        obtain ⟨F, h1, h2, h3, h4⟩ := (freshL_iff hs n (ch ++ [y]) hch2).1 h.2
        refine ⟨y :: F, ?_, ?_, by simp only [List.length_cons]; omega, ?_⟩
        · intro z hz
          rcases List.mem_cons.1 hz with rfl | hz
          · exact hy
          · exact h1 z hz
        · rwa [List.append_assoc, List.singleton_append] at h2
        · intro l hl; have := h4 l hl; rwa [List.append_assoc, List.singleton_append] at this
    · rintro ⟨F, h1, h2, h3, h4⟩
      cases F with
      | nil =>
        left
        cases ho : occurs ls ch with
        | false => rfl
        | true =>
          obtain ⟨l, hl, hy⟩ := occurs_iff.1 ho
          exact absurd (by simpa using hy) (h4 l hl)
      | cons y F =>
        right
        refine ⟨y, h1 y (by simp), ?_⟩
        rw [Bool.and_eq_true]
        have h2' : ((ch ++ [y]) ++ F).Pairwise (· < ·) := by rw [List.append_assoc, List.singleton_append]; exact h2
        refine ⟨?_, (freshL_iff hs n (ch ++ [y]) (List.pairwise_append.1 h2').1).2 ⟨F, fun z hz => h1 z (by simp [hz]), h2', by simp only [List.length_cons] at h3; omega, fun l hl => by rw [List.append_assoc, List.singleton_append]; exact h4 l hl⟩⟩
        unfold after
        cases hl : ch.getLast? with
        | none => rfl
        | some z =>
          simp only [decide_eq_true_eq]
          exact (List.pairwise_append.1 h2).2.2 z (List.mem_of_getLast? hl) y (by simp)

theorem and_zero {a b : Nat} : (a &&& b == 0) = true ↔ ∀ i, ¬ (a.testBit i = true ∧ b.testBit i = true) := by
  rw [beq_iff_eq]
  constructor
  · intro h i hi
    have : (a &&& b).testBit i = true := by rw [Nat.testBit_and, hi.1, hi.2]; rfl
    rw [h] at this; simp at this
  · intro h
    apply Nat.eq_of_testBit_eq
    intro i
    rw [Nat.testBit_and, Nat.zero_testBit]
    cases h1 : a.testBit i <;> cases h2 : b.testBit i <;> simp
    exact h i ⟨h1, h2⟩

/-- The facts of ch (a word below s) lie in x. -/
def under (ch x : Nat) : Prop := ∀ i, ch.testBit i = true → x.testBit i = true

theorem lacks_iff {s x ch : Nat} (hs : s < 2 ^ 32) (hch : under ch s) : (andN s x &&& ch == 0) = true ↔ under ch x := by
  rw [and_zero]
  have small : ∀ i, s.testBit i = true → i < 32 := fun i hi => Nat.lt_of_not_le fun hle => by
    rw [Nat.testBit_lt_two_pow (Nat.lt_of_lt_of_le hs (Nat.pow_le_pow_right (by decide) hle))] at hi; cases hi
  constructor
  · intro h i hi
    have hsi := hch i hi
    cases hx : x.testBit i with
    | true => rfl
    | false => exact absurd ⟨by rw [testBit_andN _ _ _ (small i hsi), hsi, hx]; rfl, hi⟩ (h i)
  · rintro h i ⟨h1, h2⟩
    rw [testBit_andN _ _ _ (small i (hch i h2)), h i h2] at h1
    simp at h1

theorem under_or {ch x : Nat} {p : Nat} : under (ch ||| 2 ^ p) x ↔ under ch x ∧ x.testBit p = true := by
  unfold under
  simp only [Nat.testBit_or, Bool.or_eq_true, Nat.testBit_two_pow, decide_eq_true_eq]
  constructor
  · intro h; exact ⟨fun i hi => h i (.inl hi), h p (.inr rfl)⟩
  · rintro ⟨h1, h2⟩ i (hi | rfl)
    · exact h1 i hi
    · exact h2

theorem covN_iff {s : Nat} (hs : s < 2 ^ 32) {seen : List Nat} : ∀ (n ch : Nat), under ch s →
    (covN s seen n ch = true ↔ ∀ F : List Nat, (∀ p ∈ F, s.testBit p = true) → F.length ≤ n → ∃ x ∈ seen, under ch x ∧ ∀ p ∈ F, x.testBit p = true)
  | 0, ch, hch => by
    unfold covN
    rw [List.find?_isSome]
    constructor
    · rintro ⟨x, hx, h⟩ F _ hl
      have : F = [] := List.length_eq_zero_iff.1 (by omega)
      subst this
      exact ⟨x, hx, (lacks_iff hs hch).1 h, by simp⟩
    · intro h
      obtain ⟨x, hx, h1, _⟩ := h [] (by simp) (by simp)
      exact ⟨x, hx, (lacks_iff hs hch).2 h1⟩
  | n + 1, ch, hch => by
    unfold covN
    have small : ∀ i, s.testBit i = true → i < 32 := fun i hi => Nat.lt_of_not_le fun hle => by
      rw [Nat.testBit_lt_two_pow (Nat.lt_of_lt_of_le hs (Nat.pow_le_pow_right (by decide) hle))] at hi; cases hi
    have up : ∀ p, s.testBit p = true → under (ch ||| 2 ^ p) s := fun p hp => under_or.2 ⟨hch, hp⟩
    cases hf : seen.find? fun x => andN s x &&& ch == 0 with
    | none =>
      simp only [Bool.false_eq_true, false_iff]
      intro h
      obtain ⟨x, hx, h1, _⟩ := h [] (by simp) (by simp)
      rw [List.find?_eq_none] at hf
      exact hf x hx ((lacks_iff hs hch).2 h1)
    | some x =>
      have hx := List.mem_of_find?_eq_some hf
      have hc := (lacks_iff hs hch).1 (by simpa using List.find?_some hf)
      simp only [List.all_eq_true]
      constructor
      · intro h F hF hl
        by_cases hall : ∀ p ∈ F, x.testBit p = true
        · exact ⟨x, hx, hc, hall⟩
        · obtain ⟨p, hp, hpx⟩ : ∃ p, p ∈ F ∧ x.testBit p = false := by
            refine Classical.byContradiction fun hne => hall fun p hp => ?_
            cases hb : x.testBit p with
            | true => rfl
            | false => exact absurd ⟨p, hp, hb⟩ hne
          have hps := hF p hp
          have hm : ((p : Nat) : Int) ∈ facts (andN s x) := mem_facts.2 ⟨p, rfl, small p hps, by rw [testBit_andN _ _ _ (small p hps), hps, hpx]; rfl⟩
          have h1 := h _ hm
          rw [Int.toNat_natCast] at h1
          obtain ⟨z, hz, h2, h3⟩ := (covN_iff hs n _ (up p hps)).1 h1 (F.erase p) (fun q hq => hF q (List.mem_of_mem_erase hq)) (by rw [List.length_erase_of_mem hp]; omega)
          obtain ⟨h4, h5⟩ := under_or.1 h2
          refine ⟨z, hz, h4, fun q hq => ?_⟩
          by_cases hqp : q = p
          · rw [hqp]; exact h5
          · exact h3 q ((List.mem_erase_of_ne hqp).2 hq)
      · intro h y hy
        obtain ⟨p, rfl, hp32, hpb⟩ := mem_facts.1 hy
        rw [Int.toNat_natCast]
        rw [testBit_andN _ _ _ hp32, Bool.and_eq_true] at hpb
        refine (covN_iff hs n _ (up p hpb.1)).2 fun F hF hl => ?_
        obtain ⟨z, hz, h1, h2⟩ := h (p :: F) (fun q hq => by
          rcases List.mem_cons.1 hq with rfl | hq
          · exact hpb.1
          · exact hF q hq) (by simp only [List.length_cons]; omega)
        exact ⟨z, hz, under_or.2 ⟨h1, h2 p (by simp)⟩, fun q hq => h2 q (by simp [hq])⟩

theorem fresh_cov {ls : List (List Int)} {s : List Int} (hs : isSetB s 32 = true) (hls : ∀ l ∈ ls, isSetB l 32 = true) (n : Nat) : freshL ls s n [] = !covN (wd s) (ls.map wd) n 0 := by
  obtain ⟨hr, hp⟩ := isSet_iff.1 hs
  have h0 : ∀ x ∈ s, 0 ≤ x := fun x hx => (hr x hx).1
  have hlt : wd s < 2 ^ 32 := wd_lt (n := 32) hr
  have key : (covN (wd s) (ls.map wd) n 0 = true ↔ ¬ freshL ls s n [] = true) := by
    rw [covN_iff hlt n 0 (fun i hi => by simp at hi), freshL_iff hp n [] List.Pairwise.nil]
    constructor
    · rintro h ⟨F, h1, h2, h3, h4⟩
      obtain ⟨x, hx, _, h5⟩ := h (F.map Int.toNat) (fun p hp => by
        obtain ⟨y, hy, rfl⟩ := List.mem_map.1 hp
        rw [testBit_wd h0, decide_eq_true_eq, Int.toNat_of_nonneg (h0 y (h1 y hy))]
        exact h1 y hy) (by rw [List.length_map]; exact h3)
      obtain ⟨l, hl, rfl⟩ := List.mem_map.1 hx
      refine h4 l hl fun y hy => ?_
      rw [List.nil_append] at hy
      have := h5 y.toNat (List.mem_map.2 ⟨y, hy, rfl⟩)
      rw [testBit_wd (fun x hx => ((isSet_iff.1 (hls l hl)).1 x hx).1), decide_eq_true_eq, Int.toNat_of_nonneg (h0 y (h1 y hy))] at this
      exact this
    · intro h F hF hl
      refine Classical.byContradiction fun hne => h ?_
      refine ⟨s.filter fun y => decide (y.toNat ∈ F), fun y hy => (List.mem_filter.1 hy).1, by rw [List.nil_append]; exact List.Pairwise.sublist List.filter_sublist hp, ?_, fun l hl2 hall => hne ⟨wd l, List.mem_map.2 ⟨l, hl2, rfl⟩, fun i hi => by simp at hi, fun p hp2 => ?_⟩⟩
      · have hnd : ((s.filter fun y => decide (y.toNat ∈ F)).map Int.toNat).Nodup := by
          rw [List.Nodup, List.pairwise_map]
          refine List.Pairwise.imp_of_mem ?_ (List.Pairwise.sublist List.filter_sublist hp)
          intro a b ha hb hab
          have := h0 a (List.mem_filter.1 ha).1; have := h0 b (List.mem_filter.1 hb).1; omega
        have hsub : ∀ p ∈ (s.filter fun y => decide (y.toNat ∈ F)).map Int.toNat, p ∈ F := by
          intro p hp2
          obtain ⟨y, hy, rfl⟩ := List.mem_map.1 hp2
          simpa using (List.mem_filter.1 hy).2
        have hlen : ∀ {a b : List Nat}, a.Nodup → (∀ x ∈ a, x ∈ b) → a.length ≤ b.length := by
          intro a
          induction a with
          | nil => intros; exact Nat.zero_le _
          | cons x r ih =>
            intro b ha hb
            rw [List.nodup_cons] at ha
            have hx := hb x (by simp)
            have := ih (b := b.erase x) ha.2 (fun y hy => (List.mem_erase_of_ne (by rintro rfl; exact ha.1 hy)).2 (hb y (by simp [hy])))
            rw [List.length_erase_of_mem hx] at this
            have : 0 < b.length := List.length_pos_of_mem hx
            simp only [List.length_cons]; omega
        have := hlen hnd hsub
        rw [List.length_map] at this
        omega
      · have hps := hF p hp2
        rw [testBit_wd h0, decide_eq_true_eq] at hps
        rw [testBit_wd (fun x hx => ((isSet_iff.1 (hls l hl2)).1 x hx).1), decide_eq_true_eq]
        exact hall (p : Int) (by rw [List.nil_append]; exact List.mem_filter.2 ⟨hps, by simpa using hp2⟩)
  cases h1 : freshL ls s n [] <;> cases h2 : covN (wd s) (ls.map wd) n 0 <;> simp_all

end Go.Proofs.Ytcfcmmajlkkabaa
