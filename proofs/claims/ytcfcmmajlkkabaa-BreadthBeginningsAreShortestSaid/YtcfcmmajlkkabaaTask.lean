/- Tasks, sets of facts as lists and as words, the fault of a task. Nothing here speaks of one program. -/
import Derived.WalkKit
namespace Go.Proofs.Ytcfcmmajlkkabaa

structure Opr where
  pre : List Int
  add : List Int
  del : List Int
  cost : Int

structure Tsk where
  n : Int
  init : List Int
  goal : List Int
  ops : List Opr

/-! ### sets -/
/-- A strictly increasing list of numbers from lo to n - 1. -/
def setFrom (n : Int) : Int → List Int → Bool
  | _, [] => true
  | lo, x :: r => decide (lo ≤ x) && decide (x < n) && setFrom n (x + 1) r
def isSetB (l : List Int) (n : Int) : Bool := setFrom n 0 l
def disjB (a b : List Int) : Bool := a.all fun x => !b.contains x

theorem setFrom_iff {n : Int} {l : List Int} : ∀ {lo : Int}, setFrom n lo l = true ↔ (∀ x ∈ l, lo ≤ x ∧ x < n) ∧ l.Pairwise (· < ·) := by
  induction l with
  | nil => intro lo; simp [setFrom]
  | cons y r ih =>
    intro lo
    simp only [setFrom, Bool.and_eq_true, decide_eq_true_eq, ih, List.mem_cons, forall_eq_or_imp, List.pairwise_cons]
    constructor
    · rintro ⟨⟨h1, h2⟩, h3, h4⟩
      exact ⟨⟨⟨h1, h2⟩, fun x hx => ⟨by have := (h3 x hx).1; omega, (h3 x hx).2⟩⟩, fun x hx => by have := (h3 x hx).1; omega, h4⟩
    · rintro ⟨⟨⟨h1, h2⟩, h3⟩, h4, h5⟩
      exact ⟨⟨h1, h2⟩, fun x hx => ⟨by have := h4 x hx; omega, (h3 x hx).2⟩, h5⟩

theorem isSet_iff {n : Int} {l : List Int} : isSetB l n = true ↔ (∀ x ∈ l, 0 ≤ x ∧ x < n) ∧ l.Pairwise (· < ·) := setFrom_iff

theorem disj_iff {a b : List Int} : disjB a b = true ↔ ∀ x ∈ a, x ∉ b := by simp [disjB]

/-! ### the fault of a task -/
def opCode (o : Opr) (n : Int) : Int :=
  if (isSetB o.pre n && isSetB o.add n && isSetB o.del n && disjB o.add o.del) = true then (if 0 ≤ o.cost ∧ o.cost ≤ 100 then 0 else 3) else 5
def opsFault (n : Int) : Int → List Opr → Int × Int
  | _, [] => (0, 0)
  | i, o :: r => if opCode o n = 0 then opsFault n (i + 1) r else (opCode o n, i)
def taskFault (t : Tsk) : Int × Int :=
  if ¬ (0 ≤ t.n ∧ t.n ≤ 24) then (3, -1) else
  if isSetB t.init t.n = false then (5, -2) else
  if isSetB t.goal t.n = false then (5, -3) else
  if 40 < t.ops.length then (2, -1) else opsFault t.n 0 t.ops

structure Opr.Ok (o : Opr) (n : Int) : Prop where
  pre : isSetB o.pre n = true
  add : isSetB o.add n = true
  del : isSetB o.del n = true
  disj : disjB o.add o.del = true
  cost0 : 0 ≤ o.cost
  cost1 : o.cost ≤ 100

structure Tsk.Ok (t : Tsk) : Prop where
  n0 : 0 ≤ t.n
  n1 : t.n ≤ 24
  init : isSetB t.init t.n = true
  goal : isSetB t.goal t.n = true
  few : t.ops.length ≤ 40
  ops : ∀ o ∈ t.ops, o.Ok t.n

theorem opCode_zero {o : Opr} {n : Int} : opCode o n = 0 ↔ o.Ok n := by
  unfold opCode
  constructor
  · intro h
    split at h
    · rename_i h1
      split at h
      · rename_i h2
        simp only [Bool.and_eq_true] at h1
        exact ⟨h1.1.1.1, h1.1.1.2, h1.1.2, h1.2, h2.1, h2.2⟩
      · cases h
    · cases h
  · intro h
    rw [if_pos (by simp [h.pre, h.add, h.del, h.disj]), if_pos ⟨h.cost0, h.cost1⟩]

theorem opsFault_zero {n : Int} {l : List Opr} : ∀ {i : Int}, (opsFault n i l).1 = 0 ↔ ∀ o ∈ l, o.Ok n := by
  induction l with
  | nil => intro i; simp [opsFault]
  | cons o r ih =>
    intro i
    rw [opsFault]
    by_cases h : opCode o n = 0
    · rw [if_pos h, ih]; simp [opCode_zero.1 h]
    · rw [if_neg h]
      simp only [h, false_iff, List.mem_cons, forall_eq_or_imp, not_and]
      intro h'; exact absurd (opCode_zero.2 h') h

theorem opsFault_index {n : Int} {l : List Opr} : ∀ {i : Int}, (opsFault n i l).1 = 0 → opsFault n i l = (0, 0) := by
  induction l with
  | nil => intro i _; rfl
  | cons o r ih =>
    intro i h
    rw [opsFault] at h ⊢
    split at h
    · rename_i h1; rw [if_pos h1]; exact ih h
    · rename_i h1; exact absurd h h1

theorem taskFault_zero {t : Tsk} : (taskFault t).1 = 0 ↔ t.Ok := by
  unfold taskFault
  constructor
  · intro h
    split at h
    · cases h
    · rename_i h1
      split at h
      · cases h
      · rename_i h2
        split at h
        · cases h
        · rename_i h3
          split at h
          · cases h
          · rename_i h4
            exact ⟨by omega, by omega, by simpa using h2, by simpa using h3, by omega, opsFault_zero.1 h⟩
  · intro h
    rw [if_neg (by simpa using ⟨h.n0, h.n1⟩), if_neg (by simp [h.init]), if_neg (by simp [h.goal]), if_neg (by have := h.few; omega)]
    exact opsFault_zero.2 h.ops

theorem taskFault_ok {t : Tsk} (h : t.Ok) : taskFault t = (0, 0) := by
  have h0 := taskFault_zero.2 h
  unfold taskFault at h0 ⊢
  rw [if_neg (by simpa using ⟨h.n0, h.n1⟩), if_neg (by simp [h.init]), if_neg (by simp [h.goal]), if_neg (by have := h.few; omega)] at h0 ⊢
  exact opsFault_index h0

/-! ### words -/
/-- The word of a list of facts. -/
def wd : List Int → Nat
  | [] => 0
  | p :: r => wd r ||| 2 ^ p.toNat

theorem testBit_wd {l : List Int} (h : ∀ x ∈ l, 0 ≤ x) (i : Nat) : (wd l).testBit i = decide ((i : Int) ∈ l) := by
  induction l with
  | nil => simp [wd]
  | cons p r ih =>
    rw [wd, Nat.testBit_or, ih (fun x hx => h x (by simp [hx])), Nat.testBit_two_pow]
    have hp := h p (by simp)
    by_cases e : p.toNat = i
    · have : (i : Int) = p := by omega
      simp [e, this]
    · have : (i : Int) ≠ p := by omega
      simp [e, this]

theorem wd_lt {l : List Int} {n : Nat} (h : ∀ x ∈ l, 0 ≤ x ∧ x < n) : wd l < 2 ^ n := by
  apply Nat.lt_pow_two_of_testBit
  intro i hi
  rw [testBit_wd (fun x hx => (h x hx).1)]
  simp only [decide_eq_false_iff_not]
  intro hm
  have := (h _ hm).2
  omega

/-- The facts of a word, up to the fact 31. -/
def facts (w : Nat) : List Int := ((List.range 32).filter fun p => w.testBit p).map fun p : Nat => (p : Int)

theorem mem_facts {w : Nat} {x : Int} : x ∈ facts w ↔ ∃ p : Nat, x = p ∧ p < 32 ∧ w.testBit p = true := by
  unfold facts
  simp only [List.mem_map, List.mem_filter, List.mem_range]
  constructor
  · rintro ⟨p, ⟨h1, h2⟩, rfl⟩; exact ⟨p, rfl, h1, h2⟩
  · rintro ⟨p, rfl, h1, h2⟩; exact ⟨p, ⟨h1, h2⟩, rfl⟩

theorem facts_sorted (w : Nat) : (facts w).Pairwise (· < ·) := by
  unfold facts
  rw [List.pairwise_map]
  refine List.Pairwise.imp ?_ ((List.pairwise_lt_range (n := 32)).sublist (List.filter_sublist))
  intro a b h; omega

theorem sorted_ext {a b : List Int} (ha : a.Pairwise (· < ·)) (hb : b.Pairwise (· < ·)) (h : ∀ x, x ∈ a ↔ x ∈ b) : a = b := by
  have hp : a.Perm b := (List.perm_ext_iff_of_nodup (ha.imp (fun h => by omega)) (hb.imp (fun h => by omega))).2 h
  exact hp.eq_of_pairwise (le := (· < ·)) (fun x y _ _ h1 h2 => by omega) ha hb

theorem facts_wd {l : List Int} (h : isSetB l 32 = true) : facts (wd l) = l := by
  obtain ⟨h1, h2⟩ := isSet_iff.1 h
  refine sorted_ext (facts_sorted _) h2 fun x => ?_
  rw [mem_facts]
  constructor
  · rintro ⟨p, rfl, hp, ht⟩
    rw [testBit_wd (fun x hx => (h1 x hx).1)] at ht
    simpa using ht
  · intro hx
    have := h1 x hx
    refine ⟨x.toNat, by omega, by omega, ?_⟩
    rw [testBit_wd (fun x hx => (h1 x hx).1)]
    have e : ((x.toNat : Nat) : Int) = x := by omega
    simp [e, hx]

theorem isSet_mono {l : List Int} {n m : Int} (h : isSetB l n = true) (hm : n ≤ m) : isSetB l m = true := by
  obtain ⟨h1, h2⟩ := isSet_iff.1 h
  exact isSet_iff.2 ⟨fun x hx => ⟨(h1 x hx).1, by have := (h1 x hx).2; omega⟩, h2⟩

theorem wd_facts {w : Nat} (h : w < 2 ^ 32) : wd (facts w) = w := by
  apply Nat.eq_of_testBit_eq
  intro i
  rw [testBit_wd (fun x hx => by obtain ⟨p, rfl, _⟩ := mem_facts.1 hx; omega)]
  by_cases hi : i < 32
  · cases ht : w.testBit i with
    | true => simp only [decide_eq_true_eq]; exact mem_facts.2 ⟨i, rfl, hi, ht⟩
    | false =>
      simp only [decide_eq_false_iff_not]
      intro hm
      obtain ⟨p, hp, _, h2⟩ := mem_facts.1 hm
      obtain rfl : p = i := by omega
      rw [ht] at h2; cases h2
  · rw [Nat.testBit_lt_two_pow (Nat.lt_of_lt_of_le h (Nat.pow_le_pow_right (by decide) (by omega)))]
    simp only [decide_eq_false_iff_not]
    intro hm
    obtain ⟨p, hp, h1, _⟩ := mem_facts.1 hm
    omega

theorem facts_inj {a b : Nat} (ha : a < 2 ^ 32) (hb : b < 2 ^ 32) (h : facts a = facts b) : a = b := by
  rw [← wd_facts ha, h, wd_facts hb]

theorem wd_inj {a b : List Int} (ha : isSetB a 32 = true) (hb : isSetB b 32 = true) (h : wd a = wd b) : a = b := by
  rw [← facts_wd ha, h, facts_wd hb]

/-! ### operators on words -/
structure Wop where
  pre : Nat
  add : Nat
  del : Nat
  cost : Int

def Opr.word (o : Opr) : Wop := ⟨wd o.pre, wd o.add, wd o.del, o.cost⟩
def Wop.can (o : Wop) (s : Nat) : Bool := s &&& o.pre == o.pre
def andN (a b : Nat) : Nat := a &&& (b ^^^ 4294967295)
def Wop.next (o : Wop) (s : Nat) : Nat := andN s o.del ||| o.add

/-- Applicable, on lists. -/
def appL (o : Opr) (s : List Int) : Bool := o.pre.all fun x => s.contains x
/-- The state after an operator, on lists. -/
def aftL (n : Int) (o : Opr) (s : List Int) : List Int := ((List.range n.toNat).map fun p : Nat => (p : Int)).filter fun p => o.add.contains p || s.contains p && !o.del.contains p

theorem testBit_andN (a b i : Nat) (hi : i < 32) : (andN a b).testBit i = (a.testBit i && !b.testBit i) := by
  have : (4294967295 : Nat).testBit i = true := by
    rw [show (4294967295 : Nat) = 2 ^ 32 - 1 by decide, Nat.testBit_two_pow_sub_one]; simpa using hi
  unfold andN
  rw [Nat.testBit_and, Nat.testBit_xor, this]; simp

theorem andN_lt {a b m : Nat} (h : a < 2 ^ m) : andN a b < 2 ^ m := Nat.lt_of_le_of_lt Nat.and_le_left h

theorem mem_aftL {n : Int} {o : Opr} {s : List Int} {x : Int} : x ∈ aftL n o s ↔ (0 ≤ x ∧ x < n) ∧ (x ∈ o.add ∨ x ∈ s ∧ x ∉ o.del) := by
  unfold aftL
  simp only [List.mem_filter, List.mem_map, List.mem_range, Bool.or_eq_true, List.contains_iff_mem, Bool.and_eq_true, Bool.not_eq_true']
  constructor
  · rintro ⟨⟨p, hp, rfl⟩, h⟩
    refine ⟨by omega, h.imp id (fun h => ⟨h.1, by simpa using h.2⟩)⟩
  · rintro ⟨h1, h⟩
    exact ⟨⟨x.toNat, by omega, by omega⟩, h.imp id (fun h => ⟨h.1, by simpa using h.2⟩)⟩

theorem isSet_aftL (n : Int) (o : Opr) (s : List Int) : isSetB (aftL n o s) n = true := by
  refine isSet_iff.2 ⟨fun x hx => (mem_aftL.1 hx).1, ?_⟩
  unfold aftL
  refine List.Pairwise.sublist List.filter_sublist ?_
  rw [List.pairwise_map]
  exact List.Pairwise.imp (fun h => by omega) (List.pairwise_lt_range (n := n.toNat))

theorem appL_word {n : Int} {o : Opr} {s : List Int} (ho : o.Ok n) (hs : isSetB s n = true) : appL o s = o.word.can (wd s) := by
  have hp := (isSet_iff.1 ho.pre).1
  have hs' := (isSet_iff.1 hs).1
  rw [Bool.eq_iff_iff]
  unfold appL Wop.can Opr.word
  simp only [List.all_eq_true, List.contains_iff_mem, beq_iff_eq]
  constructor
  · intro h
    apply Nat.eq_of_testBit_eq
    intro i
    rw [Nat.testBit_and, testBit_wd (fun x hx => (hp x hx).1), testBit_wd (fun x hx => (hs' x hx).1)]
    by_cases hi : (i : Int) ∈ o.pre
    · simp [hi, h _ hi]
    · simp [hi]
  · intro h x hx
    have h1 := congrArg (fun w => w.testBit x.toNat) h
    have e : ((x.toNat : Nat) : Int) = x := by have := (hp x hx).1; omega
    simp only [Nat.testBit_and] at h1
    rw [testBit_wd (fun x hx => (hp x hx).1), testBit_wd (fun x hx => (hs' x hx).1), e] at h1
    simpa [hx] using h1

theorem wd_aftL {n : Int} {o : Opr} {s : List Int} (hn : n ≤ 32) (ho : o.Ok n) (hs : isSetB s n = true) : wd (aftL n o s) = o.word.next (wd s) := by
  have ha := (isSet_iff.1 ho.add).1
  have hd := (isSet_iff.1 ho.del).1
  have hs' := (isSet_iff.1 hs).1
  apply Nat.eq_of_testBit_eq
  intro i
  unfold Wop.next Opr.word
  rw [Nat.testBit_or, testBit_wd (fun x hx => (mem_aftL.1 hx).1.1), testBit_wd (fun x hx => (ha x hx).1)]
  by_cases hi : i < 32
  · rw [testBit_andN _ _ _ hi, testBit_wd (fun x hx => (hs' x hx).1), testBit_wd (fun x hx => (hd x hx).1)]
    rw [Bool.eq_iff_iff]
    simp only [decide_eq_true_eq, Bool.or_eq_true, Bool.and_eq_true, Bool.not_eq_true', decide_eq_false_iff_not, mem_aftL]
    constructor
    · rintro ⟨_, h | h⟩
      · exact .inr h
      · exact .inl h
    · rintro (h | h)
      · exact ⟨hs' _ h.1, .inr h⟩
      · exact ⟨ha _ h, .inl h⟩
  · have h1 : (andN (wd s) (wd o.del)).testBit i = false := by
      have hlt : wd s < 2 ^ 32 := wd_lt (n := 32) (fun x hx => ⟨(hs' x hx).1, by have := (hs' x hx).2; omega⟩)
      rw [Nat.testBit_lt_two_pow (Nat.lt_of_lt_of_le (andN_lt hlt) (Nat.pow_le_pow_right (by decide) (by omega)))]
    rw [h1]
    have h2 : (i : Int) ∉ aftL n o s := fun h => by have := (mem_aftL.1 h).1.2; omega
    have h3 : (i : Int) ∉ o.add := fun h => by have := (ha _ h).2; omega
    simp [h2, h3]

end Go.Proofs.Ytcfcmmajlkkabaa
