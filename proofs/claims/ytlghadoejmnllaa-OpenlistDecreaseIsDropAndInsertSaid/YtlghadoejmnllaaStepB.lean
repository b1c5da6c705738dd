/- step: one operation of a queue. -/
import Derived.Test.YtlghadoejmnllaaStepA
namespace Go.Proofs.Ytlghadoejmnllaa
open Go.RowKit

def lookA (A : List (Int × Int)) (x : Int) : Option Int := (A.find? (fun p => p.1 == x)).map Prod.snd

theorem lookA_some {A : List (Int × Int)} {x k : Int} (h : lookA A x = some k) : (x, k) ∈ A := by
  unfold lookA at h
  obtain ⟨p, hp, rfl⟩ := Option.map_eq_some_iff.1 h
  have h1 := List.find?_some hp
  have h2 := List.mem_of_find?_eq_some hp
  simp at h1
  rw [← h1]; exact h2

theorem lookA_none {A : List (Int × Int)} {x : Int} (h : lookA A x = none) : ∀ p ∈ A, p.1 ≠ x := by
  unfold lookA at h
  simp at h
  intro p hp e
  exact h p.1 p.2 hp e

theorem key_any (w : World) (Q : Nat) (A : List (Int × Int)) (t : Int) (F : Nat → Prop) (h : QRep w Q A t F) (x : Int) :
    Calls Try.prog 34 #[.pointer (some ⟨Q, 0, none⟩), .int .i64 x] w fun e w' => e = .returned (.tuple #[.int .i64 ((lookA A x).getD 0), .bool (lookA A x).isSome]) ∧ w = w' := by
  cases hl : lookA A x with
  | none => exact key_miss w Q A t F h x (lookA_none hl)
  | some k => exact key_hit w Q A t F h x k (lookA_some hl)

/-- One operation: the code, what it takes, what the queue holds behind it. -/
def stepR (A : List (Int × Int)) (k i y : Int) : Int × Int × List (Int × Int) :=
  if formC k i y ≠ 0 then (formC k i y, 0, A)
  else if k = 1 then (match lookA A i with | none => (0, 0, setA A i y) | some _ => (7, 0, A))
  else if k = 2 then (match lookA A i with | none => (6, 0, A) | some k0 => if k0 ≤ y then (11, 0, A) else (0, 0, setA A i y))
  else if k = 3 then (match firstMin A with | none => (11, 0, A) | some p => (0, p.1, A.filter (fun q => q.1 != p.1)))
  else (match lookA A i with | none => (6, 0, A) | some _ => (0, 0, A.filter (fun q => q.1 != i)))

structure StepPost (w : World) (Q : Nat) (A' : List (Int × Int)) (t : Int) (F : Nat → Prop) (w' : World) : Prop where
  rep : ∃ t', t ≤ t' ∧ t' ≤ t + 1 ∧ QRep w' Q A' t' (fun b => F b ∨ w.heap.size ≤ b)
  keeps : Keeps F w w'

theorem ret_ii {a b c d : Int} (h : a = c) (k : b = d) : Ending.returned (.tuple #[.int .i64 a, .int .i64 b]) = .returned (.tuple #[.int .i64 c, .int .i64 d]) := by rw [h, k]

theorem StepPost.same {w w' : World} {Q : Nat} {A : List (Int × Int)} {t : Int} {F : Nat → Prop} (h : QRep w Q A t F) (hk : Keeps (fun _ => False) w w') : StepPost w Q A t F w' :=
  ⟨⟨t, Int.le_refl _, by omega, (h.keeps hk (fun _ _ h => h)).mono (fun _ _ h => .inl h)⟩, hk.mono (fun _ _ h => h.elim)⟩

theorem StepPost.turned {w w1 w' : World} {Q : Nat} {A' : List (Int × Int)} {t t' : Int} {F : Nat → Prop} (hk : Keeps (fun _ => False) w w1) (h1 : t ≤ t') (h2 : t' ≤ t + 1) (hr : QRep w' Q A' t' (fun b => F b ∨ w1.heap.size ≤ b)) (hk' : Keeps F w1 w') : StepPost w Q A' t F w' :=
  ⟨⟨t', h1, h2, hr.mono (fun b _ hb => by rcases hb with hb | hb; exact .inl hb; exact .inr (Nat.le_trans hk.size hb))⟩, (hk.mono (fun _ _ h => h.elim)).trans hk'⟩

theorem box_cell {w w' : World} {cs : Array Value} {T : TypeId} (hk : Keeps (fun _ => False) (w.alloc (.cells cs T)) w') (j : Nat) {x : Value} (hj : cs[j]? = some x) : w'.cell? ⟨w.heap.size, j, none⟩ = some x :=
  hk.cell (a := ⟨w.heap.size, j, none⟩) (by rw [World.cell?_alloc_at cs T w.heap.size j rfl]; exact hj) (fun h => h)

set_option maxHeartbeats 1000000 in
theorem step_1a (w : World) (Q : Nat) (A : List (Int × Int)) (t : Int) (F : Nat → Prop) (H0 : Hid (QRep w Q A t F)) (_HT : Hid (0 ≤ t ∧ t ≤ 1000000)) (_HA : Hid (A.length ≤ 999999)) (i y : Int) (HC : Hid (formC 1 i y = 0)) (HL : Hid (lookA A i = none)) :
    Calls Try.prog 28 #[.pointer (some ⟨Q, 0, none⟩), .agg #[.int .i64 1, .int .i64 i, .int .i64 y]] w fun e w' => e = .returned (.tuple #[.int .i64 (stepR A 1 i y).2.1, .int .i64 (stepR A 1 i y).1]) ∧ StepPost w Q (stepR A 1 i y).2.2 t F w' := by
  have HS : Hid (stepR A 1 i y = (0, 0, setA A i y)) := by unfold Hid; unfold stepR; rw [if_neg (by simpa using HC.out)]; simp [HL.out]
  go_enter Try.func28, Try.ntmps28
  go_wp2_with fail
  refine (form_any _ _ _ _).mono ?_; rintro e w1 ⟨he, k1⟩; rw [HC.out] at he; subst he
  have b0 := box_cell k1 0 rfl
  have b1 := box_cell k1 1 rfl
  have b2 := box_cell k1 2 rfl
  have K0 := Lib.hid (((Keeps.refl (fun _ => False) w).alloc _).trans k1); clear k1
  have H1 := Lib.hid (H0.out.keeps K0.out (fun _ _ h => h))
  go_wp2_with fail
  refine (key_any _ Q A t F H1.out _).mono ?_; rintro e w' ⟨he, rfl⟩
  rw [HL.out] at he; subst he
  go_wp2_with fail
  refine (set_new _ Q A t F H1.out i y (lookA_none HL.out) _HT.out _HA.out).mono ?_; rintro e w2 ⟨rfl, hr, hk⟩
  have HP := Lib.hid (StepPost.turned K0.out (by omega : t ≤ t + 1) (Int.le_refl _) hr hk); clear hr hk
  go_wp2_with fail
  go_ret2
  exact ⟨ret_ii (by rw [HS.out]) (by rw [HS.out]), by rw [HS.out]; exact HP.out⟩

set_option maxHeartbeats 1000000 in
theorem step_1b (w : World) (Q : Nat) (A : List (Int × Int)) (t : Int) (F : Nat → Prop) (H0 : Hid (QRep w Q A t F)) (_HT : Hid (0 ≤ t ∧ t ≤ 1000000)) (_HA : Hid (A.length ≤ 999999)) (i y k0 : Int) (HC : Hid (formC 1 i y = 0)) (HL : Hid (lookA A i = some k0)) :
    Calls Try.prog 28 #[.pointer (some ⟨Q, 0, none⟩), .agg #[.int .i64 1, .int .i64 i, .int .i64 y]] w fun e w' => e = .returned (.tuple #[.int .i64 (stepR A 1 i y).2.1, .int .i64 (stepR A 1 i y).1]) ∧ StepPost w Q (stepR A 1 i y).2.2 t F w' := by
  have HS : Hid (stepR A 1 i y = (7, 0, A)) := by unfold Hid; unfold stepR; rw [if_neg (by simpa using HC.out)]; simp [HL.out]
  go_enter Try.func28, Try.ntmps28
  go_wp2_with fail
  refine (form_any _ _ _ _).mono ?_; rintro e w1 ⟨he, k1⟩; rw [HC.out] at he; subst he
  have b0 := box_cell k1 0 rfl
  have b1 := box_cell k1 1 rfl
  have b2 := box_cell k1 2 rfl
  have K0 := Lib.hid (((Keeps.refl (fun _ => False) w).alloc _).trans k1); clear k1
  have H1 := Lib.hid (H0.out.keeps K0.out (fun _ _ h => h))
  go_wp2_with fail
  refine (key_any _ Q A t F H1.out _).mono ?_; rintro e w' ⟨he, rfl⟩
  rw [HL.out] at he; subst he
  go_wp2_with fail
  go_ret2
  exact ⟨ret_ii (by rw [HS.out]) (by rw [HS.out]), by rw [HS.out]; exact StepPost.same H0.out K0.out⟩

set_option maxHeartbeats 1000000 in
theorem step_2a (w : World) (Q : Nat) (A : List (Int × Int)) (t : Int) (F : Nat → Prop) (H0 : Hid (QRep w Q A t F)) (_HT : Hid (0 ≤ t ∧ t ≤ 1000000)) (_HA : Hid (A.length ≤ 999999)) (i y : Int) (HC : Hid (formC 2 i y = 0)) (HL : Hid (lookA A i = none)) :
    Calls Try.prog 28 #[.pointer (some ⟨Q, 0, none⟩), .agg #[.int .i64 2, .int .i64 i, .int .i64 y]] w fun e w' => e = .returned (.tuple #[.int .i64 (stepR A 2 i y).2.1, .int .i64 (stepR A 2 i y).1]) ∧ StepPost w Q (stepR A 2 i y).2.2 t F w' := by
  have HS : Hid (stepR A 2 i y = (6, 0, A)) := by unfold Hid; unfold stepR; rw [if_neg (by simpa using HC.out)]; simp [HL.out]
  go_enter Try.func28, Try.ntmps28
  go_wp2_with fail
  refine (form_any _ _ _ _).mono ?_; rintro e w1 ⟨he, k1⟩; rw [HC.out] at he; subst he
  have b0 := box_cell k1 0 rfl
  have b1 := box_cell k1 1 rfl
  have b2 := box_cell k1 2 rfl
  have K0 := Lib.hid (((Keeps.refl (fun _ => False) w).alloc _).trans k1); clear k1
  have H1 := Lib.hid (H0.out.keeps K0.out (fun _ _ h => h))
  go_wp2_with fail
  refine (key_any _ Q A t F H1.out _).mono ?_; rintro e w' ⟨he, rfl⟩
  rw [HL.out] at he; subst he
  go_wp2_with fail
  go_ret2
  exact ⟨ret_ii (by rw [HS.out]) (by rw [HS.out]), by rw [HS.out]; exact StepPost.same H0.out K0.out⟩

set_option maxHeartbeats 1000000 in
theorem step_2b (w : World) (Q : Nat) (A : List (Int × Int)) (t : Int) (F : Nat → Prop) (H0 : Hid (QRep w Q A t F)) (_HT : Hid (0 ≤ t ∧ t ≤ 1000000)) (_HA : Hid (A.length ≤ 999999)) (i y k0 : Int) (HC : Hid (formC 2 i y = 0)) (HL : Hid (lookA A i = some k0)) (d5 : k0 ≤ y) :
    Calls Try.prog 28 #[.pointer (some ⟨Q, 0, none⟩), .agg #[.int .i64 2, .int .i64 i, .int .i64 y]] w fun e w' => e = .returned (.tuple #[.int .i64 (stepR A 2 i y).2.1, .int .i64 (stepR A 2 i y).1]) ∧ StepPost w Q (stepR A 2 i y).2.2 t F w' := by
  have HS : Hid (stepR A 2 i y = (11, 0, A)) := by unfold Hid; unfold stepR; rw [if_neg (by simpa using HC.out)]; simp [HL.out, d5]
  go_enter Try.func28, Try.ntmps28
  go_wp2_with fail
  refine (form_any _ _ _ _).mono ?_; rintro e w1 ⟨he, k1⟩; rw [HC.out] at he; subst he
  have b0 := box_cell k1 0 rfl
  have b1 := box_cell k1 1 rfl
  have b2 := box_cell k1 2 rfl
  have K0 := Lib.hid (((Keeps.refl (fun _ => False) w).alloc _).trans k1); clear k1
  have H1 := Lib.hid (H0.out.keeps K0.out (fun _ _ h => h))
  go_wp2_with fail
  refine (key_any _ Q A t F H1.out _).mono ?_; rintro e w' ⟨he, rfl⟩
  rw [HL.out] at he; subst he; simp only [Option.getD_some, Option.isSome_some]
  go_wp2_with fail
  go_ret2
  exact ⟨ret_ii (by rw [HS.out]) (by rw [HS.out]), by rw [HS.out]; exact StepPost.same H0.out K0.out⟩

set_option maxHeartbeats 1000000 in
theorem step_2c (w : World) (Q : Nat) (A : List (Int × Int)) (t : Int) (F : Nat → Prop) (H0 : Hid (QRep w Q A t F)) (_HT : Hid (0 ≤ t ∧ t ≤ 1000000)) (_HA : Hid (A.length ≤ 999999)) (i y k0 : Int) (HC : Hid (formC 2 i y = 0)) (HL : Hid (lookA A i = some k0)) (d5 : ¬ k0 ≤ y) :
    Calls Try.prog 28 #[.pointer (some ⟨Q, 0, none⟩), .agg #[.int .i64 2, .int .i64 i, .int .i64 y]] w fun e w' => e = .returned (.tuple #[.int .i64 (stepR A 2 i y).2.1, .int .i64 (stepR A 2 i y).1]) ∧ StepPost w Q (stepR A 2 i y).2.2 t F w' := by
  have HS : Hid (stepR A 2 i y = (0, 0, setA A i y)) := by unfold Hid; unfold stepR; rw [if_neg (by simpa using HC.out)]; simp [HL.out, d5]
  go_enter Try.func28, Try.ntmps28
  go_wp2_with fail
  refine (form_any _ _ _ _).mono ?_; rintro e w1 ⟨he, k1⟩; rw [HC.out] at he; subst he
  have b0 := box_cell k1 0 rfl
  have b1 := box_cell k1 1 rfl
  have b2 := box_cell k1 2 rfl
  have K0 := Lib.hid (((Keeps.refl (fun _ => False) w).alloc _).trans k1); clear k1
  have H1 := Lib.hid (H0.out.keeps K0.out (fun _ _ h => h))
  go_wp2_with fail
  refine (key_any _ Q A t F H1.out _).mono ?_; rintro e w' ⟨he, rfl⟩
  rw [HL.out] at he; subst he; simp only [Option.getD_some, Option.isSome_some]
  go_wp2_with fail
  refine (set_old _ Q A t F H1.out i y k0 (lookA_some HL.out) _HT.out).mono ?_; rintro e w2 ⟨rfl, hr, hk⟩
  have HP := Lib.hid (StepPost.turned K0.out (by omega : t ≤ t + 1) (Int.le_refl _) (hr.mono (fun _ _ h => .inl h)) hk); clear hr hk
  go_wp2_with fail
  go_ret2
  exact ⟨ret_ii (by rw [HS.out]) (by rw [HS.out]), by rw [HS.out]; exact HP.out⟩

set_option maxHeartbeats 1000000 in
theorem step_3a (w : World) (Q : Nat) (A : List (Int × Int)) (t : Int) (F : Nat → Prop) (H0 : Hid (QRep w Q A t F)) (_HT : Hid (0 ≤ t ∧ t ≤ 1000000)) (_HA : Hid (A.length ≤ 999999)) (i y : Int) (HC : Hid (formC 3 i y = 0)) (HL : Hid (firstMin A = none)) :
    Calls Try.prog 28 #[.pointer (some ⟨Q, 0, none⟩), .agg #[.int .i64 3, .int .i64 i, .int .i64 y]] w fun e w' => e = .returned (.tuple #[.int .i64 (stepR A 3 i y).2.1, .int .i64 (stepR A 3 i y).1]) ∧ StepPost w Q (stepR A 3 i y).2.2 t F w' := by
  have HS : Hid (stepR A 3 i y = (11, 0, A)) := by unfold Hid; unfold stepR; rw [if_neg (by simpa using HC.out)]; simp [HL.out]
  go_enter Try.func28, Try.ntmps28
  go_wp2_with fail
  refine (form_any _ _ _ _).mono ?_; rintro e w1 ⟨he, k1⟩; rw [HC.out] at he; subst he
  have b0 := box_cell k1 0 rfl
  have b1 := box_cell k1 1 rfl
  have b2 := box_cell k1 2 rfl
  have K0 := Lib.hid (((Keeps.refl (fun _ => False) w).alloc _).trans k1); clear k1
  have H1 := Lib.hid (H0.out.keeps K0.out (fun _ _ h => h))
  go_wp2_with fail
  refine (key_any _ Q A t F H1.out _).mono ?_; rintro e w' ⟨he, rfl⟩
  subst he
  go_wp2_with fail
  obtain rfl := firstMin_none.1 HL.out
  refine (take_none _ Q t F H1.out).mono ?_; rintro e w' ⟨rfl, rfl⟩
  go_wp2_with fail
  go_ret2
  exact ⟨ret_ii (by rw [HS.out]) (by rw [HS.out]), by rw [HS.out]; exact StepPost.same H0.out K0.out⟩

set_option maxHeartbeats 1000000 in
theorem step_3b (w : World) (Q : Nat) (A : List (Int × Int)) (t : Int) (F : Nat → Prop) (H0 : Hid (QRep w Q A t F)) (_HT : Hid (0 ≤ t ∧ t ≤ 1000000)) (_HA : Hid (A.length ≤ 999999)) (i y px pk : Int) (HC : Hid (formC 3 i y = 0)) (HL : Hid (firstMin A = some (px, pk))) :
    Calls Try.prog 28 #[.pointer (some ⟨Q, 0, none⟩), .agg #[.int .i64 3, .int .i64 i, .int .i64 y]] w fun e w' => e = .returned (.tuple #[.int .i64 (stepR A 3 i y).2.1, .int .i64 (stepR A 3 i y).1]) ∧ StepPost w Q (stepR A 3 i y).2.2 t F w' := by
  have HS : Hid (stepR A 3 i y = (0, px, A.filter (fun q => q.1 != px))) := by unfold Hid; unfold stepR; rw [if_neg (by simpa using HC.out)]; simp [HL.out]
  go_enter Try.func28, Try.ntmps28
  go_wp2_with fail
  refine (form_any _ _ _ _).mono ?_; rintro e w1 ⟨he, k1⟩; rw [HC.out] at he; subst he
  have b0 := box_cell k1 0 rfl
  have b1 := box_cell k1 1 rfl
  have b2 := box_cell k1 2 rfl
  have K0 := Lib.hid (((Keeps.refl (fun _ => False) w).alloc _).trans k1); clear k1
  have H1 := Lib.hid (H0.out.keeps K0.out (fun _ _ h => h))
  go_wp2_with fail
  refine (key_any _ Q A t F H1.out _).mono ?_; rintro e w' ⟨he, rfl⟩
  subst he
  go_wp2_with fail
  refine (take_some _ Q A t F H1.out px pk HL.out).mono ?_; rintro e w2 ⟨rfl, hr, hk⟩
  have HP := Lib.hid (StepPost.turned K0.out (Int.le_refl t) (by omega) (hr.mono (fun _ _ h => .inl h)) hk); clear hr hk
  go_wp2_with fail
  go_ret2
  exact ⟨ret_ii (by rw [HS.out]) (by rw [HS.out]), by rw [HS.out]; exact HP.out⟩

set_option maxHeartbeats 1000000 in
theorem step_4a (w : World) (Q : Nat) (A : List (Int × Int)) (t : Int) (F : Nat → Prop) (H0 : Hid (QRep w Q A t F)) (_HT : Hid (0 ≤ t ∧ t ≤ 1000000)) (_HA : Hid (A.length ≤ 999999)) (i y : Int) (HC : Hid (formC 4 i y = 0)) (HL : Hid (lookA A i = none)) :
    Calls Try.prog 28 #[.pointer (some ⟨Q, 0, none⟩), .agg #[.int .i64 4, .int .i64 i, .int .i64 y]] w fun e w' => e = .returned (.tuple #[.int .i64 (stepR A 4 i y).2.1, .int .i64 (stepR A 4 i y).1]) ∧ StepPost w Q (stepR A 4 i y).2.2 t F w' := by
  have HS : Hid (stepR A 4 i y = (6, 0, A)) := by unfold Hid; unfold stepR; rw [if_neg (by simpa using HC.out)]; simp [HL.out]
  go_enter Try.func28, Try.ntmps28
  go_wp2_with fail
  refine (form_any _ _ _ _).mono ?_; rintro e w1 ⟨he, k1⟩; rw [HC.out] at he; subst he
  have b0 := box_cell k1 0 rfl
  have b1 := box_cell k1 1 rfl
  have b2 := box_cell k1 2 rfl
  have K0 := Lib.hid (((Keeps.refl (fun _ => False) w).alloc _).trans k1); clear k1
  have H1 := Lib.hid (H0.out.keeps K0.out (fun _ _ h => h))
  go_wp2_with fail
  refine (key_any _ Q A t F H1.out _).mono ?_; rintro e w' ⟨he, rfl⟩
  subst he
  go_wp2_with fail
  refine (drop_miss _ Q A t F H1.out i (lookA_none HL.out)).mono ?_; rintro e w' ⟨rfl, rfl⟩
  go_wp2_with fail
  go_ret2
  exact ⟨ret_ii (by rw [HS.out]) (by rw [HS.out]), by rw [HS.out]; exact StepPost.same H0.out K0.out⟩

set_option maxHeartbeats 1000000 in
theorem step_4b (w : World) (Q : Nat) (A : List (Int × Int)) (t : Int) (F : Nat → Prop) (H0 : Hid (QRep w Q A t F)) (_HT : Hid (0 ≤ t ∧ t ≤ 1000000)) (_HA : Hid (A.length ≤ 999999)) (i y k0 : Int) (HC : Hid (formC 4 i y = 0)) (HL : Hid (lookA A i = some k0)) :
    Calls Try.prog 28 #[.pointer (some ⟨Q, 0, none⟩), .agg #[.int .i64 4, .int .i64 i, .int .i64 y]] w fun e w' => e = .returned (.tuple #[.int .i64 (stepR A 4 i y).2.1, .int .i64 (stepR A 4 i y).1]) ∧ StepPost w Q (stepR A 4 i y).2.2 t F w' := by
  have HS : Hid (stepR A 4 i y = (0, 0, A.filter (fun q => q.1 != i))) := by unfold Hid; unfold stepR; rw [if_neg (by simpa using HC.out)]; simp [HL.out]
  go_enter Try.func28, Try.ntmps28
  go_wp2_with fail
  refine (form_any _ _ _ _).mono ?_; rintro e w1 ⟨he, k1⟩; rw [HC.out] at he; subst he
  have b0 := box_cell k1 0 rfl
  have b1 := box_cell k1 1 rfl
  have b2 := box_cell k1 2 rfl
  have K0 := Lib.hid (((Keeps.refl (fun _ => False) w).alloc _).trans k1); clear k1
  have H1 := Lib.hid (H0.out.keeps K0.out (fun _ _ h => h))
  go_wp2_with fail
  refine (key_any _ Q A t F H1.out _).mono ?_; rintro e w' ⟨he, rfl⟩
  subst he
  go_wp2_with fail
  refine (drop_hit _ Q A t F H1.out i k0 (lookA_some HL.out)).mono ?_; rintro e w2 ⟨rfl, hr, hk⟩
  have HP := Lib.hid (StepPost.turned K0.out (Int.le_refl t) (by omega) (hr.mono (fun _ _ h => .inl h)) hk); clear hr hk
  go_wp2_with fail
  go_ret2
  exact ⟨ret_ii (by rw [HS.out]) (by rw [HS.out]), by rw [HS.out]; exact HP.out⟩

set_option maxHeartbeats 1000000 in
theorem step_f (w : World) (Q : Nat) (A : List (Int × Int)) (t : Int) (F : Nat → Prop) (H0 : Hid (QRep w Q A t F)) (_HT : Hid (0 ≤ t ∧ t ≤ 1000000)) (_HA : Hid (A.length ≤ 999999)) (k i y c : Int) (HC : Hid (formC k i y = c)) (cb : (c != 0) = true) :
    Calls Try.prog 28 #[.pointer (some ⟨Q, 0, none⟩), .agg #[.int .i64 k, .int .i64 i, .int .i64 y]] w fun e w' => e = .returned (.tuple #[.int .i64 (stepR A k i y).2.1, .int .i64 (stepR A k i y).1]) ∧ StepPost w Q (stepR A k i y).2.2 t F w' := by
  have HS : Hid (stepR A k i y = (c, 0, A)) := by unfold Hid stepR; rw [if_pos (by rw [HC.out]; simpa using cb), HC.out]
  go_enter Try.func28, Try.ntmps28
  go_wp2_with fail
  refine (form_any _ _ _ _).mono ?_; rintro e w1 ⟨he, k1⟩; rw [HC.out] at he; subst he
  have K0 := Lib.hid (((Keeps.refl (fun _ => False) w).alloc _).trans k1); clear k1
  go_wp2_with fail
  go_ret2
  exact ⟨ret_ii (by rw [HS.out]) (by rw [HS.out]), by rw [HS.out]; exact StepPost.same H0.out K0.out⟩

theorem step_any (w : World) (Q : Nat) (A : List (Int × Int)) (t : Int) (F : Nat → Prop) (h : QRep w Q A t F) (k i y : Int) (ht : 0 ≤ t ∧ t ≤ 1000000) (hA : A.length ≤ 999999) :
    Calls Try.prog 28 #[.pointer (some ⟨Q, 0, none⟩), .agg #[.int .i64 k, .int .i64 i, .int .i64 y]] w fun e w' => e = .returned (.tuple #[.int .i64 (stepR A k i y).2.1, .int .i64 (stepR A k i y).1]) ∧ StepPost w Q (stepR A k i y).2.2 t F w' := by
  by_cases c0 : formC k i y = 0
  · have ck : k = 1 ∨ k = 2 ∨ k = 3 ∨ k = 4 := by unfold formC at c0; split at c0 <;> omega
    rcases ck with rfl | rfl | rfl | rfl
    · cases hl : lookA A i with
      | none => exact step_1a w Q A t F h ht hA i y c0 hl
      | some k0 => exact step_1b w Q A t F h ht hA i y k0 c0 hl
    · cases hl : lookA A i with
      | none => exact step_2a w Q A t F h ht hA i y c0 hl
      | some k0 =>
        by_cases d5 : k0 ≤ y
        · exact step_2b w Q A t F h ht hA i y k0 c0 hl d5
        · exact step_2c w Q A t F h ht hA i y k0 c0 hl d5
    · cases hl : firstMin A with
      | none => exact step_3a w Q A t F h ht hA i y c0 hl
      | some p => exact step_3b w Q A t F h ht hA i y p.1 p.2 c0 hl
    · cases hl : lookA A i with
      | none => exact step_4a w Q A t F h ht hA i y c0 hl
      | some k0 => exact step_4b w Q A t F h ht hA i y k0 c0 hl
  · exact step_f w Q A t F h ht hA k i y _ rfl (by simpa using c0)

end Go.Proofs.Ytlghadoejmnllaa
