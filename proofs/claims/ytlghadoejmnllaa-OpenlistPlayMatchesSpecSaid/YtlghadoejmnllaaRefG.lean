/- The reference: queueCode. It answers the code of stepR. -/
import Derived.Test.YtlghadoejmnllaaRefD
import Derived.Test.YtlghadoejmnllaaRefE
import Derived.Test.YtlghadoejmnllaaStepB
namespace Go.Proofs.Ytlghadoejmnllaa
open Go.RowKit

theorem place_look (A : List (Int × Int)) (x : Int) : (lookA A x = none ∧ placeI (A.map Prod.fst) x = -1) ∨ ∃ (p : Nat) (k0 : Int), lookA A x = some k0 ∧ placeI (A.map Prod.fst) x = (p : Int) ∧ A[p]? = some (x, k0) := by
  cases h : lookA A x with
  | none =>
    refine .inl ⟨rfl, placeI_miss fun y hy => ?_⟩
    obtain ⟨q, hq, rfl⟩ := List.mem_map.1 hy
    exact lookA_none h q hq
  | some k0 =>
    unfold lookA at h
    obtain ⟨q, hq, rfl⟩ := Option.map_eq_some_iff.1 h
    obtain ⟨h1, us, bs, rfl, h2⟩ := List.find?_eq_some_iff_append.1 hq
    have hx : q.1 = x := by simpa using h1
    refine .inr ⟨us.length, q.2, rfl, placeI_hit (by simp [hx]) (fun y hy => ?_), by simp [← hx]⟩
    rw [List.map_append, List.take_append_of_le_length (by simp), List.take_of_length_le (by simp)] at hy
    obtain ⟨a, ha, rfl⟩ := List.mem_map.1 hy
    simpa using h2 a ha

theorem form_zero {k i y : Int} (h : formC k i y = 0) : (1 ≤ k ∧ k ≤ 4) ∧ (0 ≤ i ∧ i ≤ 30) ∧ (0 ≤ y ∧ y ≤ 1000000) ∧ (k = 3 → i = 0) ∧ (2 < k → y = 0) := by
  unfold formC at h
  split at h
  · omega
  · split at h
    · omega
    · split at h
      · omega
      · refine ⟨by omega, by omega, by omega, fun e => ?_, fun e => ?_⟩ <;> omega

theorem inB_false' {x lo hi : Int} (h : x < lo ∨ hi < x) : inB x lo hi = false := by
  unfold inB
  rw [Bool.and_eq_false_iff]
  rcases h with h | h
  · exact .inl (decide_eq_false (by omega))
  · exact .inr (decide_eq_false (by omega))

theorem code_kind (w : World) (vI vK vT : Value) (t k i y : Int) (h : inB k 1 4 = false) :
    Calls Try.prog 20 #[.agg #[vI, vK, vT, .int .i64 t], .agg #[.int .i64 k, .int .i64 i, .int .i64 y]] w fun e w' => e = .returned (.int .i64 4) ∧ Keeps (fun _ => False) w w' := by
  have HA : Hid (∀ o o', Keeps (fun _ => False) w ((w.alloc o).alloc o')) := fun o o' => ((Keeps.refl _ _).alloc o).alloc o'
  go_enter Try.func20, Try.ntmps20
  go_wp2_with fail
  refine (in_any _ _ _ _).mono ?_; rintro e w1 ⟨rfl, rfl⟩
  rw [h]
  go_wp2_with fail
  go_ret
  exact ⟨rfl, HA.out _ _⟩

theorem code_item (w : World) (vI vK vT : Value) (t k i y : Int) (h : inB k 1 4 = true) (h2 : inB i 0 30 = false) :
    Calls Try.prog 20 #[.agg #[vI, vK, vT, .int .i64 t], .agg #[.int .i64 k, .int .i64 i, .int .i64 y]] w fun e w' => e = .returned (.int .i64 3) ∧ Keeps (fun _ => False) w w' := by
  have HA : Hid (∀ o o', Keeps (fun _ => False) w ((w.alloc o).alloc o')) := fun o o' => ((Keeps.refl _ _).alloc o).alloc o'
  go_enter Try.func20, Try.ntmps20
  go_wp2_with fail
  refine (in_any _ _ _ _).mono ?_; rintro e w1 ⟨rfl, rfl⟩
  rw [h]
  go_wp2_with fail
  refine (in_any _ _ _ _).mono ?_; rintro e w1 ⟨rfl, rfl⟩
  rw [h2]
  go_wp2_with fail
  go_ret
  exact ⟨rfl, HA.out _ _⟩

theorem code_key (w : World) (vI vK vT : Value) (t k i y : Int) (h : inB k 1 4 = true) (h2 : inB i 0 30 = true) (h3 : inB y 0 1000000 = false) :
    Calls Try.prog 20 #[.agg #[vI, vK, vT, .int .i64 t], .agg #[.int .i64 k, .int .i64 i, .int .i64 y]] w fun e w' => e = .returned (.int .i64 3) ∧ Keeps (fun _ => False) w w' := by
  have HA : Hid (∀ o o', Keeps (fun _ => False) w ((w.alloc o).alloc o')) := fun o o' => ((Keeps.refl _ _).alloc o).alloc o'
  go_enter Try.func20, Try.ntmps20
  go_wp2_with fail
  refine (in_any _ _ _ _).mono ?_; rintro e w1 ⟨rfl, rfl⟩
  rw [h]
  go_wp2_with fail
  refine (in_any _ _ _ _).mono ?_; rintro e w1 ⟨rfl, rfl⟩
  rw [h2]
  go_wp2_with fail
  refine (in_any _ _ _ _).mono ?_; rintro e w1 ⟨rfl, rfl⟩
  rw [h3]
  go_wp2_with fail
  go_ret
  exact ⟨rfl, HA.out _ _⟩

theorem code_mal3a (w : World) (vI vK vT : Value) (t i y : Int) (h : inB 3 1 4 = true) (h2 : inB i 0 30 = true) (h3 : inB y 0 1000000 = true) (c : (i != 0) = true) :
    Calls Try.prog 20 #[.agg #[vI, vK, vT, .int .i64 t], .agg #[.int .i64 3, .int .i64 i, .int .i64 y]] w fun e w' => e = .returned (.int .i64 5) ∧ Keeps (fun _ => False) w w' := by
  have HA : Hid (∀ o o', Keeps (fun _ => False) w ((w.alloc o).alloc o')) := fun o o' => ((Keeps.refl _ _).alloc o).alloc o'
  go_enter Try.func20, Try.ntmps20
  go_wp2_with fail
  refine (in_any _ _ _ _).mono ?_; rintro e w1 ⟨rfl, rfl⟩
  rw [h]
  go_wp2_with fail
  refine (in_any _ _ _ _).mono ?_; rintro e w1 ⟨rfl, rfl⟩
  rw [h2]
  go_wp2_with fail
  refine (in_any _ _ _ _).mono ?_; rintro e w1 ⟨rfl, rfl⟩
  rw [h3]
  go_wp2_with fail
  go_ret
  exact ⟨rfl, HA.out _ _⟩

theorem code_mal3b (w : World) (vI vK vT : Value) (t y : Int) (h : inB 3 1 4 = true) (h2 : inB 0 0 30 = true) (h3 : inB y 0 1000000 = true) (c : (y != 0) = true) :
    Calls Try.prog 20 #[.agg #[vI, vK, vT, .int .i64 t], .agg #[.int .i64 3, .int .i64 0, .int .i64 y]] w fun e w' => e = .returned (.int .i64 5) ∧ Keeps (fun _ => False) w w' := by
  have HA : Hid (∀ o o', Keeps (fun _ => False) w ((w.alloc o).alloc o')) := fun o o' => ((Keeps.refl _ _).alloc o).alloc o'
  go_enter Try.func20, Try.ntmps20
  go_wp2_with fail
  refine (in_any _ _ _ _).mono ?_; rintro e w1 ⟨rfl, rfl⟩
  rw [h]
  go_wp2_with fail
  refine (in_any _ _ _ _).mono ?_; rintro e w1 ⟨rfl, rfl⟩
  rw [h2]
  go_wp2_with fail
  refine (in_any _ _ _ _).mono ?_; rintro e w1 ⟨rfl, rfl⟩
  rw [h3]
  go_wp2_with fail
  go_ret
  exact ⟨rfl, HA.out _ _⟩

theorem code_mal4 (w : World) (vI vK vT : Value) (t i y : Int) (h : inB 4 1 4 = true) (h2 : inB i 0 30 = true) (h3 : inB y 0 1000000 = true) (c : (y != 0) = true) :
    Calls Try.prog 20 #[.agg #[vI, vK, vT, .int .i64 t], .agg #[.int .i64 4, .int .i64 i, .int .i64 y]] w fun e w' => e = .returned (.int .i64 5) ∧ Keeps (fun _ => False) w w' := by
  have HA : Hid (∀ o o', Keeps (fun _ => False) w ((w.alloc o).alloc o')) := fun o o' => ((Keeps.refl _ _).alloc o).alloc o'
  go_enter Try.func20, Try.ntmps20
  go_wp2_with fail
  refine (in_any _ _ _ _).mono ?_; rintro e w1 ⟨rfl, rfl⟩
  rw [h]
  go_wp2_with fail
  refine (in_any _ _ _ _).mono ?_; rintro e w1 ⟨rfl, rfl⟩
  rw [h2]
  go_wp2_with fail
  refine (in_any _ _ _ _).mono ?_; rintro e w1 ⟨rfl, rfl⟩
  rw [h3]
  go_wp2_with fail
  go_ret
  exact ⟨rfl, HA.out _ _⟩


set_option maxHeartbeats 1000000 in
theorem code_1a (w : World) (vI vK vT : Value) (t i y : Int) (I : List Int) (hI : Ints w vI I) (h : inB 1 1 4 = true) (h2 : inB i 0 30 = true) (h3 : inB y 0 1000000 = true) (p : Nat) (hp : placeI I i = (p : Int)) :
    Calls Try.prog 20 #[.agg #[vI, vK, vT, .int .i64 t], .agg #[.int .i64 1, .int .i64 i, .int .i64 y]] w fun e w' => e = .returned (.int .i64 7) ∧ Keeps (fun _ => False) w w' := by
  have hq : ∀ w2, Keeps (fun _ => False) ((w.alloc (.cells #[vI, vK, vT, .int .i64 t] 46)).alloc (.cells #[.int .i64 1, .int .i64 i, .int .i64 y] 38)) w2 →
      w2.heap[w.heap.size]? = some (.cells #[vI, vK, vT, .int .i64 t] 46 (0, 0)) ∧ w2.heap[w.heap.size + 1]? = some (.cells #[.int .i64 1, .int .i64 i, .int .i64 y] 38 (0, 0)) := fun w2 hk => by
    have e1 := heap_alloc_new w (.cells #[vI, vK, vT, .int .i64 t] 46)
    have e2 := heap_alloc_new (w.alloc (.cells #[vI, vK, vT, .int .i64 t] 46)) (.cells #[.int .i64 1, .int .i64 i, .int .i64 y] 38)
    rw [World.size_alloc] at e2
    exact ⟨hk.heap (pair_alloc e1) (fun h => h), hk.heap e2 (fun h => h)⟩
  have HQ := Lib.hid hq
  have HA : Hid (∀ o o', Keeps (fun _ => False) w ((w.alloc o).alloc o')) := fun o o' => ((Keeps.refl _ _).alloc o).alloc o'
  have HI := Lib.hid hI
  have HP := Lib.hid hp
  clear hq hI hp
  go_enter Try.func20, Try.ntmps20
  go_wp2_with fail
  refine (in_any _ _ _ _).mono ?_; rintro e w1 ⟨rfl, rfl⟩
  rw [h]
  go_wp2_with fail
  refine (in_any _ _ _ _).mono ?_; rintro e w1 ⟨rfl, rfl⟩
  rw [h2]
  go_wp2_with fail
  refine (in_any _ _ _ _).mono ?_; rintro e w1 ⟨rfl, rfl⟩
  rw [h3]
  go_wp2_with fail
  refine (place_any _ _ _ _ t I _ (HI.out.keeps0 (HA.out _ _))).mono ?_; rintro e w2 ⟨rfl, hk2⟩
  rw [HP.out]
  have b2 := HQ.out w2 hk2
  have o0 : w2.cell? ⟨w.heap.size + 1, 0, none⟩ = some (.int .i64 1) := by rw [cell_of_blk b2.2]; rfl
  have o2 : w2.cell? ⟨w.heap.size + 1, 2, none⟩ = some (.int .i64 y) := by rw [cell_of_blk b2.2]; rfl
  have q0 : w2.cell? ⟨w.heap.size, 0, none⟩ = some vI := by rw [cell_of_blk b2.1]; rfl
  have q1 : w2.cell? ⟨w.heap.size, 1, none⟩ = some vK := by rw [cell_of_blk b2.1]; rfl
  have KW := Lib.hid ((HA.out _ _).trans hk2)
  clear hk2 b2
  go_wp2_with fail
  go_ret
  exact ⟨rfl, KW.out⟩

set_option maxHeartbeats 1000000 in
theorem code_1b (w : World) (vI vK vT : Value) (t i y : Int) (I : List Int) (hI : Ints w vI I) (h : inB 1 1 4 = true) (h2 : inB i 0 30 = true) (h3 : inB y 0 1000000 = true) (hp : placeI I i = -1) :
    Calls Try.prog 20 #[.agg #[vI, vK, vT, .int .i64 t], .agg #[.int .i64 1, .int .i64 i, .int .i64 y]] w fun e w' => e = .returned (.int .i64 0) ∧ Keeps (fun _ => False) w w' := by
  have hq : ∀ w2, Keeps (fun _ => False) ((w.alloc (.cells #[vI, vK, vT, .int .i64 t] 46)).alloc (.cells #[.int .i64 1, .int .i64 i, .int .i64 y] 38)) w2 →
      w2.heap[w.heap.size]? = some (.cells #[vI, vK, vT, .int .i64 t] 46 (0, 0)) ∧ w2.heap[w.heap.size + 1]? = some (.cells #[.int .i64 1, .int .i64 i, .int .i64 y] 38 (0, 0)) := fun w2 hk => by
    have e1 := heap_alloc_new w (.cells #[vI, vK, vT, .int .i64 t] 46)
    have e2 := heap_alloc_new (w.alloc (.cells #[vI, vK, vT, .int .i64 t] 46)) (.cells #[.int .i64 1, .int .i64 i, .int .i64 y] 38)
    rw [World.size_alloc] at e2
    exact ⟨hk.heap (pair_alloc e1) (fun h => h), hk.heap e2 (fun h => h)⟩
  have HQ := Lib.hid hq
  have HA : Hid (∀ o o', Keeps (fun _ => False) w ((w.alloc o).alloc o')) := fun o o' => ((Keeps.refl _ _).alloc o).alloc o'
  have HI := Lib.hid hI
  have HP := Lib.hid hp
  clear hq hI hp
  go_enter Try.func20, Try.ntmps20
  go_wp2_with fail
  refine (in_any _ _ _ _).mono ?_; rintro e w1 ⟨rfl, rfl⟩
  rw [h]
  go_wp2_with fail
  refine (in_any _ _ _ _).mono ?_; rintro e w1 ⟨rfl, rfl⟩
  rw [h2]
  go_wp2_with fail
  refine (in_any _ _ _ _).mono ?_; rintro e w1 ⟨rfl, rfl⟩
  rw [h3]
  go_wp2_with fail
  refine (place_any _ _ _ _ t I _ (HI.out.keeps0 (HA.out _ _))).mono ?_; rintro e w2 ⟨rfl, hk2⟩
  rw [HP.out]
  have b2 := HQ.out w2 hk2
  have o0 : w2.cell? ⟨w.heap.size + 1, 0, none⟩ = some (.int .i64 1) := by rw [cell_of_blk b2.2]; rfl
  have o2 : w2.cell? ⟨w.heap.size + 1, 2, none⟩ = some (.int .i64 y) := by rw [cell_of_blk b2.2]; rfl
  have q0 : w2.cell? ⟨w.heap.size, 0, none⟩ = some vI := by rw [cell_of_blk b2.1]; rfl
  have q1 : w2.cell? ⟨w.heap.size, 1, none⟩ = some vK := by rw [cell_of_blk b2.1]; rfl
  have KW := Lib.hid ((HA.out _ _).trans hk2)
  clear hk2 b2
  go_wp2_with fail
  go_quiet (fail)
  go_step
  go_wp2_with fail
  go_ret
  exact ⟨rfl, KW.out.drewN _⟩

set_option maxHeartbeats 1000000 in
theorem code_2a (w : World) (vI vK vT : Value) (t i y : Int) (I : List Int) (hI : Ints w vI I) (h : inB 2 1 4 = true) (h2 : inB i 0 30 = true) (h3 : inB y 0 1000000 = true) (hp : placeI I i = -1) :
    Calls Try.prog 20 #[.agg #[vI, vK, vT, .int .i64 t], .agg #[.int .i64 2, .int .i64 i, .int .i64 y]] w fun e w' => e = .returned (.int .i64 6) ∧ Keeps (fun _ => False) w w' := by
  have hq : ∀ w2, Keeps (fun _ => False) ((w.alloc (.cells #[vI, vK, vT, .int .i64 t] 46)).alloc (.cells #[.int .i64 2, .int .i64 i, .int .i64 y] 38)) w2 →
      w2.heap[w.heap.size]? = some (.cells #[vI, vK, vT, .int .i64 t] 46 (0, 0)) ∧ w2.heap[w.heap.size + 1]? = some (.cells #[.int .i64 2, .int .i64 i, .int .i64 y] 38 (0, 0)) := fun w2 hk => by
    have e1 := heap_alloc_new w (.cells #[vI, vK, vT, .int .i64 t] 46)
    have e2 := heap_alloc_new (w.alloc (.cells #[vI, vK, vT, .int .i64 t] 46)) (.cells #[.int .i64 2, .int .i64 i, .int .i64 y] 38)
    rw [World.size_alloc] at e2
    exact ⟨hk.heap (pair_alloc e1) (fun h => h), hk.heap e2 (fun h => h)⟩
  have HQ := Lib.hid hq
  have HA : Hid (∀ o o', Keeps (fun _ => False) w ((w.alloc o).alloc o')) := fun o o' => ((Keeps.refl _ _).alloc o).alloc o'
  have HI := Lib.hid hI
  have HP := Lib.hid hp
  clear hq hI hp
  go_enter Try.func20, Try.ntmps20
  go_wp2_with fail
  refine (in_any _ _ _ _).mono ?_; rintro e w1 ⟨rfl, rfl⟩
  rw [h]
  go_wp2_with fail
  refine (in_any _ _ _ _).mono ?_; rintro e w1 ⟨rfl, rfl⟩
  rw [h2]
  go_wp2_with fail
  refine (in_any _ _ _ _).mono ?_; rintro e w1 ⟨rfl, rfl⟩
  rw [h3]
  go_wp2_with fail
  refine (place_any _ _ _ _ t I _ (HI.out.keeps0 (HA.out _ _))).mono ?_; rintro e w2 ⟨rfl, hk2⟩
  rw [HP.out]
  have b2 := HQ.out w2 hk2
  have o0 : w2.cell? ⟨w.heap.size + 1, 0, none⟩ = some (.int .i64 2) := by rw [cell_of_blk b2.2]; rfl
  have o2 : w2.cell? ⟨w.heap.size + 1, 2, none⟩ = some (.int .i64 y) := by rw [cell_of_blk b2.2]; rfl
  have q0 : w2.cell? ⟨w.heap.size, 0, none⟩ = some vI := by rw [cell_of_blk b2.1]; rfl
  have q1 : w2.cell? ⟨w.heap.size, 1, none⟩ = some vK := by rw [cell_of_blk b2.1]; rfl
  have KW := Lib.hid ((HA.out _ _).trans hk2)
  clear hk2 b2
  go_wp2_with fail
  go_ret
  exact ⟨rfl, KW.out⟩

set_option maxHeartbeats 1000000 in
theorem code_2b (w : World) (vI vK vT : Value) (t i y : Int) (I : List Int) (hI : Ints w vI I) (h : inB 2 1 4 = true) (h2 : inB i 0 30 = true) (h3 : inB y 0 1000000 = true) (K : List Int) (hK : Ints w vK K) (hIK : I.length = K.length) (p : Nat) (hp : placeI I i = (p : Int)) (k0 : Int) (hk0 : K[p]? = some k0) (c : k0 ≤ y) :
    Calls Try.prog 20 #[.agg #[vI, vK, vT, .int .i64 t], .agg #[.int .i64 2, .int .i64 i, .int .i64 y]] w fun e w' => e = .returned (.int .i64 11) ∧ Keeps (fun _ => False) w w' := by
  obtain ⟨aK, cK, hvK, mK⟩ := hK.form
  have hlp : p < K.length := (List.getElem?_eq_some_iff.1 hk0).1
  obtain ⟨bK, oK, rfl, cK'⟩ := hK.cell hvK (by omega)
  have EK := Lib.hid (cK' p k0 hk0)
  have p0 : (0 : Int) ≤ (p : Int) := by omega
  have p1 : (p : Int) < (K.length : Int) := by omega
  have c1 : decide (k0 ≤ y) = true := by simpa using c
  subst hvK
  clear hK cK' hk0
  have hq : ∀ w2, Keeps (fun _ => False) ((w.alloc (.cells #[vI, (.slice (some ⟨bK, oK, none⟩) K.length cK), vT, .int .i64 t] 46)).alloc (.cells #[.int .i64 2, .int .i64 i, .int .i64 y] 38)) w2 →
      w2.heap[w.heap.size]? = some (.cells #[vI, (.slice (some ⟨bK, oK, none⟩) K.length cK), vT, .int .i64 t] 46 (0, 0)) ∧ w2.heap[w.heap.size + 1]? = some (.cells #[.int .i64 2, .int .i64 i, .int .i64 y] 38 (0, 0)) := fun w2 hk => by
    have e1 := heap_alloc_new w (.cells #[vI, (.slice (some ⟨bK, oK, none⟩) K.length cK), vT, .int .i64 t] 46)
    have e2 := heap_alloc_new (w.alloc (.cells #[vI, (.slice (some ⟨bK, oK, none⟩) K.length cK), vT, .int .i64 t] 46)) (.cells #[.int .i64 2, .int .i64 i, .int .i64 y] 38)
    rw [World.size_alloc] at e2
    exact ⟨hk.heap (pair_alloc e1) (fun h => h), hk.heap e2 (fun h => h)⟩
  have HQ := Lib.hid hq
  have HA : Hid (∀ o o', Keeps (fun _ => False) w ((w.alloc o).alloc o')) := fun o o' => ((Keeps.refl _ _).alloc o).alloc o'
  have HI := Lib.hid hI
  have HP := Lib.hid hp
  clear hq hI hp
  go_enter Try.func20, Try.ntmps20
  go_wp2_with fail
  refine (in_any _ _ _ _).mono ?_; rintro e w1 ⟨rfl, rfl⟩
  rw [h]
  go_wp2_with fail
  refine (in_any _ _ _ _).mono ?_; rintro e w1 ⟨rfl, rfl⟩
  rw [h2]
  go_wp2_with fail
  refine (in_any _ _ _ _).mono ?_; rintro e w1 ⟨rfl, rfl⟩
  rw [h3]
  go_wp2_with fail
  refine (place_any _ _ _ _ t I _ (HI.out.keeps0 (HA.out _ _))).mono ?_; rintro e w2 ⟨rfl, hk2⟩
  rw [HP.out]
  have b2 := HQ.out w2 hk2
  have o0 : w2.cell? ⟨w.heap.size + 1, 0, none⟩ = some (.int .i64 2) := by rw [cell_of_blk b2.2]; rfl
  have o2 : w2.cell? ⟨w.heap.size + 1, 2, none⟩ = some (.int .i64 y) := by rw [cell_of_blk b2.2]; rfl
  have q0 : w2.cell? ⟨w.heap.size, 0, none⟩ = some vI := by rw [cell_of_blk b2.1]; rfl
  have q1 : w2.cell? ⟨w.heap.size, 1, none⟩ = some (.slice (some ⟨bK, oK, none⟩) K.length cK) := by rw [cell_of_blk b2.1]; rfl
  have KW := Lib.hid ((HA.out _ _).trans hk2)
  clear hk2 b2
  have ek := KW.out.cell EK.out (fun h => h)
  go_wp2_with fail
  go_quiet (fail)
  go_step
  go_wp2_with fail
  go_ret
  exact ⟨rfl, KW.out.drewN _⟩

set_option maxHeartbeats 1000000 in
theorem code_2c (w : World) (vI vK vT : Value) (t i y : Int) (I : List Int) (hI : Ints w vI I) (h : inB 2 1 4 = true) (h2 : inB i 0 30 = true) (h3 : inB y 0 1000000 = true) (K : List Int) (hK : Ints w vK K) (hIK : I.length = K.length) (p : Nat) (hp : placeI I i = (p : Int)) (k0 : Int) (hk0 : K[p]? = some k0) (c : ¬ k0 ≤ y) :
    Calls Try.prog 20 #[.agg #[vI, vK, vT, .int .i64 t], .agg #[.int .i64 2, .int .i64 i, .int .i64 y]] w fun e w' => e = .returned (.int .i64 0) ∧ Keeps (fun _ => False) w w' := by
  obtain ⟨aK, cK, hvK, mK⟩ := hK.form
  have hlp : p < K.length := (List.getElem?_eq_some_iff.1 hk0).1
  obtain ⟨bK, oK, rfl, cK'⟩ := hK.cell hvK (by omega)
  have EK := Lib.hid (cK' p k0 hk0)
  have p0 : (0 : Int) ≤ (p : Int) := by omega
  have p1 : (p : Int) < (K.length : Int) := by omega
  have c1 : decide (k0 ≤ y) = false := by simpa using c
  subst hvK
  clear hK cK' hk0
  have hq : ∀ w2, Keeps (fun _ => False) ((w.alloc (.cells #[vI, (.slice (some ⟨bK, oK, none⟩) K.length cK), vT, .int .i64 t] 46)).alloc (.cells #[.int .i64 2, .int .i64 i, .int .i64 y] 38)) w2 →
      w2.heap[w.heap.size]? = some (.cells #[vI, (.slice (some ⟨bK, oK, none⟩) K.length cK), vT, .int .i64 t] 46 (0, 0)) ∧ w2.heap[w.heap.size + 1]? = some (.cells #[.int .i64 2, .int .i64 i, .int .i64 y] 38 (0, 0)) := fun w2 hk => by
    have e1 := heap_alloc_new w (.cells #[vI, (.slice (some ⟨bK, oK, none⟩) K.length cK), vT, .int .i64 t] 46)
    have e2 := heap_alloc_new (w.alloc (.cells #[vI, (.slice (some ⟨bK, oK, none⟩) K.length cK), vT, .int .i64 t] 46)) (.cells #[.int .i64 2, .int .i64 i, .int .i64 y] 38)
    rw [World.size_alloc] at e2
    exact ⟨hk.heap (pair_alloc e1) (fun h => h), hk.heap e2 (fun h => h)⟩
  have HQ := Lib.hid hq
  have HA : Hid (∀ o o', Keeps (fun _ => False) w ((w.alloc o).alloc o')) := fun o o' => ((Keeps.refl _ _).alloc o).alloc o'
  have HI := Lib.hid hI
  have HP := Lib.hid hp
  clear hq hI hp
  go_enter Try.func20, Try.ntmps20
  go_wp2_with fail
  refine (in_any _ _ _ _).mono ?_; rintro e w1 ⟨rfl, rfl⟩
  rw [h]
  go_wp2_with fail
  refine (in_any _ _ _ _).mono ?_; rintro e w1 ⟨rfl, rfl⟩
  rw [h2]
  go_wp2_with fail
  refine (in_any _ _ _ _).mono ?_; rintro e w1 ⟨rfl, rfl⟩
  rw [h3]
  go_wp2_with fail
  refine (place_any _ _ _ _ t I _ (HI.out.keeps0 (HA.out _ _))).mono ?_; rintro e w2 ⟨rfl, hk2⟩
  rw [HP.out]
  have b2 := HQ.out w2 hk2
  have o0 : w2.cell? ⟨w.heap.size + 1, 0, none⟩ = some (.int .i64 2) := by rw [cell_of_blk b2.2]; rfl
  have o2 : w2.cell? ⟨w.heap.size + 1, 2, none⟩ = some (.int .i64 y) := by rw [cell_of_blk b2.2]; rfl
  have q0 : w2.cell? ⟨w.heap.size, 0, none⟩ = some vI := by rw [cell_of_blk b2.1]; rfl
  have q1 : w2.cell? ⟨w.heap.size, 1, none⟩ = some (.slice (some ⟨bK, oK, none⟩) K.length cK) := by rw [cell_of_blk b2.1]; rfl
  have KW := Lib.hid ((HA.out _ _).trans hk2)
  clear hk2 b2
  have ek := KW.out.cell EK.out (fun h => h)
  go_wp2_with fail
  go_quiet (fail)
  go_step
  go_wp2_with fail
  go_ret
  exact ⟨rfl, KW.out.drewN _⟩

set_option maxHeartbeats 1000000 in
theorem code_3a (w : World) (vI vK vT : Value) (t p0 : Int) (I : List Int) (hI : Ints w vI I) (h : inB 3 1 4 = true) (h2 : inB 0 0 30 = true) (h3 : inB 0 0 1000000 = true) (hp : placeI I 0 = p0) (hl : I.length = 0) :
    Calls Try.prog 20 #[.agg #[vI, vK, vT, .int .i64 t], .agg #[.int .i64 3, .int .i64 0, .int .i64 0]] w fun e w' => e = .returned (.int .i64 11) ∧ Keeps (fun _ => False) w w' := by
  obtain ⟨aI, cI, hvI, mI⟩ := hI.form
  subst hvI
  rw [hl] at hI ⊢
  have hq : ∀ w2, Keeps (fun _ => False) ((w.alloc (.cells #[(.slice aI 0 cI), vK, vT, .int .i64 t] 46)).alloc (.cells #[.int .i64 3, .int .i64 0, .int .i64 0] 38)) w2 →
      w2.heap[w.heap.size]? = some (.cells #[(.slice aI 0 cI), vK, vT, .int .i64 t] 46 (0, 0)) ∧ w2.heap[w.heap.size + 1]? = some (.cells #[.int .i64 3, .int .i64 0, .int .i64 0] 38 (0, 0)) := fun w2 hk => by
    have e1 := heap_alloc_new w (.cells #[(.slice aI 0 cI), vK, vT, .int .i64 t] 46)
    have e2 := heap_alloc_new (w.alloc (.cells #[(.slice aI 0 cI), vK, vT, .int .i64 t] 46)) (.cells #[.int .i64 3, .int .i64 0, .int .i64 0] 38)
    rw [World.size_alloc] at e2
    exact ⟨hk.heap (pair_alloc e1) (fun h => h), hk.heap e2 (fun h => h)⟩
  have HQ := Lib.hid hq
  have HA : Hid (∀ o o', Keeps (fun _ => False) w ((w.alloc o).alloc o')) := fun o o' => ((Keeps.refl _ _).alloc o).alloc o'
  have HI := Lib.hid hI
  have HP := Lib.hid hp
  clear hq hI hp
  go_enter Try.func20, Try.ntmps20
  go_wp2_with fail
  refine (in_any _ _ _ _).mono ?_; rintro e w1 ⟨rfl, rfl⟩
  rw [h]
  go_wp2_with fail
  refine (in_any _ _ _ _).mono ?_; rintro e w1 ⟨rfl, rfl⟩
  rw [h2]
  go_wp2_with fail
  refine (in_any _ _ _ _).mono ?_; rintro e w1 ⟨rfl, rfl⟩
  rw [h3]
  go_wp2_with fail
  refine (place_any _ _ _ _ t I _ (HI.out.keeps0 (HA.out _ _))).mono ?_; rintro e w2 ⟨rfl, hk2⟩
  rw [HP.out]
  have b2 := HQ.out w2 hk2
  have o0 : w2.cell? ⟨w.heap.size + 1, 0, none⟩ = some (.int .i64 3) := by rw [cell_of_blk b2.2]; rfl
  have o2 : w2.cell? ⟨w.heap.size + 1, 2, none⟩ = some (.int .i64 0) := by rw [cell_of_blk b2.2]; rfl
  have q0 : w2.cell? ⟨w.heap.size, 0, none⟩ = some (.slice aI 0 cI) := by rw [cell_of_blk b2.1]; rfl
  have q1 : w2.cell? ⟨w.heap.size, 1, none⟩ = some vK := by rw [cell_of_blk b2.1]; rfl
  have KW := Lib.hid ((HA.out _ _).trans hk2)
  clear hk2 b2
  go_wp2_with fail
  go_quiet (fail)
  go_step
  go_wp2_with fail
  go_ret
  exact ⟨rfl, KW.out.drewN _⟩

set_option maxHeartbeats 1000000 in
theorem code_3b (w : World) (vI vK vT : Value) (t p0 : Int) (I : List Int) (hI : Ints w vI I) (h : inB 3 1 4 = true) (h2 : inB 0 0 30 = true) (h3 : inB 0 0 1000000 = true) (hp : placeI I 0 = p0) (hl : 0 < I.length) :
    Calls Try.prog 20 #[.agg #[vI, vK, vT, .int .i64 t], .agg #[.int .i64 3, .int .i64 0, .int .i64 0]] w fun e w' => e = .returned (.int .i64 0) ∧ Keeps (fun _ => False) w w' := by
  obtain ⟨aI, cI, hvI, mI⟩ := hI.form
  subst hvI
  have c1 : ((I.length : Int) == 0) = false := by simp; intro e; rw [e] at hl; simp at hl
  have hq : ∀ w2, Keeps (fun _ => False) ((w.alloc (.cells #[(.slice aI I.length cI), vK, vT, .int .i64 t] 46)).alloc (.cells #[.int .i64 3, .int .i64 0, .int .i64 0] 38)) w2 →
      w2.heap[w.heap.size]? = some (.cells #[(.slice aI I.length cI), vK, vT, .int .i64 t] 46 (0, 0)) ∧ w2.heap[w.heap.size + 1]? = some (.cells #[.int .i64 3, .int .i64 0, .int .i64 0] 38 (0, 0)) := fun w2 hk => by
    have e1 := heap_alloc_new w (.cells #[(.slice aI I.length cI), vK, vT, .int .i64 t] 46)
    have e2 := heap_alloc_new (w.alloc (.cells #[(.slice aI I.length cI), vK, vT, .int .i64 t] 46)) (.cells #[.int .i64 3, .int .i64 0, .int .i64 0] 38)
    rw [World.size_alloc] at e2
    exact ⟨hk.heap (pair_alloc e1) (fun h => h), hk.heap e2 (fun h => h)⟩
  have HQ := Lib.hid hq
  have HA : Hid (∀ o o', Keeps (fun _ => False) w ((w.alloc o).alloc o')) := fun o o' => ((Keeps.refl _ _).alloc o).alloc o'
  have HI := Lib.hid hI
  have HP := Lib.hid hp
  clear hq hI hp
  go_enter Try.func20, Try.ntmps20
  go_wp2_with fail
  refine (in_any _ _ _ _).mono ?_; rintro e w1 ⟨rfl, rfl⟩
  rw [h]
  go_wp2_with fail
  refine (in_any _ _ _ _).mono ?_; rintro e w1 ⟨rfl, rfl⟩
  rw [h2]
  go_wp2_with fail
  refine (in_any _ _ _ _).mono ?_; rintro e w1 ⟨rfl, rfl⟩
  rw [h3]
  go_wp2_with fail
  refine (place_any _ _ _ _ t I _ (HI.out.keeps0 (HA.out _ _))).mono ?_; rintro e w2 ⟨rfl, hk2⟩
  rw [HP.out]
  have b2 := HQ.out w2 hk2
  have o0 : w2.cell? ⟨w.heap.size + 1, 0, none⟩ = some (.int .i64 3) := by rw [cell_of_blk b2.2]; rfl
  have o2 : w2.cell? ⟨w.heap.size + 1, 2, none⟩ = some (.int .i64 0) := by rw [cell_of_blk b2.2]; rfl
  have q0 : w2.cell? ⟨w.heap.size, 0, none⟩ = some (.slice aI I.length cI) := by rw [cell_of_blk b2.1]; rfl
  have q1 : w2.cell? ⟨w.heap.size, 1, none⟩ = some vK := by rw [cell_of_blk b2.1]; rfl
  have KW := Lib.hid ((HA.out _ _).trans hk2)
  clear hk2 b2
  go_wp2_with fail
  go_quiet (fail)
  go_step
  go_wp2_with fail
  go_ret
  exact ⟨rfl, KW.out.drewN _⟩

set_option maxHeartbeats 1000000 in
theorem code_4a (w : World) (vI vK vT : Value) (t i : Int) (I : List Int) (hI : Ints w vI I) (h : inB 4 1 4 = true) (h2 : inB i 0 30 = true) (h3 : inB 0 0 1000000 = true) (hp : placeI I i = -1) :
    Calls Try.prog 20 #[.agg #[vI, vK, vT, .int .i64 t], .agg #[.int .i64 4, .int .i64 i, .int .i64 0]] w fun e w' => e = .returned (.int .i64 6) ∧ Keeps (fun _ => False) w w' := by
  have hq : ∀ w2, Keeps (fun _ => False) ((w.alloc (.cells #[vI, vK, vT, .int .i64 t] 46)).alloc (.cells #[.int .i64 4, .int .i64 i, .int .i64 0] 38)) w2 →
      w2.heap[w.heap.size]? = some (.cells #[vI, vK, vT, .int .i64 t] 46 (0, 0)) ∧ w2.heap[w.heap.size + 1]? = some (.cells #[.int .i64 4, .int .i64 i, .int .i64 0] 38 (0, 0)) := fun w2 hk => by
    have e1 := heap_alloc_new w (.cells #[vI, vK, vT, .int .i64 t] 46)
    have e2 := heap_alloc_new (w.alloc (.cells #[vI, vK, vT, .int .i64 t] 46)) (.cells #[.int .i64 4, .int .i64 i, .int .i64 0] 38)
    rw [World.size_alloc] at e2
    exact ⟨hk.heap (pair_alloc e1) (fun h => h), hk.heap e2 (fun h => h)⟩
  have HQ := Lib.hid hq
  have HA : Hid (∀ o o', Keeps (fun _ => False) w ((w.alloc o).alloc o')) := fun o o' => ((Keeps.refl _ _).alloc o).alloc o'
  have HI := Lib.hid hI
  have HP := Lib.hid hp
  clear hq hI hp
  go_enter Try.func20, Try.ntmps20
  go_wp2_with fail
  refine (in_any _ _ _ _).mono ?_; rintro e w1 ⟨rfl, rfl⟩
  rw [h]
  go_wp2_with fail
  refine (in_any _ _ _ _).mono ?_; rintro e w1 ⟨rfl, rfl⟩
  rw [h2]
  go_wp2_with fail
  refine (in_any _ _ _ _).mono ?_; rintro e w1 ⟨rfl, rfl⟩
  rw [h3]
  go_wp2_with fail
  refine (place_any _ _ _ _ t I _ (HI.out.keeps0 (HA.out _ _))).mono ?_; rintro e w2 ⟨rfl, hk2⟩
  rw [HP.out]
  have b2 := HQ.out w2 hk2
  have o0 : w2.cell? ⟨w.heap.size + 1, 0, none⟩ = some (.int .i64 4) := by rw [cell_of_blk b2.2]; rfl
  have o2 : w2.cell? ⟨w.heap.size + 1, 2, none⟩ = some (.int .i64 0) := by rw [cell_of_blk b2.2]; rfl
  have q0 : w2.cell? ⟨w.heap.size, 0, none⟩ = some vI := by rw [cell_of_blk b2.1]; rfl
  have q1 : w2.cell? ⟨w.heap.size, 1, none⟩ = some vK := by rw [cell_of_blk b2.1]; rfl
  have KW := Lib.hid ((HA.out _ _).trans hk2)
  clear hk2 b2
  go_wp2_with fail
  go_ret
  exact ⟨rfl, KW.out⟩

set_option maxHeartbeats 1000000 in
theorem code_4b (w : World) (vI vK vT : Value) (t i : Int) (I : List Int) (hI : Ints w vI I) (h : inB 4 1 4 = true) (h2 : inB i 0 30 = true) (h3 : inB 0 0 1000000 = true) (p : Nat) (hp : placeI I i = (p : Int)) :
    Calls Try.prog 20 #[.agg #[vI, vK, vT, .int .i64 t], .agg #[.int .i64 4, .int .i64 i, .int .i64 0]] w fun e w' => e = .returned (.int .i64 0) ∧ Keeps (fun _ => False) w w' := by
  have hq : ∀ w2, Keeps (fun _ => False) ((w.alloc (.cells #[vI, vK, vT, .int .i64 t] 46)).alloc (.cells #[.int .i64 4, .int .i64 i, .int .i64 0] 38)) w2 →
      w2.heap[w.heap.size]? = some (.cells #[vI, vK, vT, .int .i64 t] 46 (0, 0)) ∧ w2.heap[w.heap.size + 1]? = some (.cells #[.int .i64 4, .int .i64 i, .int .i64 0] 38 (0, 0)) := fun w2 hk => by
    have e1 := heap_alloc_new w (.cells #[vI, vK, vT, .int .i64 t] 46)
    have e2 := heap_alloc_new (w.alloc (.cells #[vI, vK, vT, .int .i64 t] 46)) (.cells #[.int .i64 4, .int .i64 i, .int .i64 0] 38)
    rw [World.size_alloc] at e2
    exact ⟨hk.heap (pair_alloc e1) (fun h => h), hk.heap e2 (fun h => h)⟩
  have HQ := Lib.hid hq
  have HA : Hid (∀ o o', Keeps (fun _ => False) w ((w.alloc o).alloc o')) := fun o o' => ((Keeps.refl _ _).alloc o).alloc o'
  have HI := Lib.hid hI
  have HP := Lib.hid hp
  clear hq hI hp
  go_enter Try.func20, Try.ntmps20
  go_wp2_with fail
  refine (in_any _ _ _ _).mono ?_; rintro e w1 ⟨rfl, rfl⟩
  rw [h]
  go_wp2_with fail
  refine (in_any _ _ _ _).mono ?_; rintro e w1 ⟨rfl, rfl⟩
  rw [h2]
  go_wp2_with fail
  refine (in_any _ _ _ _).mono ?_; rintro e w1 ⟨rfl, rfl⟩
  rw [h3]
  go_wp2_with fail
  refine (place_any _ _ _ _ t I _ (HI.out.keeps0 (HA.out _ _))).mono ?_; rintro e w2 ⟨rfl, hk2⟩
  rw [HP.out]
  have b2 := HQ.out w2 hk2
  have o0 : w2.cell? ⟨w.heap.size + 1, 0, none⟩ = some (.int .i64 4) := by rw [cell_of_blk b2.2]; rfl
  have o2 : w2.cell? ⟨w.heap.size + 1, 2, none⟩ = some (.int .i64 0) := by rw [cell_of_blk b2.2]; rfl
  have q0 : w2.cell? ⟨w.heap.size, 0, none⟩ = some vI := by rw [cell_of_blk b2.1]; rfl
  have q1 : w2.cell? ⟨w.heap.size, 1, none⟩ = some vK := by rw [cell_of_blk b2.1]; rfl
  have KW := Lib.hid ((HA.out _ _).trans hk2)
  clear hk2 b2
  go_wp2_with fail
  go_quiet (fail)
  go_step
  go_wp2_with fail
  go_ret
  exact ⟨rfl, KW.out.drewN _⟩


end Go.Proofs.Ytlghadoejmnllaa
