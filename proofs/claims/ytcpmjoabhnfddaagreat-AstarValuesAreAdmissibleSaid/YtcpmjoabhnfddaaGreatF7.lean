/- A search from both ends, in plain Lean: the way back from a state, the measure of the search, its start, and the best plan at its end. A search from both ends, in plain Lean: the state in the middle, and the costs of both parts. A search from both ends, in plain Lean: the arcs of both sides. strips.Contains, Update, Can, Next. strips.Solves, Cost, Play. CostOf: the cost of a plan. novelty.Plan. A search by novelty of a width that no state exceeds finds a plan if there is one, in plain words. The reference's BestPlans and BestFault. The reference's BestFault. bothends: what meet's two sides say of the task's plans (plain), and what a search for best plans hands back. A map with words as keys, as a function that is not defined everywhere. bothends: a side in memory, and (*side).back. bothends: the closure that notes where the sides meet (meet$1). bothends: newSide. space.Path along a chain of parents that may have changed on the way. The queue's First: the least key, and whether there is one. astar: what a best-first search with an admissible heuristic finds, in plain Lean. bothends: the rows of arcs of both sides, as they grow; the cells of a row of arcs. bothends: both sides in memory, apart from each other, and what one call of advance leaves of them. bothends: both sides in memory as meet has made them. astar: what a best-first search has in memory, and a heuristic as a function value. No condition beyond what each theorem says. -/
import Derived.Test.YtcpmjoabhnfddaaGreatF6
import Derived.Sort.OwnSortedInts
import Derived.Test.YtcpmjoabhnfddaaGreatF4
import Derived.Test.YtcpmjoabhnfddaaGreatF1
import Derived.Test.YtcpmjoabhnfddaaGreatF3
import Derived.BigQuiet
import Derived.Test.YtcpmjoabhnfddaaGreatF5

namespace Go.Proofs.YtcpmjoabhnfddaaGreat

/-- The operators from a state back to the end of a side. -/
inductive Chain (par : Nat → Option SArc) : Nat → List Nat → Nat → Prop
  | nil {x : Nat} : par x = none → Chain par x [] x
  | cons {x : Nat} {a : SArc} {out : List Nat} {e : Nat} : par x = some a → Chain par a.to out e → Chain par x (a.op :: out) e

section
variable {G : Nat → List SArc} {S0 : Nat → Prop} {L : List Nat} {C : Int} {P : Nat → Option Int} {par : Nat → Option SArc} {A : List (Int × Int)} {s : Nat}
/-- Every state with a price has a way back; the states on it fall in price, so it is no longer than L. -/
theorem SideI.chain (h : SideI G S0 L C P par A s []) (hC : ∀ y, ∀ b ∈ G y, 1 ≤ b.price) [∀ x, Decidable (S0 x)] : ∀ (n : Nat) (x : Nat) (p : Int), P x = some p → p.toNat ≤ n →
    ∃ (out : List Nat) (e : Nat) (vs : List Nat), Chain par x out e ∧ S0 e ∧ vs.length = out.length ∧ vs.Nodup ∧ (∀ y ∈ vs, ∃ q, P y = some q ∧ q ≤ p ∧ y ∈ L)
  | n, x, p, hp, hn => by
    by_cases hs : S0 x
    · exact ⟨[], x, [], .nil (h.start x hs).2, hs, rfl, List.nodup_nil, by simp⟩
    · obtain ⟨a, ha, hg, q, hq, hle⟩ := h.from_ x p hp hs
      have h1 := hC _ _ hg
      simp only at h1
      have hq0 := (h.lo _ q hq).1
      cases n with
      | zero => omega
      | succ n =>
        obtain ⟨out, e, vs, hc, he, hl, hnd, hall⟩ := SideI.chain h hC n a.to q hq (by omega)
        refine ⟨a.op :: out, e, x :: vs, .cons ha hc, he, by simp [hl], List.nodup_cons.2 ⟨fun hx => ?_, hnd⟩, fun y hy => ?_⟩
        · obtain ⟨q', hq', hle', _⟩ := hall x hx
          rw [hp] at hq'; cases hq'; omega
        · rcases List.mem_cons.1 hy with rfl | hy
          · exact ⟨p, hp, Int.le_refl _, h.dom _ _ hp⟩
          · obtain ⟨q', hq', hle', hL⟩ := hall y hy
            exact ⟨q', hq', by omega, hL⟩
theorem SideI.back (h : SideI G S0 L C P par A s []) (hC : ∀ y, ∀ b ∈ G y, 1 ≤ b.price) [∀ x, Decidable (S0 x)] {x : Nat} {p : Int} (hp : P x = some p) : ∃ out e, Chain par x out e ∧ S0 e ∧ out.length ≤ L.length := by
  obtain ⟨out, e, vs, hc, he, hl, hnd, hall⟩ := h.chain hC p.toNat x p hp (Nat.le_refl _)
  exact ⟨out, e, hc, he, by rw [← hl]; exact nodup_sub_length hnd (fun y hy => (hall y hy).choose_spec.2.2)⟩
/-- From the front side: the way back, turned round, leads to the state, for no more than its price. -/
theorem SideI.chainF {ops : List Wop} (h : SideI G S0 L C P par A s []) (hG : ∀ y, ∀ b ∈ G y, ∃ o, ops[b.op]? = some o ∧ o.can y = true ∧ b.to = o.next y ∧ b.price = 4096 * o.cost + 1) {x e : Nat} {out : List Nat} (hc : Chain par x out e) : ∀ {p : Int}, P x = some p → runOps ops e out.reverse = some x ∧ wayN 4096 1 ops out.reverse ≤ p := by
  induction hc with
  | nil hn => intro p hp; exact ⟨rfl, by rw [List.reverse_nil, wayN_nil]; exact (h.lo _ p hp).1⟩
  | @cons x a out e ha hc ih =>
    intro p hp
    have hs : ¬ S0 x := fun hs => by rw [(h.start x hs).2] at ha; cases ha
    obtain ⟨a', ha', hg, q, hq, hle⟩ := h.from_ x p hp hs
    rw [ha] at ha'; cases ha'
    obtain ⟨o, h1, h2, h3, h4⟩ := hG _ _ hg
    simp only at h1 h2 h3 h4
    obtain ⟨i1, i2⟩ := ih hq
    rw [List.reverse_cons, wayN_append, wayN_one h1, runOps_append, i1]
    refine ⟨?_, by omega⟩
    simp only [Option.bind_some, runOps, h1, h2, if_true]
    rw [← h3]
/-! ### the measure -/
def weightB (L : List Nat) (m : Nat) (P : Nat → Option Int) : Nat := (L.map fun x => match P x with | some p => p.toNat | none => m).sum
theorem weightB_put {m x : Nat} {v : Int} (hv : v.toNat < m) : ∀ {L : List Nat}, x ∈ L → (∀ q, P x = some q → v.toNat < q.toNat) → weightB L m (putP P x v) < weightB L m P := by
  have one : ∀ y, (match putP P x v y with | some p => p.toNat | none => m) ≤ (match P y with | some p => p.toNat | none => m) ∨ y = x := fun y => by
    by_cases hy : y = x
    · exact .inr hy
    · rw [putP_other P v hy]; exact .inl (Nat.le_refl _)
  have hx0 : (∀ q, P x = some q → v.toNat < q.toNat) → (match putP P x v x with | some p => p.toNat | none => m) < (match P x with | some p => p.toNat | none => m) := fun h => by
    rw [putP_same]
    cases hq : P x with
    | none => exact hv
    | some q => exact h q hq
  have le : (∀ q, P x = some q → v.toNat < q.toNat) → ∀ L : List Nat, weightB L m (putP P x v) ≤ weightB L m P := fun h L => by
    induction L with
    | nil => exact Nat.le_refl _
    | cons y r ih =>
      unfold weightB at ih ⊢
      rw [List.map_cons, List.map_cons, List.sum_cons, List.sum_cons]
      rcases one y with h1 | rfl
      · omega
      · have := hx0 h; omega
  intro L
  induction L with
  | nil => intro h; simp at h
  | cons y r ih =>
    intro hx h
    have hle := le h r
    have hlt := hx0 h
    by_cases hy : y = x
    · subst hy
      unfold weightB at hle ⊢
      rw [List.map_cons, List.map_cons, List.sum_cons, List.sum_cons]; omega
    · have hxr : x ∈ r := by
        rcases List.mem_cons.1 hx with e | e
        · exact absurd e.symm hy
        · exact e
      have ih' := ih hxr h
      have h1 := one y
      unfold weightB at ih' ⊢
      rw [List.map_cons, List.map_cons, List.sum_cons, List.sum_cons]
      rcases h1 with h1 | h1
      · omega
      · exact absurd h1 hy
end

/-! ### the start -/
def startP (S : List Nat) : Nat → Option Int := fun x => if x ∈ S then some 0 else none
def startA (S : List Nat) : List (Int × Int) := S.foldl (fun A (x : Nat) => putA A (x : Int) 0) []
theorem startA_mem (S : List Nat) : ∀ z, z ∈ startA S ↔ ∃ x ∈ S, z = ((x : Int), 0) := by
  have key : ∀ (S : List Nat) (A : List (Int × Int)), (∀ z ∈ A, z.2 = 0) → ∀ z, z ∈ S.foldl (fun A (x : Nat) => putA A (x : Int) 0) A ↔ z ∈ A ∨ ∃ x ∈ S, z = ((x : Int), 0) := by
    intro S
    induction S with
    | nil => intro A _ z; simp
    | cons x r ih =>
      intro A hA z
      rw [List.foldl_cons, ih _ (fun z hz => by
        rcases mem_putA.1 hz with ⟨h, _⟩ | rfl
        · exact hA z h
        · rfl), mem_putA]
      constructor
      · rintro ((⟨h, _⟩ | rfl) | ⟨y, hy, rfl⟩)
        · exact .inl h
        · exact .inr ⟨x, by simp, rfl⟩
        · exact .inr ⟨y, by simp [hy], rfl⟩
      · rintro (h | ⟨y, hy, rfl⟩)
        · by_cases e : z.1 = (x : Int)
          · refine .inl (.inr ?_)
            have := hA z h
            cases z; simp at this e; rw [this, e]
          · exact .inl (.inl ⟨h, e⟩)
        · rcases List.mem_cons.1 hy with rfl | hy
          · exact .inl (.inr rfl)
          · exact .inr ⟨y, hy, rfl⟩
  intro z
  unfold startA
  rw [key S [] (by simp)]; simp
theorem SideI.init {G : Nat → List SArc} {L S : List Nat} {C : Int} (hC : 0 ≤ C) (hS : ∀ x ∈ S, x ∈ L) (s : Nat) : SideI G (fun x => x ∈ S) L C (startP S) (fun _ => none) (startA S) s [] := by
  have hP : ∀ {x : Nat} {p : Int}, startP S x = some p → x ∈ S ∧ p = 0 := fun {x p} h => by
    unfold startP at h
    split at h
    · cases h; exact ⟨by assumption, rfl⟩
    · cases h
  refine ⟨fun x p h => hS x (hP h).1, fun x p h => ?_, fun x hx => ⟨by unfold startP; rw [if_pos hx], rfl⟩, fun x p h hn => absurd (hP h).1 hn, fun z hz => ?_, fun x p h => .inl ?_⟩
  · rw [(hP h).2]; exact ⟨Int.le_refl _, Int.mul_nonneg hC (Int.natCast_nonneg _)⟩
  · obtain ⟨x, hx, rfl⟩ := (startA_mem S z).1 hz
    exact ⟨x, rfl, by unfold startP; rw [if_pos hx]⟩
  · rw [(hP h).2]; exact (startA_mem S _).2 ⟨x, (hP h).1, rfl⟩
end Go.Proofs.YtcpmjoabhnfddaaGreat

namespace Go.Proofs.YtcpmjoabhnfddaaGreat

theorem wayN_split (ops : List Wop) (p : List Nat) : wayN 4096 1 ops p = 4096 * costN ops p + (p.length : Int) := by unfold wayN; omega

end Go.Proofs.YtcpmjoabhnfddaaGreat

namespace Go.Proofs.YtcpmjoabhnfddaaGreat

def arcOf (e : Stp) : SArc := ⟨e.op, 4096 * e.cost + 1, e.to⟩
/-- The arcs from the states of a list. -/
def nextG (ops : List Wop) (ss : List Nat) (x : Nat) : List SArc := if x ∈ ss then (wsteps ops x).map arcOf else []
section
variable {ops : List Wop} {L : List Nat}
theorem nextG_all : ∀ x o (i : Nat), x ∈ L → ops[i]? = some o → o.can x = true → (⟨i, 4096 * o.cost + 1, o.next x⟩ : SArc) ∈ nextG ops L x := fun x o i hx ho hc => by
  unfold nextG
  rw [if_pos hx]
  exact List.mem_map.2 ⟨⟨i, o.cost, o.next x⟩, wsteps_mem.2 ⟨o, ho, hc, rfl, rfl⟩, rfl⟩
theorem nextG_only : ∀ y, ∀ b ∈ nextG ops L y, ∃ o, ops[b.op]? = some o ∧ o.can y = true ∧ b.to = o.next y ∧ b.price = 4096 * o.cost + 1 := fun y b hb => by
  unfold nextG at hb
  split at hb
  · obtain ⟨e, he, rfl⟩ := List.mem_map.1 hb
    obtain ⟨o, h1, h2, h3, h4⟩ := wsteps_mem.1 he
    exact ⟨o, h1, h2, h4, by unfold arcOf; simp only; rw [h3]⟩
  · simp at hb
theorem nextG_in (hsh : Shut ops L) : ∀ y, ∀ b ∈ nextG ops L y, b.to ∈ L := fun y b hb => by
  obtain ⟨o, h1, h2, h3, _⟩ := nextG_only y b hb
  unfold nextG at hb
  split at hb
  · rename_i hy; rw [h3]; exact hsh.2 y hy o (List.mem_of_getElem? h1) h2
  · simp at hb
theorem nextG_price (h0 : ∀ o ∈ ops, 0 ≤ o.cost ∧ o.cost ≤ 100) : ∀ y, ∀ b ∈ nextG ops L y, 1 ≤ b.price ∧ b.price ≤ 409601 := fun y b hb => by
  obtain ⟨o, h1, _, _, h4⟩ := nextG_only y b hb
  have := h0 o (List.mem_of_getElem? h1); omega
end

end Go.Proofs.YtcpmjoabhnfddaaGreat

namespace Go.Proofs.YtcpmjoabhnfddaaGreat
open Go.RowKit Go.Sort Go.Proofs

/-! ### Contains -/
def Behind (s : List Int) (x : Int) (i : Nat) : Prop := i ≤ s.length ∧ ∀ j y, j < i → s[j]? = some y → y < x
theorem behind_end {s : List Int} {x : Int} {i : Nat} (h : Behind s x i) (hi : s.length ≤ i) : x ∉ s := fun hm => by
  obtain ⟨j, hj⟩ := List.mem_iff_getElem?.1 hm
  have := (List.getElem?_eq_some_iff.1 hj).1
  have := h.2 j x (by omega) hj
  omega
theorem behind_not {s : List Int} (hs : s.Pairwise (· < ·)) {x y : Int} {i : Nat} (h : Behind s x i) (hy : s[i]? = some y) (hxy : x < y) : x ∉ s := fun hm => by
  obtain ⟨j, hj⟩ := List.mem_iff_getElem?.1 hm
  by_cases hji : j < i
  · have := h.2 j x hji hj; omega
  · obtain ⟨hjl, ej⟩ := List.getElem?_eq_some_iff.1 hj
    obtain ⟨hil, ei⟩ := List.getElem?_eq_some_iff.1 hy
    rcases Nat.lt_or_ge i j with h2 | h2
    · have := List.pairwise_iff_getElem.1 hs i j hil hjl h2; omega
    · have : i = j := by omega
      subst this; omega
theorem subB_false {a b : List Int} {x : Int} (hx : x ∈ a) (hn : x ∉ b) : subB a b = false := by
  unfold subB; rw [List.all_eq_false]; exact ⟨x, hx, by simp [hn]⟩

set_option maxHeartbeats 1000000 in
theorem contains_any (w : World) (vs vp : Value) (s part : List Int) (hs : Ints w vs s) (hp : Ints w vp part) (ss : s.Pairwise (· < ·)) (sp : part.Pairwise (· < ·)) :
    Calls Tryz.prog 133 #[vs, vp] w fun e w' => e = .returned (.bool (subB part s)) ∧ w = w' := by
  obtain ⟨ao, ca, h1, ma⟩ := hs.form
  obtain ⟨po, cp, h2, mp⟩ := hp.form
  have CS := Lib.hid (hs.cell h1); have CP := Lib.hid (hp.cell h2); have SS := Lib.hid ss; have SP := Lib.hid sp
  subst h1 h2
  clear hs hp ss sp
  go_enter Tryz.func133, Tryz.ntmps133
  go_wp2_with fail
  go_loop [5, 10] (fun v5 v10 => ∃ k i : Nat, k ≤ part.length ∧ v10 = .int .i64 (k : Int) ∧ v5 = .int .i64 (i : Int) ∧ i ≤ s.length ∧ subB (part.take k) s = true ∧ ∀ x, part[k]? = some x → Behind s x i) (fun _ v10 => part.length - (intOf v10).toNat)
  case atStart => exact ⟨0, 0, Nat.zero_le _, rfl, rfl, Nat.zero_le _, rfl, fun x _ => ⟨Nat.zero_le _, fun j _ hj => by omega⟩⟩
  case round =>
    obtain ⟨k, i, hk, rfl, rfl, hi, ht, hb⟩ := hrel
    have HT := Lib.hid ht; have HB := Lib.hid hb
    clear ht hb
    by_cases hlt : k < part.length
    · obtain ⟨bp, op, rfl, hc⟩ := CP.out (by omega)
      obtain ⟨x, hx⟩ : ∃ x, part[k]? = some x := ⟨_, List.getElem?_eq_getElem hlt⟩
      have hcx := hc k _ hx
      have HX := Lib.hid hx
      have HB0 := Lib.hid (HB.out x hx)
      clear hc hx HB
      go_wp2_with fail
      go_loop [5] (fun v5 => ∃ i : Nat, v5 = .int .i64 (i : Int) ∧ Behind s x i) (fun v5 => s.length - (intOf v5).toNat)
      case atStart => exact ⟨i, rfl, HB0.out⟩
      case round =>
        obtain ⟨i, rfl, hb⟩ := hrel
        have hil := hb.1
        have HB := Lib.hid hb
        clear hb
        by_cases hin : i < s.length
        · obtain ⟨bs, os, rfl, hc⟩ := CS.out (by omega)
          obtain ⟨y, hy⟩ : ∃ y, s[i]? = some y := ⟨_, List.getElem?_eq_getElem hin⟩
          have hcy := hc i _ hy
          have HY := Lib.hid hy
          clear hc hy
          by_cases hyx : y < x
          · have HB1 : Hid (Behind s x (i + 1)) := by
              unfold Hid
              refine ⟨by omega, fun j z hj hz => ?_⟩
              rcases Nat.lt_or_ge j i with h | h
              · exact HB.out.2 j z h hz
              · have : j = i := by omega
                subst this
                rw [HY.out] at hz; cases hz; exact hyx
            go_wp2_with fail
            go_round
            case rel => exact ⟨i + 1, by go_num, HB1.out⟩
            case measure => simp [intOf]; omega
          · by_cases hne : y = x
            · subst hne
              have HN : Hid (subB (part.take (k + 1)) s = true) := by
                unfold Hid
                rw [take_getS HX.out]
                have := HT.out
                unfold subB at this ⊢
                rw [List.all_append, this]
                simp [List.mem_of_getElem? HY.out]
              have HB2 : Hid (∀ z, part[k + 1]? = some z → Behind s z i) := by
                unfold Hid
                intro z hz
                obtain ⟨l1, e1⟩ := List.getElem?_eq_some_iff.1 HX.out
                obtain ⟨l2, e2⟩ := List.getElem?_eq_some_iff.1 hz
                have := List.pairwise_iff_getElem.1 SP.out k (k + 1) l1 l2 (by omega)
                refine ⟨HB.out.1, fun j u hj hu => ?_⟩
                have := HB.out.2 j u hj hu
                omega
              have hd1 : decide (y < y) = false := by simp
              have hd2 : (y != y) = false := by simp
              clear hyx
              go_wp2_with fail
              go_round
              case rel => exact ⟨k + 1, i, by omega, by go_num, rfl, hil, HN.out, HB2.out⟩
              case measure => simp [intOf]; omega
            · have hf : Hid (subB part s = false) := by
                unfold Hid
                exact subB_false (List.mem_of_getElem? HX.out) (behind_not SS.out HB.out HY.out (by omega))
              have hd1 : decide (y < x) = false := by simpa using hyx
              have hd2 : (y != x) = true := by simpa using hne
              clear hyx hne
              go_wp2_with fail
              go_ret
              exact ⟨congrArg (fun b => Ending.returned (Value.bool b)) hf.out.symm, rfl⟩
        · have hf : Hid (subB part s = false) := by
            unfold Hid
            exact subB_false (List.mem_of_getElem? HX.out) (behind_end HB.out (by omega))
          have hie : i = s.length := by omega
          subst hie
          clear hin hil
          go_wp2_with fail
          go_ret
          exact ⟨congrArg (fun b => Ending.returned (Value.bool b)) hf.out.symm, rfl⟩
    · have hf : Hid (subB part s = true) := by
        unfold Hid
        have := HT.out
        rwa [List.take_of_length_le (by omega)] at this
      go_wp2_with fail
      go_ret
      exact ⟨congrArg (fun b => Ending.returned (Value.bool b)) hf.out.symm, rfl⟩

/-! ### the library's Sort and Compact over a row of the call's own -/
theorem sortI_any (w : World) (base : Nat) (v : Value) (l : List Int) (hown : w.ownsRow base 3 1 v l.length (l.map (Value.int .i64))) (hlen : l.length < 4611686018427387904) :
    Calls Tryz.prog 166 #[v] w fun e w' => e = .returned (.tuple #[]) ∧ w'.ownsRow base 3 1 v l.length ((l.mergeSort fun x y => decide (x ≤ y)).map (Value.int .i64)) ∧ Keeps (fun b => v.ownBlock = some b) w w' := by
  rcases hown.2 with ⟨rfl, h0⟩ | ⟨g, cap, cur, rfl, hb, hg, hn, hm, hs, ht⟩
  · have hz : l = [] := List.length_eq_zero_iff.1 h0
    subst hz
    refine (Tryz.slices_Sort_int_none none 0 w).mono ?_
    rintro e w' ⟨rfl, rfl⟩
    exact ⟨rfl, by simpa using World.ownsRow_nil _ _ _ _, Keeps.refl _ _⟩
  · have ht' : cur.toList.take l.length = l.map (Value.int .i64) := by simpa using ht
    refine (Tryz.slices_Sort_int g 0 cap l w (holds_of_blockI hg ht') (lt_of_heap hg) hlen).mono ?_
    rintro e w' ⟨rfl, n, os, rfl⟩
    exact ⟨rfl, ownsRow_sortedI (by simp) hb hg hn hm hs, (steady_keeps (grownBy_sortedI _)).mono (fun i _ h => by cases h; rfl)⟩

theorem keeps_putRow {w : World} {g q : Nat} (d : Array Int) : Keeps (fun b => b = g) w (putRow (Value.int .i64) (Sort.ahead w q) g 0 d) := by
  refine ⟨rfl, rfl, rfl, by simp [putRow, mapBlock, Sort.ahead], fun k _ hne => ?_⟩
  have : g ≠ k := fun e => hne e.symm
  simp [putRow, mapBlock, Sort.ahead, Array.getElem?_modify, this]
theorem heap_putRow {w : World} {g q : Nat} {cur : Array Value} {e : TypeId} {fr : Nat × Nat} (d : Array Int) (hb : w.heap[g]? = some (.cells cur e fr)) :
    (putRow (Value.int .i64) (Sort.ahead w q) g 0 d).heap[g]? = some (.cells (putCells (Value.int .i64) 0 d cur) e fr) := by
  simp [putRow, mapBlock, Sort.ahead, Array.getElem?_modify, hb, onCells]

theorem compactI_any (w : World) (base : Nat) (v : Value) (l : List Int) (hown : w.ownsRow base 3 1 v l.length (l.map (Value.int .i64))) (hlen : l.length < 4611686018427387904) :
    Calls Tryz.prog 167 #[v] w fun e w' => ∃ v', e = .returned v' ∧ w'.ownsRow base 3 1 v' (Lib.compact l).length ((Lib.compact l).map (Value.int .i64)) ∧ v'.ownBlock = v.ownBlock ∧ Keeps (fun b => v.ownBlock = some b) w w' := by
  rcases hown.2 with ⟨rfl, h0⟩ | ⟨g, cap, cur, rfl, hb, hg, hn, hm, hs, ht⟩
  · have hz : l = [] := List.length_eq_zero_iff.1 h0
    subst hz
    refine (Tryz.slices_Compact_int_empty none 0 w).mono ?_
    rintro e w' ⟨rfl, rfl⟩
    exact ⟨_, rfl, by simpa [Lib.compact, Lib.compactUpTo] using World.ownsRow_nil _ _ _ _, rfl, Keeps.refl _ _⟩
  · have ht' : cur.toList.take l.length = l.map (Value.int .i64) := by simpa using ht
    have hcl := Lib.compact_length_le l
    refine (Tryz.slices_Compact_int g 0 cap l w (holds_of_blockI hg ht') (by omega) hn).mono ?_
    rintro e w' ⟨rfl, q, rfl⟩
    have hsz : cur.size = cap := by simpa using hs
    have htk := take_putCellsI cur (Lib.compact l ++ List.replicate (l.length - (Lib.compact l).length) 0) (by simp; omega)
    refine ⟨_, rfl, ⟨by simp, .inr ⟨g, cap, _, rfl, hb, heap_putRow _ hg, by omega, hm, by simp [putCells, hs], ?_⟩⟩, rfl, (keeps_putRow _).mono (fun i _ h => by cases h; rfl)⟩
    have := congrArg (List.take (Lib.compact l).length) htk
    rw [List.take_take, List.map_append, List.take_left' (by simp)] at this
    rw [Nat.mul_one]
    rw [Nat.min_eq_left (by simp)] at this
    exact this

/-! ### an append of whatever slice -/
section
variable {P : Program} {w : World}
theorem run_appendS_zero (base : Nat) (t ty e : TypeId) (i : TypeInfo) (size : Nat) (ht : P.underlying t = some (.slice e)) (hi : P.info? e = some i)
    (v : Value) (n : Nat) (xs : List Value) (hown : w.ownsRow base e size v n xs) (ao : Option Addr) (c : Nat) :
    (Builtin.append_ #[t, t] ty #[v, .slice ao 0 c]).run P w = .ok v w := by
  rcases hown.2 with ⟨rfl, rfl⟩ | ⟨g, cap, cur, rfl, _, _, hnc, _⟩
  · cases ao <;> simp [Builtin.append_, run_underlying ht, sizeOf, typeInfo, hi, Builtin.lenOf, Builtin.firstCells, loadCells, loadCellsFrom]
  · cases ao <;> simp [Builtin.append_, run_underlying ht, sizeOf, typeInfo, hi, Builtin.lenOf, Builtin.firstCells, hnc, storeCells, loadCells, loadCellsFrom]
theorem wpList_appendS_zero {ops : Array Oper} {rest : List Oper} {o : Oper} {a : Act} {Q : Exit → Act → World → Prop} (hgd : o.guard = none) (s x : Operand) (t : TypeId)
    (ho : o.op = .call { callee := .builtin .append, args := #[s, x], argTypes := #[t, t] })
    (base : Nat) (e : TypeId) (i : TypeInfo) (size : Nat) (ht : P.underlying t = some (.slice e)) (hi : P.info? e = some i)
    (v : Value) (n : Nat) (xs : List Value) (hs : a.eval s = v) (hown : w.ownsRow base e size v n xs) (ao : Option Addr) (c : Nat) (hx : a.eval x = .slice ao 0 c)
    (h : wpList P ops Q rest (a.put o.dst v) w) : wpList P ops Q (o :: rest) a w := by
  refine wpList_plain hgd fun K hK => ?_
  have hrun := run_appendS_zero (P := P) (w := w) base t o.type e i size ht hi v n xs hown ao c
  unfold Oper.wp
  simp [execOp, ho, resolve, invoke, builtin, hs, hx, hrun, Result.andThen]
  exact hK _ _ h
theorem grownBy_refl (w : World) (row : Option Nat) : w.grownBy w row := ⟨rfl, rfl, rfl, Nat.le_refl _, fun _ _ _ => rfl⟩
/-- append(out, x...) to a row of the call's own, x whatever slice. -/
theorem wpList_append_src {ops : Array Oper} {rest : List Oper} {o : Oper} {a : Act} {Q : Exit → Act → World → Prop} (hgd : o.guard = none) (s x : Operand) (t : TypeId)
    (ho : o.op = .call { callee := .builtin .append, args := #[s, x], argTypes := #[t, t] })
    (base : Nat) (e : TypeId) (i : TypeInfo) (z : Value) (bytes : Nat) (ht : P.underlying t = some (.slice e)) (hi : P.info? e = some i) (hz : i.zero = some z)
    (hsize : i.size = 1) (hby : i.bytes = bytes) (hzs : z.cells.size = 1)
    (v : Value) (n : Nat) (xs : List Value) (hs : a.eval s = v) (hown : w.ownsRow base e 1 v n xs)
    (vx : Value) (m : Nat) (news : List Value) (hx : a.eval x = vx) (hsl : Sl w vx m news) (hl : news.length = m) (h1 : ∀ u ∈ news, u.oneCell' = true)
    (h63 : n + m ≤ maxLen) (hbytes : (n + m) * bytes ≤ 140737488355328) (hbase : base ≤ w.heap.size)
    (h : ∀ v' w', w'.ownsRow base e 1 v' (n + m) (xs ++ news) → w.grownBy w' v.ownBlock → (∀ g, v'.ownBlock = some g → v.ownBlock = some g ∨ w.heap.size ≤ g) → w.drawn ≤ w'.drawn → wpList P ops Q rest (a.put o.dst v') w') : wpList P ops Q (o :: rest) a w := by
  obtain ⟨ao, c, rfl, hm, hc⟩ := hsl
  rcases Nat.eq_zero_or_pos m with h0 | h0
  · subst h0
    have : news = [] := List.length_eq_zero_iff.1 hl
    subst this
    refine wpList_appendS_zero hgd s x t ho base e i 1 ht hi v n xs hs hown ao c hx (h v w (by simpa using hown) (grownBy_refl w _) (fun g hg => .inl hg) (Nat.le_refl _))
  · obtain ⟨b, off, rfl, hcell⟩ := hc h0
    refine wpList_append_d hgd s x t ho base e i z 1 bytes ht hi hz hsize hby hzs (by omega) v n xs hs hown ⟨b, off, none⟩ m c news hx (by omega) (fun j u hj => by
      have h := hcell j u hj
      by_cases hj0 : j = 0
      · subst hj0; simpa [Addr.add] using h
      · simpa [Addr.add, hj0] using h) h1 h0 h63 hbytes hbase w.heap.size rfl fun g cap w' h2 h3 h4 _ h6 => h _ w' h2 h3 (fun k hk => ?_) h6
    rcases h4 with h4 | h4
    · left; rw [h4]; exact hk
    · right; cases (show some g = some k from hk); omega
end

/-! ### Update -/
def sansL (s del : List Int) : List Int := s.filter fun x => !decide (x ∈ del)
theorem sansL_step {s del : List Int} {k : Nat} {x : Int} (hx : s[k]? = some x) : sansL (s.take (k + 1)) del = if x ∈ del then sansL (s.take k) del else sansL (s.take k) del ++ [x] := by
  unfold sansL
  rw [take_getS hx, List.filter_append]
  by_cases h : x ∈ del <;> simp [h]
theorem sansL_le (s del : List Int) (k : Nat) : (sansL (s.take k) del).length ≤ k := by
  unfold sansL
  have := List.length_filter_le (fun x => !decide (x ∈ del)) (s.take k)
  have := List.length_take_le k s
  omega

set_option maxRecDepth 100000 in
set_option maxHeartbeats 1000000 in
theorem update_any (w : World) (vs va vd : Value) (s add del : List Int) (hs : Ints w vs s) (ha : Ints w va add) (hd : Ints w vd del) (sd : del.Pairwise (· < ·)) (ls : s.length ≤ 1000) (la : add.length ≤ 1000) (ld : del.length ≤ 1000) :
    Calls Tryz.prog 162 #[vs, va, vd] w fun e w' => ∃ v, e = .returned v ∧ w'.ownsRow w.heap.size 3 1 v (updL s add del).length ((updL s add del).map (Value.int .i64)) ∧ Keeps (fun _ => False) w w' := by
  obtain ⟨i0, hi0, hz0, hz1, hz2⟩ := info_parts Tryz.info3
  obtain ⟨ao, ca, h1, _⟩ := hs.form
  obtain ⟨bo, cb, h2, _⟩ := ha.form
  obtain ⟨co, cc, h3, _⟩ := hd.form
  have CS := Lib.hid (hs.cell h1); have HA := Lib.hid ha; have HD := Lib.hid hd; have SD := Lib.hid sd
  subst h1 h2 h3
  clear hs ha hd sd
  go_enter Tryz.func162, Tryz.ntmps162
  go_wp2_with fail
  go_loopw [7, 14] (fun v7 v14 wr => ∃ k : Nat, k ≤ s.length ∧ v14 = .int .i64 (k : Int) ∧ wr.ownsRow w.heap.size 3 1 v7 (sansL (s.take k) del).length ((sansL (s.take k) del).map (Value.int .i64)) ∧ Keeps (fun _ => False) w wr) (fun _ v14 _ => s.length - (intOf v14).toNat)
  case atStart => exact ⟨0, Nat.zero_le _, rfl, World.ownsRow_nil _ _ _ _, Keeps.refl _ _⟩
  case round =>
    obtain ⟨k, hk, rfl, hown, hkw⟩ := hrel
    have HO := Lib.hid hown; have KW := Lib.hid hkw
    have hle := sansL_le s del k
    obtain ⟨av, cv, hv⟩ := ownsRow_form1 hown
    subst hv
    clear hown hkw
    by_cases hlt : k < s.length
    · obtain ⟨bs, os, rfl, hc⟩ := CS.out (by omega)
      obtain ⟨x, hx⟩ : ∃ x, s[k]? = some x := ⟨_, List.getElem?_eq_getElem hlt⟩
      have hcx := KW.out.cell (hc k _ hx) (fun h => h)
      have HST := Lib.hid (sansL_step (del := del) hx)
      clear hc hx
      go_wp2_with fail
      refine (bsearch_any _ _ _ x (HD.out.keeps0 KW.out) SD.out (by omega)).mono ?_; rintro e w2 ⟨j, rfl, q, rfl⟩
      have KQ := Lib.hid (KW.out.drewN q)
      have HOQ := Lib.hid (((Keeps.refl (fun _ => False) wr).drewN q).ownsRow HO.out (fun _ _ h => h))
      clear hcx HO KW
      generalize wr.drewN q = wq at KQ HOQ ⊢
      have hsz := KQ.out.size
      by_cases hm : x ∈ del
      · have HE := Lib.hid (show sansL (s.take (k + 1)) del = sansL (s.take k) del by rw [HST.out, if_pos hm])
        rw [decide_eq_true hm]
        clear hm
        go_wp2_with fail
        go_roundw
        case rel => exact ⟨k + 1, by omega, by go_num, by rw [HE.out]; exact HOQ.out, KQ.out⟩
        case measure => simp only [intOf]; omega
      · have HE := Lib.hid (show sansL (s.take (k + 1)) del = sansL (s.take k) del ++ [x] by rw [HST.out, if_neg hm])
        rw [decide_eq_false hm]
        clear hm
        go_wp2_with (at_builtin; refine wpList_append_d rfl _ _ _ rfl w.heap.size 3 i0 _ 1 8 Tryz.underlying22 hi0 hz0 hz1 hz2 rfl (by omega) _ (sansL (s.take k) del).length ((sansL (s.take k) del).map (Value.int .i64)) (by rfl) (World.ownsRow.alloc HOQ.out (.cells #[.int .i64 x] 3)) ⟨wq.heap.size, 0, none⟩ 1 1 [.int .i64 x] (by rfl) (by rfl) (World.news_of_block (cs := #[.int .i64 x]) (t := 3) (fr := (0, 0)) (heap_alloc_new _ _)) (by simp [Value.oneCell']) (by omega) (by unfold maxLen; omega) (by omega) (by simp; omega) (wq.heap.size + 1) (by simp) ?_)
        intro gg cap2 w4 hown hgrow hat hlt4 hd4
        have HN := Lib.hid (show w4.ownsRow w.heap.size 3 1 (.slice (some ⟨gg, 0, none⟩) ((sansL (s.take k) del).length + 1) cap2) (sansL (s.take (k + 1)) del).length ((sansL (s.take (k + 1)) del).map (Value.int .i64)) by
          rw [HE.out, List.map_append, List.length_append]; exact hown)
        have HKN := Lib.hid (own_grown HOQ.out KQ.out ((Keeps.refl _ wq).alloc (.cells #[.int .i64 x] 3)) hgrow)
        clear hown hgrow hat hd4
        go_wp2_with fail
        go_roundw
        case rel => exact ⟨k + 1, by omega, by go_num, HN.out, HKN.out⟩
        case measure => simp only [intOf]; omega
    · have hke : k = s.length := by omega
      subst hke
      have HO2 := Lib.hid (show wr.ownsRow w.heap.size 3 1 (.slice av (sansL (s.take s.length) del).length cv) (sansL s del).length ((sansL s del).map (Value.int .i64)) by
        have h := HO.out
        have e : sansL (s.take s.length) del = sansL s del := by rw [List.take_length]
        generalize (Value.slice av (sansL (s.take s.length) del).length cv) = v at h ⊢
        rw [e] at h; exact h)
      have hle2 : (sansL s del).length ≤ s.length := by have := sansL_le s del s.length; rwa [List.take_length] at this
      have hsz := KW.out.size
      have HAw := Lib.hid (HA.out.keeps0 KW.out)
      clear HO hle
      generalize (sansL (s.take s.length) del).length = nn at HO2 ⊢
      go_wp2_with (at_builtin; refine wpList_append_src rfl _ _ _ rfl w.heap.size 3 i0 _ 8 Tryz.underlying22 hi0 hz0 hz1 hz2 rfl _ (sansL s del).length ((sansL s del).map (Value.int .i64)) (by rfl) HO2.out _ add.length (add.map (Value.int .i64)) (by rfl) HAw.out (by simp) (by simp [Value.oneCell']) (by unfold maxLen; omega) (by omega) (by omega) ?_)
      intro v4 w4 hown hgrow hblk hd4
      have HN := Lib.hid (show w4.ownsRow w.heap.size 3 1 v4 (preL s add del).length ((preL s add del).map (Value.int .i64)) by
        unfold preL; rw [List.map_append, List.length_append]; exact hown)
      have HK4 := Lib.hid (own_grown HO2.out KW.out (Keeps.refl _ wr) hgrow)
      have hpl := preL_len s add del
      clear hown hgrow hblk hd4 HO2 KW
      go_wp2_with fail
      refine (sortI_any _ _ _ (preL s add del) HN.out (by omega)).mono ?_; rintro e w5 ⟨rfl, hown, hk⟩
      have HN5 := Lib.hid (show w5.ownsRow w.heap.size 3 1 v4 ((preL s add del).mergeSort fun x y => decide (x ≤ y)).length (((preL s add del).mergeSort fun x y => decide (x ≤ y)).map (Value.int .i64)) by rw [List.length_mergeSort]; exact hown)
      have HK5 := Lib.hid (HK4.out.trans' hk (fun b hb => .inr (World.ownsRow.lt HN.out b hb).1))
      clear hown hk HN HK4
      go_wp2_with fail
      refine (compactI_any _ _ _ _ HN5.out (by rw [List.length_mergeSort]; omega)).mono ?_; rintro e w6 ⟨v6, rfl, hown, _, hk⟩
      have HN6 := Lib.hid hown
      have HK6 := Lib.hid (HK5.out.trans' hk (fun b hb => .inr (World.ownsRow.lt HN5.out b hb).1))
      clear hown hk HN5 HK5
      go_wp2_with fail
      go_ret
      exact ⟨_, rfl, HN6.out, HK6.out⟩

/-! ### Can, Next -/
end Go.Proofs.YtcpmjoabhnfddaaGreat

namespace Go.Proofs.YtcpmjoabhnfddaaGreat
open Go.RowKit

theorem ops_cost0 {t : Tsk} (ok : t.Ok) : ∀ o ∈ wordsOf t.ops, 0 ≤ o.cost ∧ o.cost ≤ 100 := fun o ho => by
  unfold wordsOf at ho
  obtain ⟨o', ho', rfl⟩ := List.mem_map.1 ho
  exact ⟨(ok.ops o' ho').cost0, (ok.ops o' ho').cost1⟩

end Go.Proofs.YtcpmjoabhnfddaaGreat

namespace Go.Proofs.YtcpmjoabhnfddaaGreat
open Go.RowKit

def costAt (t : Tsk) (x : Int) : Int := ((t.ops[x.toNat]?).map Opr.cost).getD 0
def costL (t : Tsk) : List Int → Int
  | [] => 0
  | x :: r => costAt t x + costL t r
def PlanIn (t : Tsk) (p : List Int) : Prop := ∀ x ∈ p, 0 ≤ x ∧ x < (t.ops.length : Int)

theorem costL_append (t : Tsk) : ∀ (a b : List Int), costL t (a ++ b) = costL t a + costL t b
  | [], b => by simp [costL]
  | x :: a, b => by
    show costAt t x + costL t (a ++ b) = (costAt t x + costL t a) + costL t b
    rw [costL_append t a b]; omega
theorem costAt_bound {t : Tsk} (ok : t.Ok) (x : Int) : 0 ≤ costAt t x ∧ costAt t x ≤ 100 := by
  unfold costAt
  cases h : t.ops[x.toNat]? with
  | none => simp
  | some o =>
    have := ok.ops o (List.mem_of_getElem? h)
    simp; exact ⟨this.cost0, this.cost1⟩
theorem costL_bound {t : Tsk} (ok : t.Ok) : ∀ p : List Int, 0 ≤ costL t p ∧ costL t p ≤ 100 * (p.length : Int)
  | [] => by simp [costL]
  | x :: r => by
    have h1 := costAt_bound ok x
    have h2 := costL_bound ok r
    unfold costL
    rw [List.length_cons]
    omega

end Go.Proofs.YtcpmjoabhnfddaaGreat

/- space.Result. -/
namespace Go.Proofs.YtcpmjoabhnfddaaGreat
open Go.RowKit

/-- A SearchResult. -/
def resV (found : Bool) (vp : Value) (c n : Int) : Value := .agg #[.bool found, vp, .int .i64 c, .int .i64 n]

theorem quad_set {w : World} {B : Nat} {x0 x1 x2 x3 : Value} {T : TypeId} (h : w.heap[B]? = some (.cells #[x0, x1, x2, x3] T (0, 0))) (a b c d : Value) :
    ((((w.setCell ⟨B, 0, none⟩ a).setCell ⟨B, 1, none⟩ b).setCell ⟨B, 2, none⟩ c).setCell ⟨B, 3, none⟩ d).heap[B]? = some (.cells #[a, b, c, d] T (0, 0)) := by
  rw [blk_set_same (blk_set_same (blk_set_same (blk_set_same h a) b) c) d]; rfl
theorem keeps_quad {w : World} (B : Nat) (a b c d : Value) : Keeps (fun k => k = B) w ((((w.setCell ⟨B, 0, none⟩ a).setCell ⟨B, 1, none⟩ b).setCell ⟨B, 2, none⟩ c).setCell ⟨B, 3, none⟩ d) :=
  ((((Keeps.refl (fun k => k = B) w).setCell (p := ⟨B, 0, none⟩) (.inl rfl) _).setCell (p := ⟨B, 1, none⟩) (.inl rfl) _).setCell (p := ⟨B, 2, none⟩) (.inl rfl) _).setCell (p := ⟨B, 3, none⟩) (.inl rfl) _

def ResultPost (t : Tsk) (vp : Value) (p : List Int) (found : Bool) (n : Int) (w : World) (e : Ending) (w' : World) : Prop := Keeps (fun _ => False) w w' ∧
  ((60 < p.length ∧ e = .returned (.tuple #[resV false (.slice none 0 0) 0 0, fltV 10 (-9)])) ∨
   (p.length ≤ 60 ∧ e = .returned (.tuple #[resV found vp (costL t p) n, fltV 0 0])))

set_option maxRecDepth 100000 in
set_option maxHeartbeats 2000000 in
theorem result_any (w : World) (vi vg vo vp : Value) (t : Tsk) (p : List Int) (found : Bool) (n : Int) (h : TaskAt w vi vg vo t) (ok : t.Ok) (hp : Ints w vp p) (hin : PlanIn t p) :
    Calls Tryz.prog 49 #[.agg #[.int .i64 t.n, vi, vg, vo], vp, .bool found, .int .i64 n] w (ResultPost t vp p found n w) := by
  obtain ⟨ai, ci, h1, _⟩ := h.init.form
  obtain ⟨ag, cg, h2, _⟩ := h.goal.form
  obtain ⟨ao, co, h3, hmo⟩ := h.ops.form
  obtain ⟨ap, cp, h4, _⟩ := hp.form
  have K1 := (Keeps.refl (fun _ => False) w).alloc (.cells #[.int .i64 t.n, vi, vg, vo] 25)
  have KA := (Keeps.refl (fun _ => False) (w.alloc (.cells #[.int .i64 t.n, vi, vg, vo] 25))).alloc (.cells #[.bool false, .slice none 0 0, .int .i64 0, .int .i64 0] 29)
  have KB := (Keeps.refl (fun _ => False) ((w.alloc (.cells #[.int .i64 t.n, vi, vg, vo] 25)).alloc (.cells #[.bool false, .slice none 0 0, .int .i64 0, .int .i64 0] 29))).alloc (.cells #[.int .i64 0, .int .i64 0] 31)
  have HB := Lib.hid ((Four.new w (.int .i64 t.n) vi vg vo 25).keeps0 (KA.trans KB))
  have HR := Lib.hid (KB.heap (heap_alloc_new (w.alloc (.cells #[.int .i64 t.n, vi, vg, vo] 25)) (.cells #[.bool false, .slice none 0 0, .int .i64 0, .int .i64 0] 29)) (fun h => h))
  have HF : Flt w _ _ 31 := ⟨heap_alloc_new ((w.alloc (.cells #[.int .i64 t.n, vi, vg, vo] 25)).alloc (.cells #[.bool false, .slice none 0 0, .int .i64 0, .int .i64 0] 29)) (.cells #[.int .i64 0, .int .i64 0] 31), by simp; omega, K1.trans (KA.trans KB)⟩
  replace HF := Lib.hid HF
  have HT := Lib.hid (h.keeps0 (K1.trans (KA.trans KB))); have HP := Lib.hid (show Ints _ vp p from hp.keeps0 (K1.trans (KA.trans KB)))
  have OK := Lib.hid ok; have HIN := Lib.hid hin
  rw [World.size_alloc] at HR HF
  rw [World.size_alloc] at HF
  subst h1 h2 h3 h4
  clear h hp hin ok K1 KA KB
  go_enter Tryz.func49, Tryz.ntmps49
  go_upto_region 1 with fail
  generalize ((w.alloc (.cells #[.int .i64 t.n, .slice ai t.init.length ci, .slice ag t.goal.length cg, .slice ao t.ops.length co] 25)).alloc (.cells #[.bool false, .slice none 0 0, .int .i64 0, .int .i64 0] 29)).alloc (.cells #[.int .i64 0, .int .i64 0] 31) = w1 at HB HR HF HT HP ⊢
  have r0 : w1.cell? ⟨w.heap.size + 1, 0, none⟩ = some (.bool false) := by rw [cell_of_blk HR.out]; rfl
  have r1 : w1.cell? ⟨w.heap.size + 1, 1, none⟩ = some (.slice none 0 0) := by rw [cell_of_blk HR.out]; rfl
  have r2 : w1.cell? ⟨w.heap.size + 1, 2, none⟩ = some (.int .i64 0) := by rw [cell_of_blk HR.out]; rfl
  have r3 : w1.cell? ⟨w.heap.size + 1, 3, none⟩ = some (.int .i64 0) := by rw [cell_of_blk HR.out]; rfl
  have y0 := frozen_of_blk (o := 0) HR.out
  have y1 := frozen_of_blk (o := 1) HR.out
  have y2 := frozen_of_blk (o := 2) HR.out
  have y3 := frozen_of_blk (o := 3) HR.out
  have hlR := lt_of_heap HR.out
  obtain ⟨e0, e1, z0, z1, hF⟩ := HF.out.cells
  by_cases hlen : 60 < p.length
  · have q1 : decide ((60 : Int) < (p.length : Int)) = true := by simp; omega
    have HLEN := Lib.hid hlen
    have kq := keeps_quad (w := w1) (w.heap.size + 1) (.bool false) (.slice none 0 0) (.int .i64 0) (.int .i64 0)
    have HQ := Lib.hid (quad_set HR.out (.bool false) (.slice none 0 0) (.int .i64 0) (.int .i64 0))
    have HF2 := Lib.hid (HF.out.keepsS kq (by omega) (fun i hi => by omega))
    clear hlen kq
    go_wp2_with fail
    refine bodyPost_ret (results_cell_cell _ _ (w.heap.size + 1 + 1) 31 #[.int .i64 10, .int .i64 (-9)] (0, 0) _ rfl rfl (HF2.out.set (.int .i64 10) (.int .i64 (-9))).1 Tryz.underlying31 rfl (by kernel_rfl) rfl ((keeps_pair (w.heap.size + 1 + 1) _ _).heap HQ.out (by omega)) Tryz.underlying29 rfl (by kernel_rfl)) rfl ?_
    exact ⟨(HF2.out.set _ _).2, .inl ⟨HLEN.out, rfl⟩⟩
  · have q1 : decide ((60 : Int) < (p.length : Int)) = false := by simp; omega
    have hlen2 : p.length ≤ 60 := by omega
    have HLEN := Lib.hid hlen2
    have hs1 := HF.out.keep.size
    have HOC := Lib.hid (HT.out.ops.cell rfl)
    have CP := Lib.hid (HP.out.cell rfl)
    have K3 := Lib.hid ((Keeps.refl (fun _ => False) w1).alloc (.cells #[.bool found, .slice ap p.length cp, .int .i64 0, .int .i64 n] 29))
    have HX3 := Lib.hid (heap_alloc_new w1 (.cells #[.bool found, .slice ap p.length cp, .int .i64 0, .int .i64 n] 29))
    have hbw := HB.out.lt
    clear hlen HT HP r0 r1 r2 r3 y0 y1 y2 y3 e0 e1 z0 z1
    go_upto_region 5 with fail
    generalize w1.alloc (.cells #[.bool found, .slice ap p.length cp, .int .i64 0, .int .i64 n] 29) = w3 at K3 HX3 ⊢
    obtain ⟨bx, hbx⟩ : ∃ bx, w1.heap.size = bx := ⟨_, rfl⟩
    have HBX := Lib.hid hbx
    rw [hbx] at hF hlR hs1 hbw
    rw [show w1.heap.size = bx from hbx] at HX3
    rw [hbx]
    clear hbx
    go_loopw [24] (fun v24 wr => ∃ i : Nat, i ≤ p.length ∧ v24 = .int .i64 (i : Int) ∧ wr.heap[bx]? = some (.cells #[.bool found, .slice ap p.length cp, .int .i64 (costL t (p.take i)), .int .i64 n] 29 (0, 0)) ∧ Keeps (fun _ => False) w1 wr) (fun v24 _ => p.length - (intOf v24).toNat)
    case atStart => exact ⟨0, Nat.zero_le _, rfl, HX3.out, K3.out⟩
    case round =>
      obtain ⟨i, hi, rfl, hx, hkr⟩ := hrel
      have HX := Lib.hid hx
      have HKR := Lib.hid hkr
      have HB2 := Lib.hid (HB.out.keeps0 hkr)
      have HF2 := Lib.hid (HF.out.keeps0 hkr)
      have HR2 := Lib.hid (hkr.heap HR.out (fun h => h))
      have s0 : wr.cell? ⟨bx, 0, none⟩ = some (.bool found) := by rw [cell_of_blk hx]; rfl
      have s1 : wr.cell? ⟨bx, 1, none⟩ = some (.slice ap p.length cp) := by rw [cell_of_blk hx]; rfl
      have s2 : wr.cell? ⟨bx, 2, none⟩ = some (.int .i64 (costL t (p.take i))) := by rw [cell_of_blk hx]; rfl
      have s3 : wr.cell? ⟨bx, 3, none⟩ = some (.int .i64 n) := by rw [cell_of_blk hx]; rfl
      have v2 := frozen_of_blk (o := 2) hx
      have hlx := lt_of_heap hx
      clear hkr hx
      by_cases hlt : i < p.length
      · obtain ⟨d0, d1, d2, d3⟩ := HB2.out
        have hbl2 := HB2.out.lt
        obtain ⟨bp, op, rfl, hx'⟩ := CP.out (by omega)
        obtain ⟨x, hx⟩ : ∃ x, p[i]? = some x := ⟨_, List.getElem?_eq_getElem hlt⟩
        have hu := HKR.out.cell (hx' i x hx) (fun h => h)
        have hxi := HIN.out x (List.mem_of_getElem? hx)
        obtain ⟨xn, rfl⟩ : ∃ xn : Nat, x = (xn : Int) := ⟨x.toNat, by omega⟩
        obtain ⟨bo, oo, rfl, ho'⟩ := HOC.out (by omega)
        obtain ⟨o, ho⟩ : ∃ o, t.ops[xn]? = some o := ⟨_, List.getElem?_eq_getElem (by omega)⟩
        obtain ⟨va, vb, vc, _, _, _, c3, _⟩ := ho' xn o ho
        have c3' := HKR.out.cell c3 (fun h => h)
        have HTK : Hid (costL t (p.take (i + 1)) = costL t (p.take i) + o.cost) := by
          unfold Hid
          rw [take_getS hx, costL_append]
          simp [costL, costAt, ho]
        have hbd := costL_bound OK.out (p.take i)
        have hbl : ((p.take i).length : Int) ≤ 1000000 := by rw [List.length_take]; omega
        have hoc := OK.out.ops o (List.mem_of_getElem? ho)
        have ho0 := hoc.cost0
        have ho1 := hoc.cost1
        have q1 : IntKind.i64.wrap (costL t (p.take i) + o.cost) = costL t (p.take i) + o.cost := IntWalk.i64_in _ (by omega)
        have q2 : ((xn : Int)).toNat = xn := by omega
        have q3 : (0 : Int) ≤ (xn : Int) := by omega
        have q4 : (xn : Int) < (t.ops.length : Int) := hxi.2
        clear hx' hx ho' ho c3 hxi hoc hbl hbd
        go_upto_region 7 with fail
        go_still_tail 10, (by kernel_rfl)
        change wpList _ _ _ _ _ wr.drew
        have KD := (Keeps.refl (fun _ => False) wr).drew
        have HXD := Lib.hid (KD.heap HX.out (fun h => h))
        have HKD := Lib.hid (HKR.out.trans KD)
        clear KD d0 d1 d2 d3 hbl2 hu c3' s0 s1 s2 s3 v2 hlx
        generalize wr.drew = w5 at HXD HKD ⊢
        have s2 : w5.cell? ⟨bx, 2, none⟩ = some (.int .i64 (costL t (p.take i))) := by rw [cell_of_blk HXD.out]; rfl
        have v2 := frozen_of_blk (o := 2) HXD.out
        have hlx := lt_of_heap HXD.out
        have HN := Lib.hid (blk_set_same HXD.out (o := 2) (.int .i64 (costL t (p.take i) + o.cost)))
        have HKN := Lib.hid (HKD.out.trans' ((Keeps.refl (fun k => k = bx) w5).setCell (p := ⟨bx, 2, none⟩) (.inl rfl) (.int .i64 (costL t (p.take i) + o.cost))) (fun k hk => .inr (by have := HBX.out; omega)))
        go_wp2_with fail
        go_roundw
        case rel => exact ⟨i + 1, by omega, by go_num, by rw [HTK.out]; exact HN.out, HKN.out⟩
        case measure => simp only [intOf]; omega
      · have hie : i = p.length := by omega
        subst hie
        have r0 : wr.cell? ⟨w.heap.size + 1, 0, none⟩ = some (.bool false) := by rw [cell_of_blk HR2.out]; rfl
        have r1 : wr.cell? ⟨w.heap.size + 1, 1, none⟩ = some (.slice none 0 0) := by rw [cell_of_blk HR2.out]; rfl
        have r2 : wr.cell? ⟨w.heap.size + 1, 2, none⟩ = some (.int .i64 0) := by rw [cell_of_blk HR2.out]; rfl
        have r3 : wr.cell? ⟨w.heap.size + 1, 3, none⟩ = some (.int .i64 0) := by rw [cell_of_blk HR2.out]; rfl
        have y0 := frozen_of_blk (o := 0) HR2.out
        have y1 := frozen_of_blk (o := 1) HR2.out
        have y2 := frozen_of_blk (o := 2) HR2.out
        have y3 := frozen_of_blk (o := 3) HR2.out
        have hlR2 := lt_of_heap HR2.out
        obtain ⟨e0, e1, z0, z1, hF2⟩ := HF2.out.cells
        have HCE : Hid (costL t (p.take p.length) = costL t p) := by unfold Hid; rw [List.take_length]
        have kq := keeps_quad (w := wr) (w.heap.size + 1) (.bool found) (.slice ap p.length cp) (.int .i64 (costL t p)) (.int .i64 n)
        have HQ := Lib.hid (quad_set HR2.out (.bool found) (.slice ap p.length cp) (.int .i64 (costL t p)) (.int .i64 n))
        have HF4 := Lib.hid (HF2.out.keepsS kq (by omega) (fun i hi => by omega))
        rw [HCE.out] at s2
        clear kq HX
        go_wp2_with fail
        refine bodyPost_ret (results_cell_cell _ _ (w.heap.size + 1 + 1) 31 #[.int .i64 0, .int .i64 0] (0, 0) _ rfl rfl (HF4.out.set (.int .i64 0) (.int .i64 0)).1 Tryz.underlying31 rfl (by kernel_rfl) rfl ((keeps_pair (w.heap.size + 1 + 1) _ _).heap HQ.out (by omega)) Tryz.underlying29 rfl (by kernel_rfl)) rfl ?_
        exact ⟨(HF4.out.set _ _).2, .inr ⟨HLEN.out, rfl⟩⟩

end Go.Proofs.YtcpmjoabhnfddaaGreat

namespace Go.Proofs.YtcpmjoabhnfddaaGreat
open Go.RowKit

/-! ### the plans of a search -/
theorem runOps_lt {ops : List Wop} : ∀ {p : List Nat} {x y : Nat}, runOps ops x p = some y → ∀ o ∈ p, o < ops.length
  | [], _, _, _, _, h => by cases h
  | o :: r, x, y, h, k, hk => by
    rw [runOps] at h
    cases ho : ops[o]? with
    | none => rw [ho] at h; cases h
    | some op =>
      rw [ho] at h; simp only at h
      split at h
      · rcases List.mem_cons.1 hk with rfl | hk
        · exact (List.getElem?_eq_some_iff.1 ho).1
        · exact runOps_lt h k hk
      · cases h

theorem planIn_run {t : Tsk} {p : List Nat} {x y : Nat} (h : runOps (wordsOf t.ops) x p = some y) : PlanIn t (intsP p) := by
  intro z hz
  unfold intsP at hz
  obtain ⟨o, ho, rfl⟩ := List.mem_map.1 hz
  have := runOps_lt h o ho
  unfold wordsOf at this
  rw [List.length_map] at this
  omega

/-! ### two blocks of results -/
structure RFl (w w1 : World) (R F : Nat) : Prop where
  res : w1.heap[R]? = some (.cells #[.bool false, .slice none 0 0, .int .i64 0, .int .i64 0] 29 (0, 0))
  flt : Flt w w1 F 31
  base : w.heap.size ≤ R
  ne : R ≠ F
theorem RFl.keeps0 {w w1 w2 : World} {R F : Nat} (h : RFl w w1 R F) (hk : Keeps (fun _ => False) w1 w2) : RFl w w2 R F := ⟨hk.heap h.res (fun h => h), h.flt.keeps0 hk, h.base, h.ne⟩
theorem RFl.cells {w w1 : World} {R F : Nat} (h : RFl w w1 R F) : w1.cell? ⟨R, 0, none⟩ = some (.bool false) ∧ w1.cell? ⟨R, 1, none⟩ = some (.slice none 0 0) ∧ w1.cell? ⟨R, 2, none⟩ = some (.int .i64 0) ∧ w1.cell? ⟨R, 3, none⟩ = some (.int .i64 0) ∧
    w1.frozen? ⟨R, 0, none⟩ = false ∧ w1.frozen? ⟨R, 1, none⟩ = false ∧ w1.frozen? ⟨R, 2, none⟩ = false ∧ w1.frozen? ⟨R, 3, none⟩ = false ∧ R < w1.heap.size :=
  ⟨by rw [cell_of_blk h.res]; rfl, by rw [cell_of_blk h.res]; rfl, by rw [cell_of_blk h.res]; rfl, by rw [cell_of_blk h.res]; rfl, frozen_of_blk h.res, frozen_of_blk h.res, frozen_of_blk h.res, frozen_of_blk h.res, lt_of_heap h.res⟩
theorem RFl.set {w w1 : World} {R F : Nat} (h : RFl w w1 R F) (a b c d x y : Value) :
    ((((((w1.setCell ⟨R, 0, none⟩ a).setCell ⟨R, 1, none⟩ b).setCell ⟨R, 2, none⟩ c).setCell ⟨R, 3, none⟩ d).setCell ⟨F, 0, none⟩ x).setCell ⟨F, 1, none⟩ y).heap[R]? = some (.cells #[a, b, c, d] 29 (0, 0)) ∧
    ((((((w1.setCell ⟨R, 0, none⟩ a).setCell ⟨R, 1, none⟩ b).setCell ⟨R, 2, none⟩ c).setCell ⟨R, 3, none⟩ d).setCell ⟨F, 0, none⟩ x).setCell ⟨F, 1, none⟩ y).heap[F]? = some (.cells #[x, y] 31 (0, 0)) ∧
    Keeps (fun _ => False) w ((((((w1.setCell ⟨R, 0, none⟩ a).setCell ⟨R, 1, none⟩ b).setCell ⟨R, 2, none⟩ c).setCell ⟨R, 3, none⟩ d).setCell ⟨F, 0, none⟩ x).setCell ⟨F, 1, none⟩ y) ∧
    Keeps (fun k => k = R ∨ k = F) w1 ((((((w1.setCell ⟨R, 0, none⟩ a).setCell ⟨R, 1, none⟩ b).setCell ⟨R, 2, none⟩ c).setCell ⟨R, 3, none⟩ d).setCell ⟨F, 0, none⟩ x).setCell ⟨F, 1, none⟩ y) := by
  have kq := keeps_quad (w := w1) R a b c d
  have hq := quad_set h.res a b c d
  have hf := h.flt.keepsS kq (fun e => h.ne e.symm) (fun i hi => by subst hi; exact h.base)
  have hs := hf.set x y
  exact ⟨(keeps_pair F x y).heap hq h.ne, hs.1, hs.2, (kq.mono (fun _ _ h => .inl h)).trans ((keeps_pair F x y).mono (fun _ _ h => .inr h))⟩

/-- The zero result stays as it is. -/
theorem RFl.ids {w w1 : World} {R F : Nat} (h : RFl w w1 R F) : w1.setCell ⟨R, 0, none⟩ (.bool false) = w1 ∧ w1.setCell ⟨R, 1, none⟩ (.slice none 0 0) = w1 ∧ w1.setCell ⟨R, 2, none⟩ (.int .i64 0) = w1 ∧ w1.setCell ⟨R, 3, none⟩ (.int .i64 0) = w1 :=
  ⟨setCell_id h.cells.1, setCell_id h.cells.2.1, setCell_id h.cells.2.2.1, setCell_id h.cells.2.2.2.1⟩
theorem RFl.fin {w w1 : World} {R F : Nat} (h : RFl w w1 R F) (x y : Value) : ((w1.setCell ⟨F, 0, none⟩ x).setCell ⟨F, 1, none⟩ y).drew.heap[R]? = some (.cells #[.bool false, .slice none 0 0, .int .i64 0, .int .i64 0] 29 (0, 0)) ∧
    ((w1.setCell ⟨F, 0, none⟩ x).setCell ⟨F, 1, none⟩ y).drew.heap[F]? = some (.cells #[x, y] 31 (0, 0)) ∧ Keeps (fun _ => False) w ((w1.setCell ⟨F, 0, none⟩ x).setCell ⟨F, 1, none⟩ y).drew :=
  ⟨(keeps_pair F x y).drew.heap h.res h.ne, (h.flt.set x y).1, (h.flt.set x y).2.drew⟩

theorem quad_cells {w : World} {B : Nat} {a b c d : Value} {T : TypeId} (h : w.heap[B]? = some (.cells #[a, b, c, d] T (0, 0))) : w.cell? ⟨B, 0, none⟩ = some a ∧ w.cell? ⟨B, 1, none⟩ = some b ∧ w.cell? ⟨B, 2, none⟩ = some c ∧ w.cell? ⟨B, 3, none⟩ = some d ∧ B < w.heap.size :=
  ⟨by rw [cell_of_blk h]; rfl, by rw [cell_of_blk h]; rfl, by rw [cell_of_blk h]; rfl, by rw [cell_of_blk h]; rfl, lt_of_heap h⟩

/-! ### what Plan hands back -/
end Go.Proofs.YtcpmjoabhnfddaaGreat

namespace Go.Proofs.YtcpmjoabhnfddaaGreat

/-! ### greater states -/
theorem goalB_iff {g x : Nat} : goalB g x = true ↔ under g x := by
  unfold goalB
  rw [beq_iff_eq]
  constructor
  · intro h i hi
    have := congrArg (fun z => z.testBit i) h
    simp only [Nat.testBit_and, hi, Bool.and_true] at this
    exact this
  · intro h
    refine Nat.eq_of_testBit_eq fun i => ?_
    rw [Nat.testBit_and]
    cases hg : g.testBit i with
    | false => simp
    | true => rw [h i hg]; rfl
theorem can_iff {o : Wop} {x : Nat} : o.can x = true ↔ under o.pre x := goalB_iff (g := o.pre) (x := x)
/-! ### the search that finds nothing -/
section
variable {acc : Nat → Bool} {cov : Nat → List Nat → Bool}
end

theorem ops_cost {t : Tsk} (ok : t.Ok) : ∀ o ∈ wordsOf t.ops, 0 ≤ o.cost ∧ o.cost ≤ 100 := fun o ho => by
  unfold wordsOf at ho
  obtain ⟨o', ho', rfl⟩ := List.mem_map.1 ho
  exact ⟨(ok.ops o' ho').cost0, (ok.ops o' ho').cost1⟩

end Go.Proofs.YtcpmjoabhnfddaaGreat

namespace Go.Proofs.YtcpmjoabhnfddaaGreat
open Go.RowKit

/-- The least price of a plan of the task. -/
def BestT (t : Tsk) (b : Int) : Prop := LeastOf 4096 1 (wordsOf t.ops) (wd t.init) (goalB (wd t.goal)) b
end Go.Proofs.YtcpmjoabhnfddaaGreat

namespace Go.Proofs.YtcpmjoabhnfddaaGreat
open Go.RowKit

/-- The steps of a best plan with the least price b. -/
def stepsB (b : Int) : Int := if b < 0 then 0 else b % 4096
end Go.Proofs.YtcpmjoabhnfddaaGreat

namespace Go.Proofs.YtcpmjoabhnfddaaGreat
open Go.RowKit

/-- What a search hands back whose plans are best, where b is the least price. -/
structure BPlanG (t : Tsk) (l : List Nat) (b : Int) (fnd : Bool) (lp : List Int) (c n : Int) : Prop where
  n : 0 ≤ n ∧ n ≤ (l.length : Int)
  none_ : b < 0 → fnd = false ∧ lp = [] ∧ c = 0
  some_ : 0 ≤ b → fnd = true ∧ ∃ q y, lp = intsP q ∧ runOps (wordsOf t.ops) (wd t.init) q = some y ∧ goalB (wd t.goal) y = true ∧ (q.length : Int) = b % 4096 ∧ costN (wordsOf t.ops) q = b / 4096 ∧ c = costL t lp

def BPlanIs (t : Tsk) (fnd : Bool) (lp : List Int) (c n fc fi : Int) : Prop :=
  (fc ≠ 0 ∧ expF t = (fc, fi) ∧ fnd = false ∧ lp = [] ∧ c = 0 ∧ n = 0) ∨
  (expF t = (0, 0) ∧ t.Ok ∧ ∃ l b, explored t = some l ∧ BestT t b ∧ ((60 < stepsB b ∧ fc = 10 ∧ fi = -9 ∧ fnd = false ∧ lp = [] ∧ c = 0 ∧ n = 0) ∨ (stepsB b ≤ 60 ∧ fc = 0 ∧ fi = 0 ∧ BPlanG t l b fnd lp c n)))
theorem expF_bad {t : Tsk} (h : (taskFault t).1 ≠ 0) : expF t = taskFault t := by unfold expF; rw [if_neg h]
theorem expF_many {t : Tsk} (ok : t.Ok) (h : explored t = none) : expF t = (10, -7) := by unfold expF; rw [if_pos (taskFault_zero.2 ok), h]
theorem expF_ok {t : Tsk} (ok : t.Ok) {l : List Nat} (h : explored t = some l) : expF t = (0, 0) := by unfold expF; rw [if_pos (taskFault_zero.2 ok), h]

/-- No plan is found. -/
theorem bplan_none {t : Tsk} (ok : t.Ok) {l : List Nat} (hx : explored t = some l) (hb : BestT t (-1)) {n : Int} (hn : 0 ≤ n ∧ n ≤ (l.length : Int)) : BPlanIs t false [] 0 n 0 0 :=
  .inr ⟨expF_ok ok hx, ok, l, -1, hx, hb, .inr ⟨by decide, rfl, rfl, hn, fun _ => ⟨rfl, rfl, rfl⟩, fun h => absurd h (by decide)⟩⟩
/-- A plan q is found. -/
theorem bplan_short {t : Tsk} (ok : t.Ok) {l : List Nat} (hx : explored t = some l) {b : Int} (hb : BestT t b) (h0 : 0 ≤ b) {q : List Nat} {y : Nat} (hr : runOps (wordsOf t.ops) (wd t.init) q = some y) (ha : goalB (wd t.goal) y = true) (hl : (q.length : Int) = b % 4096) (hc : costN (wordsOf t.ops) q = b / 4096) (h60 : q.length ≤ 60) {n : Int} (hn : 0 ≤ n ∧ n ≤ (l.length : Int)) :
    BPlanIs t true (intsP q) (costL t (intsP q)) n 0 0 :=
  .inr ⟨expF_ok ok hx, ok, l, b, hx, hb, .inr ⟨by unfold stepsB; rw [if_neg (by omega)]; omega, rfl, rfl, hn, fun h => absurd h (by omega), fun _ => ⟨rfl, q, y, rfl, hr, ha, hl, hc, rfl⟩⟩⟩
theorem bplan_long {t : Tsk} (ok : t.Ok) {l : List Nat} (hx : explored t = some l) {b : Int} (hb : BestT t b) (h0 : 0 ≤ b) {q : List Nat} (hl : (q.length : Int) = b % 4096) (h60 : 60 < q.length) : BPlanIs t false [] 0 0 10 (-9) :=
  .inr ⟨expF_ok ok hx, ok, l, b, hx, hb, .inl ⟨by unfold stepsB; rw [if_neg (by omega)]; omega, rfl, rfl, rfl, rfl, rfl, rfl⟩⟩

end Go.Proofs.YtcpmjoabhnfddaaGreat

namespace Go.Proofs.YtcpmjoabhnfddaaGreat
open Go.RowKit

def FMap {α : Type} (w : World) (b : Nat) (enc : α → Value) (f : Nat → Option α) : Prop :=
  ∃ l : List (Nat × α), IMap w b .u32 (l.map fun p => ((p.1 : Int), enc p.2)) ∧ (l.map Prod.fst).Nodup ∧ ∀ x v, f x = some v ↔ (x, v) ∈ l

section
variable {α : Type} {w : World} {b : Nat} {enc : α → Value} {f : Nat → Option α}
theorem FMap.keeps {S : Nat → Prop} {w' : World} (h : FMap w b enc f) (hk : Keeps S w w') (hs : ¬ S b) : FMap w' b enc f := by
  obtain ⟨l, h1, h2⟩ := h; exact ⟨l, h1.keeps hk hs, h2⟩
theorem FMap.lt (h : FMap w b enc f) : b < w.heap.size := by obtain ⟨l, h1, _⟩ := h; exact h1.lt
theorem FMap.map_block (h : FMap w b enc f) : ∃ es c, w.heap[b]? = some (.map es c) := by obtain ⟨l, ⟨es, c, hb, _⟩, _⟩ := h; exact ⟨es, c, hb⟩
theorem FMap.ne_cells (h : FMap w b enc f) {g : Nat} {cs : Array Value} {T : TypeId} {fr : Nat × Nat} (hg : w.heap[g]? = some (.cells cs T fr)) : b ≠ g := fun e => by
  obtain ⟨es, c, hb⟩ := h.map_block
  rw [e, hg] at hb; cases hb
theorem FMap.made (w : World) (enc : α → Value) : FMap (w.alloc (.map #[] 0)) w.heap.size enc (fun _ => none) :=
  ⟨[], IMap.made w .u32, by simp, fun x v => by simp⟩
theorem fkeys_nodup {l : List (Nat × α)} (h : (l.map Prod.fst).Nodup) : ((l.map fun p => ((p.1 : Int), enc p.2)).map Prod.fst).Nodup := by
  rw [List.map_map]
  have : (l.map ((Prod.fst : Int × Value → Int) ∘ fun p => ((p.1 : Int), enc p.2))) = (l.map Prod.fst).map fun x : Nat => (x : Int) := by rw [List.map_map]; rfl
  rw [this]
  unfold List.Nodup at h ⊢
  rw [List.pairwise_map]
  exact h.imp fun hne e => hne (by omega)
theorem fkeys_miss {l : List (Nat × α)} (hl : ∀ x v, f x = some v ↔ (x, v) ∈ l) {x : Nat} (hx : f x = none) : ∀ p ∈ l.map (fun p => ((p.1 : Int), enc p.2)), p.1 ≠ (x : Int) := fun p hp e => by
  obtain ⟨q, hq, rfl⟩ := List.mem_map.1 hp
  have : q.1 = x := by simp only at e; omega
  have h2 := (hl q.1 q.2).2 hq
  rw [this, hx] at h2; cases h2
variable {P : Program} {t k e : TypeId}
theorem FMap.look_some (h : FMap w b enc f) (ht : P.underlying t = some (.map k e)) (hk : P.underlying k = some (.int .u32)) {x : Nat} {v : α} (hx : f x = some v) :
    (Instr.lookup t (.map (some b)) (.int .u32 (x : Int)) true).run P w = .ok (.tuple #[enc v, .bool true]) w ∧ (Instr.lookup t (.map (some b)) (.int .u32 (x : Int)) false).run P w = .ok (enc v) w := by
  obtain ⟨l, h1, h2, h3⟩ := h
  exact h1.run_lookup_hit ht hk (fkeys_nodup h2) (List.mem_map.2 ⟨(x, v), (h3 x v).1 hx, rfl⟩)
theorem FMap.look_none (h : FMap w b enc f) (ht : P.underlying t = some (.map k e)) (hk : P.underlying k = some (.int .u32)) {z : Value} (hz : (zeroValue e).run P w = .ok z w) {x : Nat} (hx : f x = none) :
    (Instr.lookup t (.map (some b)) (.int .u32 (x : Int)) true).run P w = .ok (.tuple #[z, .bool false]) w ∧ (Instr.lookup t (.map (some b)) (.int .u32 (x : Int)) false).run P w = .ok z w := by
  obtain ⟨l, h1, _, h3⟩ := h
  exact h1.run_lookup_miss ht hk hz (fkeys_miss h3 hx)
/-- A store. -/
theorem FMap.put (h : FMap w b enc f) (ht : P.underlying t = some (.map k e)) (hk : P.underlying k = some (.int .u32)) (x : Nat) (v : α) :
    ∃ w', (Instr.mapUpdate t (.map (some b)) (.int .u32 (x : Int)) (enc v)).run P w = .ok () w' ∧ FMap w' b enc (putP f x v) ∧ Keeps (fun j => j = b) w w' := by
  obtain ⟨l, h1, h2, h3⟩ := h
  cases hx : f x with
  | none =>
    obtain ⟨w', hr, hi, hk'⟩ := h1.run_update_new ht hk (fkeys_miss h3 hx) (enc v)
    refine ⟨w', hr, ⟨l ++ [(x, v)], by rw [List.map_append]; exact hi, ?_, fun y u => ?_⟩, hk'⟩
    · rw [List.map_append, List.nodup_append]
      refine ⟨h2, by simp, fun a ha c hc hac => ?_⟩
      simp only [List.map_cons, List.map_nil, List.mem_singleton] at hc
      obtain ⟨q, hq, rfl⟩ := List.mem_map.1 ha
      have h4 := (h3 q.1 q.2).2 hq
      rw [hac, hc, hx] at h4; cases h4
    · by_cases hy : y = x
      · subst hy
        rw [putP_same, List.mem_append]
        constructor
        · intro h; cases h; exact .inr (by simp)
        · rintro (h | h)
          · have := (h3 y u).2 h; rw [hx] at this; cases this
          · simp at h; rw [h]
      · rw [putP_other f v hy, h3 y u, List.mem_append]
        constructor
        · exact .inl
        · rintro (h | h)
          · exact h
          · simp at h; exact absurd h.1 hy
  | some u0 =>
    obtain ⟨j, hj⟩ := List.mem_iff_getElem?.1 ((h3 x u0).1 hx)
    obtain ⟨w', hr, hi, hk'⟩ := h1.run_update_old ht hk (fkeys_nodup h2) (x := (x : Int)) (u := enc u0) (j := j) (by rw [List.getElem?_map, hj]; rfl) (enc v)
    have hjl := (List.getElem?_eq_some_iff.1 hj).1
    have hkeys : (l.set j (x, v)).map Prod.fst = l.map Prod.fst := by
      apply List.ext_getElem?
      intro n
      rw [List.getElem?_map, List.getElem?_map]
      by_cases hn : n = j
      · subst hn; rw [List.getElem?_set_self hjl, hj]; rfl
      · rw [List.getElem?_set_ne (fun e => hn e.symm)]
    refine ⟨w', hr, ⟨l.set j (x, v), by rw [List.map_set]; exact hi, by rw [hkeys]; exact h2, fun y u => ?_⟩, hk'⟩
    have uniq : ∀ n q, l[n]? = some q → q.1 = x → n = j := fun n q hq hqx => by
      have e1 : (l.map Prod.fst)[n]? = some x := by rw [List.getElem?_map, hq]; simp [hqx]
      have e2 : (l.map Prod.fst)[j]? = some x := by rw [List.getElem?_map, hj]; rfl
      exact nodup_ix h2 e1 e2
    by_cases hy : y = x
    · subst hy
      rw [putP_same]
      constructor
      · intro h; cases h
        exact List.mem_of_getElem? (List.getElem?_set_self hjl)
      · intro h
        obtain ⟨n, hn⟩ := List.mem_iff_getElem?.1 h
        by_cases hnj : n = j
        · subst hnj; rw [List.getElem?_set_self hjl] at hn; cases hn; rfl
        · rw [List.getElem?_set_ne (fun e => hnj e.symm)] at hn
          exact absurd (uniq n _ hn rfl) hnj
    · rw [putP_other f v hy, h3 y u]
      constructor
      · intro h
        obtain ⟨n, hn⟩ := List.mem_iff_getElem?.1 h
        have hnj : n ≠ j := fun e => by subst e; rw [hj] at hn; cases hn; exact hy rfl
        exact List.mem_of_getElem? (i := n) (by rw [List.getElem?_set_ne (fun e => hnj e.symm)]; exact hn)
      · intro h
        obtain ⟨n, hn⟩ := List.mem_iff_getElem?.1 h
        by_cases hnj : n = j
        · subst hnj; rw [List.getElem?_set_self hjl] at hn; cases hn; exact absurd rfl hy
        · rw [List.getElem?_set_ne (fun e => hnj e.symm)] at hn
          exact List.mem_of_getElem? hn
end

end Go.Proofs.YtcpmjoabhnfddaaGreat

namespace Go.Proofs.YtcpmjoabhnfddaaGreat
open Go.RowKit

def lenV : Value → Nat
  | .slice _ n _ => n
  | _ => 0
end Go.Proofs.YtcpmjoabhnfddaaGreat

namespace Go.Proofs.YtcpmjoabhnfddaaGreat
open Go.RowKit

def intV (p : Int) : Value := .int .i64 p
end Go.Proofs.YtcpmjoabhnfddaaGreat

namespace Go.Proofs.YtcpmjoabhnfddaaGreat
open Go.RowKit

def unitV (_ : Unit) : Value := .agg #[]

section
variable {w w' : World} {base b m0 mp mpar md q : Nat} {P P' : Nat → Option Int} {par : Nat → Option SArc} {dn : Nat → Option Unit} {A A' : List (Int × Int)} {t t' : Int} {F F' : Nat → Prop}
end
end Go.Proofs.YtcpmjoabhnfddaaGreat

namespace Go.Proofs.YtcpmjoabhnfddaaGreat
open Go.RowKit Go.Sort Go.Proofs

def backV (a : SArc) : Value := .agg #[.int .u32 (a.to : Int), .int .i64 (a.op : Int)]

theorem Chain.at_end {par : Nat → Option SArc} {x e : Nat} {out : List Nat} (h : Chain par x out e) (hx : par x = none) : out = [] ∧ x = e := by
  cases h with
  | nil _ => exact ⟨rfl, rfl⟩
  | cons ha _ => rw [hx] at ha; cases ha
theorem Chain.more {par : Nat → Option SArc} {x e : Nat} {out : List Nat} (h : Chain par x out e) (hx : x ≠ e) : ∃ a r, par x = some a ∧ out = a.op :: r ∧ Chain par a.to r e := by
  cases h with
  | nil _ => exact absurd rfl hx
  | cons ha hc => exact ⟨_, _, ha, rfl, hc⟩

set_option maxRecDepth 100000 in
set_option maxHeartbeats 1000000 in
theorem pathC_any (w : World) (m s x : Nat) (par f : Nat → Option SArc) (out : List Nat) (hm : FMap w m backV f) (hf : ∀ y a, par y = some a → f y = some a) (h0 : par s = none) (hc : Chain par x out s) (few : out.length ≤ 100000) :
    Calls Tryz.prog 50 #[.map (some m), .int .u32 (s : Int), .int .u32 (x : Int)] w fun en w' => ∃ v, en = .returned v ∧ w'.ownsRow w.heap.size 3 1 v out.length ((intsP out.reverse).map (Value.int .i64)) ∧ Keeps (fun _ => False) w w' := by
  obtain ⟨i0, hi0, hz0, hz1, hz2⟩ := info_parts Tryz.info3
  have HM := Lib.hid hm; have HF := Lib.hid hf; have H0 := Lib.hid h0; have HC := Lib.hid hc
  clear hm hf h0 hc
  go_enter Tryz.func50, Tryz.ntmps50
  go_wp2_with fail
  go_loopw [2, 7] (fun z v wr => ∃ (dn rest : List Nat) (y : Nat), out = dn ++ rest ∧ Chain par y rest s ∧ z = .int .u32 (y : Int) ∧ lenV v = dn.length ∧ wr.ownsRow w.heap.size 3 1 v (intsP dn).length ((intsP dn).map (Value.int .i64)) ∧ Keeps (fun _ => False) w wr)
    (fun _ v _ => out.length - lenV v)
  case atStart => exact ⟨[], out, x, rfl, HC.out, rfl, rfl, World.ownsRow_nil _ _ _ _, Keeps.refl _ _⟩
  case round =>
    obtain ⟨dn, rest, y, hout, hch, rfl, hlv, hown, hkw⟩ := hrel
    have HO := Lib.hid hown; have KW := Lib.hid hkw; have HOUT := Lib.hid hout; have HCH := Lib.hid hch; have HLV := Lib.hid hlv
    have hmw := HM.out.keeps hkw (fun h => h)
    clear hown hkw hout hch hlv
    obtain ⟨av, cv, hv⟩ := ownsRow_form1 HO.out
    subst hv
    by_cases hne : y = s
    · have hb : ((y : Int) != (s : Int)) = false := by simp [hne]
      have HPE := Lib.hid (show out = dn by
        have h1 := (HCH.out.at_end (by rw [hne]; exact H0.out)).1
        rw [HOUT.out, h1, List.append_nil])
      clear hne
      go_wp2_with fail
      refine (reverse_any _ _ _ _ (intsP dn) HO.out (by have h1 := HPE.out; subst h1; simp [intsP]; omega)).mono ?_
      rintro e' w5 ⟨rfl, hown2, hk5⟩
      have HO5 := Lib.hid hown2
      have K5 := Lib.hid (KW.out.trans' hk5 (fun b hb => .inr (World.ownsRow.lt HO.out b hb).1))
      clear hown2 hk5
      go_wp2_with fail
      go_ret
      refine ⟨_, rfl, ?_, K5.out⟩
      have h1 := HO5.out
      have h2 : (intsP dn).length = out.length := by rw [HPE.out]; simp [intsP]
      have h3 : (intsP dn).reverse = intsP out.reverse := by rw [HPE.out]; simp [intsP]
      rw [h3] at h1
      generalize (Value.slice av (intsP dn).length cv) = v at h1
      rw [h2] at h1
      exact h1
    · have hb : ((y : Int) != (s : Int)) = true := by simp; omega
      obtain ⟨a, r, hpa, hro, hcr⟩ := HCH.out.more hne
      have HCR := Lib.hid hcr
      have HOR := Lib.hid (show out = (dn ++ [a.op]) ++ r by rw [HOUT.out, hro, List.append_assoc]; rfl)
      have hlk := (hmw.look_some (P := Tryz.prog) Tryz.underlying76 Tryz.underlying77 (HF.out _ _ hpa)).2
      unfold backV at hlk
      clear hne hpa hro hcr
      have HB := Lib.hid (heap_alloc_new wr (.cells #[.int .u32 (a.to : Int), .int .i64 (a.op : Int)] 132))
      have KA := Lib.hid ((Keeps.refl (fun _ => False) wr).alloc (.cells #[.int .u32 (a.to : Int), .int .i64 (a.op : Int)] 132))
      go_upto_region 4 with fail
      generalize wr.alloc (.cells #[.int .u32 (a.to : Int), .int .i64 (a.op : Int)] 132) = w3 at KA HB ⊢
      have c0 : w3.cell? ⟨wr.heap.size, 0, none⟩ = some (.int .u32 (a.to : Int)) := by rw [cell_of_blk HB.out]; rfl
      have c1 : w3.cell? ⟨wr.heap.size, 1, none⟩ = some (.int .i64 (a.op : Int)) := by rw [cell_of_blk HB.out]; rfl
      have hO3 := KA.out.ownsRow HO.out (fun _ _ h => h)
      have hdl : (intsP dn).length < out.length := by rw [HOR.out]; simp [intsP]
      have hs3 := KA.out.size; have hsw := KW.out.size
      go_wp2_with (at_builtin; refine wpList_append_d rfl _ _ _ rfl w.heap.size 3 i0 _ 1 8 Tryz.underlying22 hi0 hz0 hz1 hz2 rfl (by omega) _ (intsP dn).length ((intsP dn).map (Value.int .i64)) (by rfl) (World.ownsRow.alloc hO3 (.cells #[.int .i64 (a.op : Int)] 3)) ⟨w3.heap.size, 0, none⟩ 1 1 [.int .i64 (a.op : Int)] (by rfl) (by rfl) ?hnews ?hone (by omega) (by unfold maxLen; omega) (by omega) (by simp; omega) (w3.heap.size + 1) (by simp) ?_)
      case hnews => exact World.news_of_block (cs := #[.int .i64 (a.op : Int)]) (t := 3) (fr := (0, 0)) (heap_alloc_new _ _)
      case hone => simp [Value.oneCell']
      intro gg cap2 w4 hown hgrow hat hlt4 hd4
      have HN := Lib.hid (show w4.ownsRow w.heap.size 3 1 (.slice (some ⟨gg, 0, none⟩) ((intsP dn).length + 1) cap2) (intsP (dn ++ [a.op])).length ((intsP (dn ++ [a.op])).map (Value.int .i64)) by
        have e1 : (intsP (dn ++ [a.op])) = intsP dn ++ [(a.op : Int)] := by simp [intsP]
        rw [e1, List.map_append, List.length_append]; exact hown)
      have HKN := Lib.hid (own_grown HO.out KW.out (KA.out.alloc (.cells #[.int .i64 (a.op : Int)] 3)) hgrow)
      have d0 : w4.cell? ⟨wr.heap.size, 0, none⟩ = some (.int .u32 (a.to : Int)) := by
        have hb4 : w4.heap[wr.heap.size]? = _ := (steady_keeps hgrow).heap ((Below.heap_alloc w3 (.cells #[.int .i64 (a.op : Int)] 3) wr.heap.size (lt_of_heap HB.out)).trans HB.out) (fun e' => by have := (World.ownsRow.lt HO.out _ e').2; omega)
        rw [cell_of_blk hb4]; rfl
      clear hown hgrow hat hd4 c0 c1 hO3 hmw
      go_wp2_with fail
      go_roundw
      case rel =>
        exact ⟨dn ++ [a.op], r, a.to, HOR.out, HCR.out, rfl, by simp [lenV, intsP], HN.out, HKN.out⟩
      case measure =>
        simp only [lenV] at *
        have h1 : (intsP dn).length = dn.length := by simp [intsP]
        omega

end Go.Proofs.YtcpmjoabhnfddaaGreat

namespace Go.Proofs.YtcpmjoabhnfddaaGreat.U
open Go.RowKit

theorem firstMin_least {A : List (Int × Int)} : ∀ {p : Int × Int}, firstMin A = some p → ∀ a ∈ A, p.2 ≤ a.2 := by
  induction A with
  | nil => intro p h; cases h
  | cons q r ih =>
    intro p h a ha
    simp only [firstMin] at h
    split at h
    · rename_i hr
      simp at h; subst h
      rw [firstMin_none.1 hr] at ha
      simp at ha; subst ha; exact Int.le_refl _
    · rename_i q' hq'
      have hi := ih hq'
      split at h
      · simp at h; subst h
        rcases List.mem_cons.1 ha with rfl | h2
        · omega
        · exact hi a h2
      · simp at h; subst h
        rcases List.mem_cons.1 ha with rfl | h2
        · exact Int.le_refl _
        · have := hi a h2; omega

end Go.Proofs.YtcpmjoabhnfddaaGreat.U

namespace Go.Proofs.YtcpmjoabhnfddaaGreat

/-- A heuristic that never says more than a way to a goal costs, and says 'infinite' only where there is none. -/
structure Adm (ops : List Wop) (L : List Nat) (acc : Nat → Bool) (H : Nat → Int) : Prop where
  lo : ∀ x ∈ L, 0 ≤ H x ∧ H x ≤ 1000000000
  low : ∀ x ∈ L, ∀ p y, runOps ops x p = some y → acc y = true → H x ≤ costN ops p ∧ H x < 1000000000

/-- The arcs that do not lead to a state without a plan. -/
def liveG (H : Nat → Int) (G : Nat → List SArc) : Nat → List SArc := fun x => (G x).filter fun a => decide (H a.to < 1000000000)
/-- The queue's keys: price and heuristic. -/
def liftA (H : Nat → Int) (A : List (Int × Int)) : List (Int × Int) := A.map fun z => (z.1, z.2 + 4096 * H z.1.toNat)

theorem liftA_drop (H : Nat → Int) (A : List (Int × Int)) (x : Int) : liftA H (A.filter fun z => z.1 != x) = (liftA H A).filter fun z => z.1 != x := by
  unfold liftA
  rw [List.filter_map]
  rfl
theorem liftA_put (H : Nat → Int) (A : List (Int × Int)) (x : Nat) (k : Int) : liftA H (putA A (x : Int) k) = putA (liftA H A) (x : Int) (k + 4096 * H x) := by
  unfold putA
  rw [← liftA_drop]
  unfold liftA
  rw [List.map_append]
  simp
theorem liftA_len (H : Nat → Int) (A : List (Int × Int)) : (liftA H A).length = A.length := by unfold liftA; rw [List.length_map]
theorem liftA_mem {H : Nat → Int} {A : List (Int × Int)} {x : Nat} {p : Int} (h : ((x : Int), p) ∈ A) : ((x : Int), p + 4096 * H x) ∈ liftA H A := by
  unfold liftA
  exact List.mem_map.2 ⟨_, h, by simp⟩

/-- What stays of a search while the arcs of the state s are looked at: the arcs in R are still to do; a goal state with a price waits. -/
structure AstI (ops : List Wop) (L : List Nat) (st : Nat) (acc : Nat → Bool) (H : Nat → Int) (P : Nat → Option Int) (par : Nat → Option SArc) (A : List (Int × Int)) (s : Nat) (R : List SArc) (dn : Nat → Option Unit) : Prop where
  i : SideI (liveG H (nextG ops L)) (fun x => x ∈ [st]) L 409601 P par A s R
  g : ∀ x p, P x = some p → acc x = true → ((x : Int), p) ∈ A
  dIn : ∀ x u, dn x = some u → x ∈ L
  way : ∀ x u, dn x = some u → ∃ r, runOps ops st r = some x ∧ ∀ q y, runOps ops st q = some y → acc y = true → wayN 4096 1 ops r + 4096 * H x ≤ wayN 4096 1 ops q
  seen : ∀ x q, P x = some q → ((x : Int), q) ∈ A ∨ ∃ u, dn x = some u

section
variable {ops : List Wop} {L : List Nat} {st : Nat} {acc : Nat → Bool} {H : Nat → Int} {P : Nat → Option Int} {par : Nat → Option SArc} {A : List (Int × Int)} {s : Nat} {R : List SArc} {dn : Nat → Option Unit}
theorem live_only : ∀ y, ∀ b ∈ liveG H (nextG ops L) y, ∃ o, ops[b.op]? = some o ∧ o.can y = true ∧ b.to = o.next y ∧ b.price = 4096 * o.cost + 1 := fun y b hb => nextG_only y b (List.mem_filter.1 hb).1
theorem live_price (h0 : ∀ o ∈ ops, 0 ≤ o.cost ∧ o.cost ≤ 100) : ∀ y, ∀ b ∈ liveG H (nextG ops L) y, 1 ≤ b.price ∧ b.price ≤ 409601 := fun y b hb => nextG_price h0 y b (List.mem_filter.1 hb).1
theorem live_in (hsh : Shut ops L) : ∀ y, ∀ b ∈ liveG H (nextG ops L) y, b.to ∈ L := fun y b hb => nextG_in hsh y b (List.mem_filter.1 hb).1

theorem AstI.start (hst : st ∈ L) (acc : Nat → Bool) : AstI ops L st acc H (startP [st]) (fun _ => none) (startA [st]) 0 [] (fun _ => none) := by
  have hi := SideI.init (G := liveG H (nextG ops L)) (L := L) (S := [st]) (C := 409601) (by decide) (fun x hx => by rw [List.mem_singleton] at hx; subst hx; exact hst) 0
  have hs : ∀ x p, startP [st] x = some p → ((x : Int), p) ∈ startA [st] := fun x p hp => by
    refine (startA_mem [st] _).2 ?_
    unfold startP at hp
    split at hp
    · rename_i hm; cases hp; exact ⟨x, hm, rfl⟩
    · cases hp
  exact ⟨hi, fun x p hp _ => hs x p hp, (fun x u h => by cases h), (fun x u h => by cases h), fun x q h => .inl (hs x q h)⟩

theorem AstI.skip {a : SArc} (h : AstI ops L st acc H P par A s (a :: R) dn) {p q : Int} (hp : P s = some p) (hq : P a.to = some q) (hle : q ≤ p + a.price) : AstI ops L st acc H P par A s R dn := ⟨h.i.skip hp hq hle, h.g, h.dIn, h.way, h.seen⟩
theorem AstI.fall {a : SArc} (h : AstI ops L st acc H P par A s (a :: R) dn) (hn : L.Nodup) (hsh : Shut ops L) (h0 : ∀ o ∈ ops, 0 ≤ o.cost ∧ o.cost ≤ 100) (ha : a ∈ liveG H (nextG ops L) s) {p : Int} (hp : P s = some p) (hlt : ∀ q, P a.to = some q → p + a.price < q) :
    AstI ops L st acc H (putP P a.to (p + a.price)) (putP par a.to ⟨a.op, a.price, s⟩) (putA A (a.to : Int) (p + a.price)) s R dn :=
  ⟨h.i.fall hn (live_price h0) (live_in hsh _ _ ha) ha hp hlt, fun y q hq hy => mem_putA.2 (by
    by_cases hya : y = a.to
    · subst hya
      rw [putP_same] at hq; cases hq
      exact .inr rfl
    · rw [putP_other _ _ hya] at hq
      exact .inl ⟨h.g y q hq hy, by simp; omega⟩), h.dIn, h.way, fun y q hq => by
    by_cases hya : y = a.to
    · subst hya
      rw [putP_same] at hq; cases hq
      exact .inl (mem_putA.2 (.inr rfl))
    · rw [putP_other _ _ hya] at hq
      rcases h.seen y q hq with h1 | h1
      · exact .inl (mem_putA.2 (.inl ⟨h1, by simp; omega⟩))
      · exact .inr h1⟩
theorem AstI.anyS {s' : Nat} (h : AstI ops L st acc H P par A s [] dn) : AstI ops L st acc H P par A s' [] dn := ⟨h.i.anyS, h.g, h.dIn, h.way, h.seen⟩

/-- On the way to a goal state: a state waits, or the goal state has its price. -/
theorem frontH (hsh : Shut ops L) (ad : Adm ops L acc H) (h : AstI ops L st acc H P par A s [] dn) : ∀ {p : List Nat} {x y : Nat} {q c : Int}, P x = some q → q ≤ c → runOps ops x p = some y → acc y = true →
    (∃ p1 p2 z k, p = p1 ++ p2 ∧ runOps ops z p2 = some y ∧ z ∈ L ∧ ((z : Int), k) ∈ A ∧ k ≤ c + wayN 4096 1 ops p1) ∨ (∃ k, P y = some k ∧ k ≤ c + wayN 4096 1 ops p)
  | [], x, y, q, c, hq, hc, hr, _ => by cases hr; exact .inr ⟨q, hq, by rw [wayN_nil]; omega⟩
  | a :: p, x, y, q, c, hq, hc, hr, hy => by
    have hxL := h.i.dom x q hq
    rcases h.i.pend x q hq with h1 | h1
    · exact .inl ⟨[], a :: p, x, q, rfl, hr, hxL, h1, by rw [wayN_nil]; omega⟩
    · rw [runOps] at hr
      cases ho : ops[a]? with
      | none => rw [ho] at hr; cases hr
      | some o =>
        rw [ho] at hr; simp only at hr
        by_cases hcan : o.can x = true
        · rw [if_pos hcan] at hr
          have hnL := hsh.2 x hxL o (List.mem_of_getElem? ho) hcan
          have hlive := (ad.low _ hnL p y hr hy).2
          rcases h1 _ (List.mem_filter.2 ⟨nextG_all x o a hxL ho hcan, by simpa using hlive⟩) with ⟨q', hq', hle⟩ | ⟨_, h2⟩
          · have e1 : ∀ r, wayN 4096 1 ops (a :: r) = (4096 * o.cost + 1) + wayN 4096 1 ops r := fun r => by
              rw [show a :: r = [a] ++ r from rfl, wayN_append, wayN_one ho]
            simp only at hq' hle
            rcases frontH hsh ad h (c := c + (4096 * o.cost + 1)) hq' (by omega) hr hy with ⟨p1, p2, z, k, e, g1, g2, g3, g4⟩ | ⟨k, g1, g2⟩
            · exact .inl ⟨a :: p1, p2, z, k, by rw [e]; rfl, g1, g2, g3, by rw [e1]; omega⟩
            · exact .inr ⟨k, g1, by rw [e1]; omega⟩
          · simp at h2
        · rw [if_neg hcan] at hr; cases hr

/-- What is taken is worth no more than any plan. -/
theorem min_key (hsh : Shut ops L) (ad : Adm ops L acc H) (h : AstI ops L st acc H P par A s [] dn) {x : Nat} {k : Int} (hx : U.firstMin (liftA H A) = some ((x : Int), k)) : ∀ q y, runOps ops st q = some y → acc y = true → k ≤ wayN 4096 1 ops q := fun q y hr hy => by
  have hleast := U.firstMin_least hx
  simp only at hleast
  rcases frontH hsh ad h (h.i.start st (List.mem_singleton.2 rfl)).1 (Int.le_refl _) hr hy with ⟨p1, p2, z, k', e, g1, g2, g3, g4⟩ | ⟨k', g1, g2⟩
  · have h1 := hleast _ (liftA_mem (H := H) g3)
    simp only at h1
    have h2 := (ad.low z g2 p2 y g1 hy).1
    rw [e, wayN_append]
    have h3 : wayN 4096 1 ops p2 = 4096 * costN ops p2 + (p2.length : Int) := wayN_split ops p2
    omega
  · have h1 := hleast _ (liftA_mem (H := H) (h.g y k' g1 hy))
    simp only at h1
    have h2 := (ad.low y (h.i.dom _ _ g1) [] y rfl hy).1
    have h3 : costN ops [] = 0 := rfl
    omega
theorem AstI.take (hsh : Shut ops L) (h0 : ∀ o ∈ ops, 0 ≤ o.cost ∧ o.cost ≤ 100) (ad : Adm ops L acc H) (h : AstI ops L st acc H P par A s [] dn) {x : Nat} {p : Int} (hx : U.firstMin (liftA H A) = some ((x : Int), p + 4096 * H x)) (hp : P x = some p) (ha : acc x = false) :
    AstI ops L st acc H P par (A.filter fun z => z.1 != (x : Int)) x (liveG H (nextG ops L) x) (putP dn x ()) := by
  have hne : ∀ y, y ≠ x → ∀ q, ((y : Int), q) ∈ A → ((y : Int), q) ∈ A.filter fun z => z.1 != (x : Int) := fun y hy q hq => List.mem_filter.2 ⟨hq, by simp; omega⟩
  refine ⟨h.i.take hp, fun y q hq hy => hne y (fun e => by subst e; rw [ha] at hy; cases hy) q (h.g y q hq hy), fun y u hy => ?_, fun y u hy => ?_, fun y q hq => ?_⟩
  · by_cases e : y = x
    · rw [e]; exact h.i.dom x p hp
    · rw [putP_other _ _ e] at hy; exact h.dIn y u hy
  · by_cases e : y = x
    · subst e
      have cf : ∀ y, ∀ b ∈ liveG H (nextG ops L) y, 1 ≤ b.price := fun y b hb => (live_price h0 y b hb).1
      obtain ⟨out, e, hc, hes, hl⟩ := h.i.back cf hp
      rw [List.mem_singleton] at hes
      subst hes
      obtain ⟨r1, w1⟩ := h.i.chainF live_only hc hp
      exact ⟨_, r1, fun q z hr hz => by have := min_key hsh ad h hx q z hr hz; omega⟩
    · rw [putP_other _ _ e] at hy; exact h.way y u hy
  · by_cases e : y = x
    · exact .inr ⟨(), by rw [e, putP_same]⟩
    · rcases h.seen y q hq with h1 | ⟨u, h1⟩
      · exact .inl (hne y e q h1)
      · exact .inr ⟨u, by rw [putP_other _ _ e]; exact h1⟩

/-- What the expanded states D of a search must be, when a plan of price p is found: none is worth more, and those on cheaper ways are all there. -/
def ExpOk (ops : List Wop) (L : List Nat) (st : Nat) (H : Nat → Int) (p : Int) (D : Nat → Bool) : Prop :=
  (∀ x ∈ L, D x = true → ∃ r, runOps ops st r = some x ∧ wayN 4096 1 ops r + 4096 * H x ≤ p) ∧
  (∀ r x, runOps ops st r = some x → (∀ k y, k ≤ r.length → runOps ops st (r.take k) = some y → wayN 4096 1 ops (r.take k) + 4096 * H y < p) → D x = true)

/-- Nothing waits any more: there is no plan. -/
theorem ast_none (hsh : Shut ops L) (ad : Adm ops L acc H) (h : AstI ops L st acc H P par [] s [] dn) : LeastOf 4096 1 ops st acc (-1) := by
  refine .inl ⟨rfl, fun p y hr => ?_⟩
  cases hy : acc y with
  | false => rfl
  | true =>
    have h0 := (h.i.start st (List.mem_singleton.2 rfl)).1
    rcases frontH hsh ad h h0 (Int.le_refl _) hr hy with ⟨_, _, _, _, _, _, _, h1, _⟩ | ⟨k, hk, _⟩
    · simp at h1
    · have := h.g y k hk hy; simp at this
/-- The start is without a plan. -/
theorem ast_dead (ad : Adm ops L acc H) (hst : st ∈ L) (h : 1000000000 ≤ H st) : LeastOf 4096 1 ops st acc (-1) := by
  refine .inl ⟨rfl, fun p y hr => ?_⟩
  cases hy : acc y with
  | false => rfl
  | true => have := (ad.low st hst p y hr hy).2; omega

/-- A goal state is first: the way to it is best. -/
theorem ast_found (hsh : Shut ops L) (h0 : ∀ o ∈ ops, 0 ≤ o.cost ∧ o.cost ≤ 100) (ad : Adm ops L acc H) (h : AstI ops L st acc H P par A s [] dn) {x : Nat} {k : Int} (hx : U.firstMin (liftA H A) = some ((x : Int), k)) (ha : acc x = true) :
    ∃ p out, P x = some p ∧ Chain par x out st ∧ out.length ≤ L.length ∧ runOps ops st out.reverse = some x ∧ wayN 4096 1 ops out.reverse = p ∧ LeastOf 4096 1 ops st acc p := by
  have hm := U.firstMin_mem hx
  unfold liftA at hm
  obtain ⟨⟨x', p⟩, hxp, he⟩ := List.mem_map.1 hm
  simp only [Prod.mk.injEq] at he
  obtain ⟨rfl, hk⟩ := he
  obtain ⟨x1, hx1, hP⟩ := h.i.key _ hxp
  have hx2 : x1 = x := by simp only at hx1; omega
  subst hx2
  simp only at hP
  have hxL := h.i.dom _ _ hP
  have goal0 : ∀ y ∈ L, acc y = true → H y = 0 := fun y hy hay => by
    have h1 := (ad.low y hy [] y rfl hay).1
    have h2 := (ad.lo y hy).1
    have h3 : costN ops [] = 0 := rfl
    omega
  have hHx := goal0 _ hxL ha
  rw [Int.toNat_natCast, hHx] at hk
  have hleast := U.firstMin_least hx
  simp only at hleast
  have low : ∀ q y, runOps ops st q = some y → acc y = true → p ≤ wayN 4096 1 ops q := fun q y hr hy => by
    rcases frontH hsh ad h (h.i.start st (List.mem_singleton.2 rfl)).1 (Int.le_refl _) hr hy with ⟨p1, p2, z, k', e, g1, g2, g3, g4⟩ | ⟨k', g1, g2⟩
    · have h1 := hleast _ (liftA_mem (H := H) g3)
      simp only at h1
      have h2 := (ad.low z g2 p2 y g1 hy).1
      rw [e, wayN_append]
      have h3 : wayN 4096 1 ops p2 = 4096 * costN ops p2 + (p2.length : Int) := wayN_split ops p2
      omega
    · have h1 := hleast _ (liftA_mem (H := H) (h.g y k' g1 hy))
      simp only at h1
      have h2 := goal0 y (h.i.dom _ _ g1) hy
      rw [h2] at h1
      omega
  have cf : ∀ y, ∀ b ∈ liveG H (nextG ops L) y, 1 ≤ b.price := fun y b hb => (live_price h0 y b hb).1
  obtain ⟨out, e, hc, hes, hl⟩ := h.i.back cf hP
  rw [List.mem_singleton] at hes
  subst hes
  obtain ⟨r1, w1⟩ := h.i.chainF live_only hc hP
  have hp0 := (h.i.lo _ _ hP).1
  have heq : wayN 4096 1 ops out.reverse = p := by have := low _ _ r1 ha; omega
  exact ⟨p, out, hP, hc, hl, r1, heq, .inr ⟨hp0, ⟨_, _, r1, ha, heq⟩, fun q y hr hy => low q y hr hy⟩⟩
/-- The expanded states when a goal state is first. -/
theorem exp_found (hsh : Shut ops L) (h0 : ∀ o ∈ ops, 0 ≤ o.cost ∧ o.cost ≤ 100) (ad : Adm ops L acc H) (h : AstI ops L st acc H P par A s [] dn) {x : Nat} {k p : Int} (hx : U.firstMin (liftA H A) = some ((x : Int), k)) (ha : acc x = true) (hp : P x = some p) (hbig : p ≤ 4096000000000) {q : List Nat} {y : Nat} (hr : runOps ops st q = some y) (hy : acc y = true) (hw : wayN 4096 1 ops q = p) :
    ExpOk ops L st H p (fun z => (dn z).isSome) := by
  refine ⟨fun z _ hz => ?_, fun r z hrz hpre => ?_⟩
  · obtain ⟨u, hu⟩ := Option.isSome_iff_exists.1 hz
    obtain ⟨r, h1, h2⟩ := h.way z u hu
    exact ⟨r, h1, by have := h2 q y hr hy; omega⟩
  · have hm := U.firstMin_mem hx
    unfold liftA at hm
    obtain ⟨⟨x', p'⟩, hxp, he⟩ := List.mem_map.1 hm
    simp only [Prod.mk.injEq] at he
    obtain ⟨rfl, hk⟩ := he
    obtain ⟨x1, hx1, hP⟩ := h.i.key _ hxp
    have hx2 : x1 = x := by simp only at hx1; omega
    subst hx2
    simp only at hP
    rw [hp] at hP; cases hP
    have hHx : H x1 = 0 := by
      have h1 := (ad.low x1 (h.i.dom _ _ hp) [] x1 rfl ha).1
      have h2 := (ad.lo x1 (h.i.dom _ _ hp)).1
      have h3 : costN ops [] = 0 := rfl
      omega
    rw [Int.toNat_natCast, hHx] at hk
    have hleast := U.firstMin_least hx
    simp only at hleast
    have out : ∀ y1 q1, P y1 = some q1 → q1 + 4096 * H y1 < p → ((y1 : Int), q1) ∉ A := fun y1 q1 _ hlt hm => by
      have := hleast _ (liftA_mem (H := H) hm)
      simp only at this; omega
    have key : ∀ n, n ≤ r.length → ∀ y1, runOps ops st (r.take n) = some y1 → ∃ q1, P y1 = some q1 ∧ q1 ≤ wayN 4096 1 ops (r.take n) := by
      intro n
      induction n with
      | zero =>
        intro _ y1 h1
        rw [List.take_zero] at h1
        cases h1
        exact ⟨0, (h.i.start st (List.mem_singleton.2 rfl)).1, by rw [List.take_zero, wayN_nil]; omega⟩
      | succ n ih =>
        intro hn y1 h1
        obtain ⟨a, hra⟩ : ∃ a, r[n]? = some a := ⟨_, List.getElem?_eq_getElem (by omega)⟩
        have het : r.take (n + 1) = r.take n ++ [a] := by
          rw [List.take_add_one, hra]; rfl
        have hcond := hpre (n + 1) y1 hn h1
        rw [het] at h1
        obtain ⟨y0, o, g1, g2, g3, g4⟩ := runOps_snoc h1
        obtain ⟨q0, hq0, hle0⟩ := ih (by omega) y0 g1
        have hc0 := hpre n y0 (by omega) g1
        have hL0 := h.i.dom y0 q0 hq0
        have hnL := hsh.2 y0 hL0 o (List.mem_of_getElem? g2) g3
        have hw1 : wayN 4096 1 ops (r.take (n + 1)) = wayN 4096 1 ops (r.take n) + (4096 * o.cost + 1) := by rw [het, wayN_append, wayN_one g2]
        have hc := h0 o (List.mem_of_getElem? g2)
        have hHn := ad.lo _ hnL
        have hlow := (h.i.lo y0 q0 hq0).1
        rcases h.i.pend y0 q0 hq0 with h2 | h2
        · exact absurd h2 (out y0 q0 hq0 (by omega))
        · subst g4
          rcases h2 _ (List.mem_filter.2 ⟨nextG_all y0 o a hL0 g2 g3, by
              have : H (o.next y0) < 1000000000 := by omega
              simpa using this⟩) with ⟨q', hq', hle⟩ | ⟨_, h3⟩
          · simp only at hq' hle
            exact ⟨q', hq', by omega⟩
          · simp at h3
    rw [← List.take_length (l := r)] at hrz
    obtain ⟨q1, hq1, hle1⟩ := key r.length (Nat.le_refl _) z hrz
    have hcz := hpre r.length z (Nat.le_refl _) hrz
    rcases h.seen z q1 hq1 with h2 | ⟨u, h2⟩
    · exact absurd h2 (out z q1 hq1 (by omega))
    · show (dn z).isSome = true
      rw [h2]; rfl
end

end Go.Proofs.YtcpmjoabhnfddaaGreat

namespace Go.Proofs.YtcpmjoabhnfddaaGreat
open Go.RowKit

theorem SideI.few {G : Nat → List SArc} {S0 : Nat → Prop} {L : List Nat} {C : Int} {P : Nat → Option Int} {par : Nat → Option SArc} {A : List (Int × Int)} {s : Nat} {R : List SArc} (h : SideI G S0 L C P par A s R) (hn : (A.map Prod.fst).Nodup) : A.length ≤ L.length := by
  have h1 : (A.map fun p => p.1.toNat).Nodup := by
    unfold List.Nodup at hn ⊢
    rw [List.pairwise_map] at hn ⊢
    refine hn.imp_of_mem (fun {a b} ha hb hab e => hab ?_)
    obtain ⟨x, hx, _⟩ := h.key a ha
    obtain ⟨y, hy, _⟩ := h.key b hb
    rw [hx, hy] at e ⊢
    have e' : x = y := by simpa using e
    rw [e']
  have h2 := nodup_sub_length h1 (b := L) (fun x hx => by
    obtain ⟨p, hp, rfl⟩ := List.mem_map.1 hx
    obtain ⟨y, hy, hP⟩ := h.key p hp
    rw [hy]
    exact h.dom _ _ hP)
  simpa using h2

end Go.Proofs.YtcpmjoabhnfddaaGreat

namespace Go.Proofs.YtcpmjoabhnfddaaGreat
open Go.RowKit Go.Shelf

theorem FMap.not_deferred {α : Type} {w : World} {b : Nat} {enc : α → Value} {f : Nat → Option α} (h : FMap w b enc f) : w.heap[b]? ≠ some (.deferred (some [])) := by
  obtain ⟨es, c, hb⟩ := h.map_block
  rw [hb]; intro e; cases e

section
variable {fl : Bool} {B bf bb bfo bbe bat : Nat} {W W1 : World} {b m0 mp mr md q : Nat} {G : Nat → List SArc} {FG : Nat → Prop} {P : Nat → Option Int} {par : Nat → Option SArc} {dn : Nat → Option Unit} {A : List (Int × Int)} {t : Int} {F : Nat → Prop}
    {b' m0' mp' mr' md' q' : Nat} {G' : Nat → List SArc} {FG' : Nat → Prop} {P' : Nat → Option Int} {par' : Nat → Option SArc} {dn' : Nat → Option Unit} {A' : List (Int × Int)} {t' : Int} {F' : Nat → Prop} {found : Bool} {best : Int} {at_ : Nat}
end

end Go.Proofs.YtcpmjoabhnfddaaGreat

namespace Go.Proofs.YtcpmjoabhnfddaaGreat
open Go.RowKit Go.Shelf

theorem startW (L gs : List Nat) (m : Nat) : weightB L m (startP gs) ≤ L.length * m := by
  unfold weightB
  induction L with
  | nil => simp
  | cons x r ih =>
    rw [List.map_cons, List.sum_cons, List.length_cons, Nat.add_mul, Nat.one_mul, Nat.add_comm]
    refine Nat.add_le_add ih ?_
    unfold startP
    by_cases h : x ∈ gs
    · rw [if_pos h]; exact Nat.zero_le _
    · rw [if_neg h]; exact Nat.le_refl _
end Go.Proofs.YtcpmjoabhnfddaaGreat

namespace Go.Proofs.YtcpmjoabhnfddaaGreat
open Go.RowKit

/-- The three maps and the queue of a search, each apart from the others. -/
structure AstM (w : World) (base mp mr md q : Nat) (P : Nat → Option Int) (fp : Nat → Option SArc) (dn : Nat → Option Unit) (A : List (Int × Int)) (t : Int) (F : Nat → Prop) : Prop where
  price : FMap w mp intV P
  par_ : FMap w mr backV fp
  done : FMap w md unitV dn
  q : U.QRep w q A t F
  lF : ∀ k, F k → base ≤ k ∧ k < w.heap.size ∧ k ≠ mp ∧ k ≠ mr ∧ k ≠ md
  lp : base ≤ mp
  lr : base ≤ mr
  ld : base ≤ md
  n1 : mp ≠ mr
  n2 : mp ≠ md
  n3 : mr ≠ md

section
variable {w w' : World} {base mp mr md q : Nat} {P P' : Nat → Option Int} {fp fp' : Nat → Option SArc} {dn dn' : Nat → Option Unit} {A A' : List (Int × Int)} {t t' : Int} {F F' : Nat → Prop}
theorem AstM.priced (h : AstM w base mp mr md q P fp dn A t F) (hk : Keeps (fun k => k = mp) w w') (hp : FMap w' mp intV P') : AstM w' base mp mr md q P' fp dn A t F :=
  ⟨hp, h.par_.keeps hk (fun e => h.n1 e.symm), h.done.keeps hk (fun e => h.n2 e.symm), h.q.keeps hk (fun k hF e => (h.lF k hF).2.2.1 e),
   fun k hF => ⟨(h.lF k hF).1, Nat.lt_of_lt_of_le (h.lF k hF).2.1 hk.size, (h.lF k hF).2.2⟩, h.lp, h.lr, h.ld, h.n1, h.n2, h.n3⟩
theorem AstM.pard (h : AstM w base mp mr md q P fp dn A t F) (hk : Keeps (fun k => k = mr) w w') (hp : FMap w' mr backV fp') : AstM w' base mp mr md q P fp' dn A t F :=
  ⟨h.price.keeps hk (fun e => h.n1 e), hp, h.done.keeps hk (fun e => h.n3 e.symm), h.q.keeps hk (fun k hF e => (h.lF k hF).2.2.2.1 e),
   fun k hF => ⟨(h.lF k hF).1, Nat.lt_of_lt_of_le (h.lF k hF).2.1 hk.size, (h.lF k hF).2.2⟩, h.lp, h.lr, h.ld, h.n1, h.n2, h.n3⟩
theorem AstM.doned (h : AstM w base mp mr md q P fp dn A t F) (hk : Keeps (fun k => k = md) w w') (hp : FMap w' md unitV dn') : AstM w' base mp mr md q P fp dn' A t F :=
  ⟨h.price.keeps hk (fun e => h.n2 e), h.par_.keeps hk (fun e => h.n3 e), hp, h.q.keeps hk (fun k hF e => (h.lF k hF).2.2.2.2 e),
   fun k hF => ⟨(h.lF k hF).1, Nat.lt_of_lt_of_le (h.lF k hF).2.1 hk.size, (h.lF k hF).2.2⟩, h.lp, h.lr, h.ld, h.n1, h.n2, h.n3⟩
theorem AstM.queued (h : AstM w base mp mr md q P fp dn A t F) (hk : Keeps F w w') (hq : U.QRep w' q A' t' F') (hF : ∀ k, F' k → F k ∨ w.heap.size ≤ k) (hb : base ≤ w.heap.size) : AstM w' base mp mr md q P fp dn A' t' (fun k => F' k ∧ k < w'.heap.size) := by
  have lp := h.price.lt
  have lr := h.par_.lt
  have ld := h.done.lt
  refine ⟨h.price.keeps hk (fun e => (h.lF mp e).2.2.1 rfl), h.par_.keeps hk (fun e => (h.lF mr e).2.2.2.1 rfl), h.done.keeps hk (fun e => (h.lF md e).2.2.2.2 rfl),
    U.QRep.mono hq (fun k hk' hF' => ⟨hF', hk'⟩), fun k hF' => ?_, h.lp, h.lr, h.ld, h.n1, h.n2, h.n3⟩
  rcases hF k hF'.1 with h1 | h1
  · exact ⟨(h.lF k h1).1, hF'.2, (h.lF k h1).2.2⟩
  · exact ⟨by omega, hF'.2, by omega, by omega, by omega⟩
theorem AstM.keeps {S : Nat → Prop} (h : AstM w base mp mr md q P fp dn A t F) (hk : Keeps S w w') (h1 : ¬ S mp) (h2 : ¬ S mr) (h3 : ¬ S md) (hF : ∀ k, F k → ¬ S k) : AstM w' base mp mr md q P fp dn A t F :=
  ⟨h.price.keeps hk h1, h.par_.keeps hk h2, h.done.keeps hk h3, h.q.keeps hk hF, fun k hF => ⟨(h.lF k hF).1, Nat.lt_of_lt_of_le (h.lF k hF).2.1 hk.size, (h.lF k hF).2.2⟩, h.lp, h.lr, h.ld, h.n1, h.n2, h.n3⟩
theorem AstM.keeps0 (h : AstM w base mp mr md q P fp dn A t F) (hk : Keeps (fun _ => False) w w') : AstM w' base mp mr md q P fp dn A t F :=
  h.keeps hk (fun h => h) (fun h => h) (fun h => h) (fun _ _ h => h)
theorem AstM.low {S : Nat → Prop} (h : AstM w base mp mr md q P fp dn A t F) (hk : Keeps S w w') (hS : ∀ k, S k → k < base) : AstM w' base mp mr md q P fp dn A t F :=
  h.keeps hk (fun e => by have := hS _ e; have := h.lp; omega) (fun e => by have := hS _ e; have := h.lr; omega) (fun e => by have := hS _ e; have := h.ld; omega) (fun k hF e => by have := hS _ e; have := (h.lF k hF).1; omega)
theorem AstM.live (h : AstM w base mp mr md q P fp dn A t F) : AstM w base mp mr md q P fp dn A t (fun k => F k ∧ k < w.heap.size ∧ w.heap[k]? ≠ some (.deferred (some []))) :=
  { h with q := h.q.live, lF := fun k hk => h.lF k hk.1 }
end

/-- A heuristic as a function value: H is what it says of the states of L; it keeps its own memory between n0 and B, of which it changes the blocks FH. -/
structure Heur (g : Nat) (pa cb : Array Value) (L : List Nat) (H : Nat → Int) (n0 B : Nat) (FH : Nat → Prop) (I : World → Prop) : Prop where
  enters : ∀ args w, (callFunc g args).run Tryz.prog w = .ok (.enter g args) w
  answers : ∀ W x, I W → x ∈ L → Calls Tryz.prog g (pa.push (.int .u32 (x : Int)) ++ cb) W fun e W' => e = .returned (.int .i64 (H x)) ∧ I W' ∧ Keeps FH W W'
  steady : ∀ {S : Nat → Prop} {W W' : World}, I W → Keeps S W W' → (∀ k, S k → B ≤ k) → I W'
  nd : ∀ {W : World} {k : Nat}, I W → FH k → W.heap[k]? ≠ some (.deferred (some []))
  lo : ∀ k, FH k → n0 ≤ k ∧ k < B

/-- The map of the parents: the start has itself, the others what the search says. -/
def parF (st : Nat) (par : Nat → Option SArc) : Nat → Option SArc := fun x => if x = st then some ⟨0, 0, st⟩ else par x
theorem parF_put {st : Nat} {par : Nat → Option SArc} {x : Nat} {a : SArc} (h : x ≠ st) : putP (parF st par) x a = parF st (putP par x a) := by
  funext y
  unfold putP parF
  by_cases h1 : y = x
  · subst h1; simp [h]
  · simp [h1]
theorem parF_of {st : Nat} {par : Nat → Option SArc} (h0 : par st = none) : ∀ y a, par y = some a → parF st par y = some a := fun y a h => by
  unfold parF
  rw [if_neg (fun e => by subst e; rw [h0] at h; cases h)]
  exact h
theorem parF_start (st : Nat) : putP (fun _ => none) st (⟨0, 0, st⟩ : SArc) = parF st (fun _ => none) := by
  funext y
  unfold putP parF
  rfl

end Go.Proofs.YtcpmjoabhnfddaaGreat
