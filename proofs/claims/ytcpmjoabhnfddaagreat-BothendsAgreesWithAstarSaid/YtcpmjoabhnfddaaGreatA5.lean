/- A search from both ends, in plain Lean: the way back from a state, the measure of the search, its start, and the best plan at its end. A search from both ends, in plain Lean: the state in the middle, and the costs of both parts. A search from both ends, in plain Lean: the arcs of both sides. strips.Contains, Update, Can, Next. strips.Solves, Cost, Play. CostOf: the cost of a plan. novelty.Plan. A search by novelty of a width that no state exceeds finds a plan if there is one, in plain words. The reference's BestPlans and BestFault. The reference's BestFault. bothends: what meet's two sides say of the task's plans (plain), and what a search for best plans hands back. A map with words as keys, as a function that is not defined everywhere. bothends: a side in memory, and (*side).back. bothends: the closure that notes where the sides meet (meet$1). bothends: newSide. bothends: what advance turns in memory, and the call of the closure behind a fallen price. bothends: the rows of arcs of both sides, as they grow; the cells of a row of arcs. No condition beyond what each theorem says. -/
import Derived.Test.YtcpmjoabhnfddaaGreatA4
import Derived.Sort.OwnSortedInts
import Derived.Test.YtcpmjoabhnfddaaGreatA3
import Derived.Test.YtcpmjoabhnfddaaGreatA1
import Derived.Test.YtcpmjoabhnfddaaGreatA2
import Derived.BigQuiet

namespace Go.Proofs.YtcpmjoabhnfddaaGreat

/-- The operators from a state back to the end of a side. -/
inductive Chain (par : Nat → Option SArc) : Nat → List Nat → Nat → Prop
  | nil {x : Nat} : par x = none → Chain par x [] x
  | cons {x : Nat} {a : SArc} {out : List Nat} {e : Nat} : par x = some a → Chain par a.to out e → Chain par x (a.op :: out) e

section
variable {G : Nat → List SArc} {S0 : Nat → Prop} {L : List Nat} {C : Int} {P : Nat → Option Int} {par : Nat → Option SArc} {A : List (Int × Int)} {s : Nat}
/-- Every state with a price has a way back; the states on it fall in price, so it is no longer than L. -/
theorem SideI.chain (h : SideI G S0 L C P par A s []) (hC : ∀ y, ∀ b ∈ G y, 1 ≤ b.price) [∀ x, Decidable (S0 x)] : ∀ (n : Nat) (x : Nat) (p : Int), P x = some p → p.toNat ≤ n →
    ∃ (out : List Nat) (e : Nat) (vs : List Nat), Chain par x out e ∧ S0 e ∧ vs.length = out.length ∧ vs.Nodup ∧ (∀ y ∈ vs, ∃ q, P y = some q ∧ q ≤ p ∧ y ∈ L)
  | n, x, p, hp, hn => by
    by_cases hs : S0 x
    · exact ⟨[], x, [], .nil (h.start x hs).2, hs, rfl, List.nodup_nil, by simp⟩
    · obtain ⟨a, ha, hg, q, hq, hle⟩ := h.from_ x p hp hs
      have h1 := hC _ _ hg
      simp only at h1
      have hq0 := (h.lo _ q hq).1
      cases n with
      | zero => omega
      | succ n =>
        obtain ⟨out, e, vs, hc, he, hl, hnd, hall⟩ := SideI.chain h hC n a.to q hq (by omega)
        refine ⟨a.op :: out, e, x :: vs, .cons ha hc, he, by simp [hl], List.nodup_cons.2 ⟨fun hx => ?_, hnd⟩, fun y hy => ?_⟩
        · obtain ⟨q', hq', hle', _⟩ := hall x hx
          rw [hp] at hq'; cases hq'; omega
        · rcases List.mem_cons.1 hy with rfl | hy
          · exact ⟨p, hp, Int.le_refl _, h.dom _ _ hp⟩
          · obtain ⟨q', hq', hle', hL⟩ := hall y hy
            exact ⟨q', hq', by omega, hL⟩
theorem SideI.back (h : SideI G S0 L C P par A s []) (hC : ∀ y, ∀ b ∈ G y, 1 ≤ b.price) [∀ x, Decidable (S0 x)] {x : Nat} {p : Int} (hp : P x = some p) : ∃ out e, Chain par x out e ∧ S0 e ∧ out.length ≤ L.length := by
  obtain ⟨out, e, vs, hc, he, hl, hnd, hall⟩ := h.chain hC p.toNat x p hp (Nat.le_refl _)
  exact ⟨out, e, hc, he, by rw [← hl]; exact nodup_sub_length hnd (fun y hy => (hall y hy).choose_spec.2.2)⟩
/-- From the front side: the way back, turned round, leads to the state, for no more than its price. -/
theorem SideI.chainF {ops : List Wop} (h : SideI G S0 L C P par A s []) (hG : ∀ y, ∀ b ∈ G y, ∃ o, ops[b.op]? = some o ∧ o.can y = true ∧ b.to = o.next y ∧ b.price = 4096 * o.cost + 1) {x e : Nat} {out : List Nat} (hc : Chain par x out e) : ∀ {p : Int}, P x = some p → runOps ops e out.reverse = some x ∧ wayN 4096 1 ops out.reverse ≤ p := by
  induction hc with
  | nil hn => intro p hp; exact ⟨rfl, by rw [List.reverse_nil, wayN_nil]; exact (h.lo _ p hp).1⟩
  | @cons x a out e ha hc ih =>
    intro p hp
    have hs : ¬ S0 x := fun hs => by rw [(h.start x hs).2] at ha; cases ha
    obtain ⟨a', ha', hg, q, hq, hle⟩ := h.from_ x p hp hs
    rw [ha] at ha'; cases ha'
    obtain ⟨o, h1, h2, h3, h4⟩ := hG _ _ hg
    simp only at h1 h2 h3 h4
    obtain ⟨i1, i2⟩ := ih hq
    rw [List.reverse_cons, wayN_append, wayN_one h1, runOps_append, i1]
    refine ⟨?_, by omega⟩
    simp only [Option.bind_some, runOps, h1, h2, if_true]
    rw [← h3]
/-- From the rear side: the way back leads from the state to the end. -/
theorem SideI.chainB {ops : List Wop} (h : SideI G S0 L C P par A s []) (hG : ∀ y, ∀ b ∈ G y, ∃ o, ops[b.op]? = some o ∧ o.can b.to = true ∧ y = o.next b.to ∧ b.price = 4096 * o.cost + 1) {x e : Nat} {out : List Nat} (hc : Chain par x out e) : ∀ {p : Int}, P x = some p → runOps ops x out = some e ∧ wayN 4096 1 ops out ≤ p := by
  induction hc with
  | nil hn => intro p hp; exact ⟨rfl, by rw [wayN_nil]; exact (h.lo _ p hp).1⟩
  | @cons x a out e ha hc ih =>
    intro p hp
    have hs : ¬ S0 x := fun hs => by rw [(h.start x hs).2] at ha; cases ha
    obtain ⟨a', ha', hg, q, hq, hle⟩ := h.from_ x p hp hs
    rw [ha] at ha'; cases ha'
    obtain ⟨o, h1, h2, h3, h4⟩ := hG _ _ hg
    simp only at h1 h2 h3 h4
    obtain ⟨i1, i2⟩ := ih hq
    rw [show a.op :: out = [a.op] ++ out from rfl, wayN_append, wayN_one h1, runOps_append]
    refine ⟨?_, by omega⟩
    simp only [runOps, h1, h2, if_true, Option.bind_some]
    rw [← h3]; exact i1

/-! ### the measure -/
def weightB (L : List Nat) (m : Nat) (P : Nat → Option Int) : Nat := (L.map fun x => match P x with | some p => p.toNat | none => m).sum
theorem weightB_put {m x : Nat} {v : Int} (hv : v.toNat < m) : ∀ {L : List Nat}, x ∈ L → (∀ q, P x = some q → v.toNat < q.toNat) → weightB L m (putP P x v) < weightB L m P := by
  have one : ∀ y, (match putP P x v y with | some p => p.toNat | none => m) ≤ (match P y with | some p => p.toNat | none => m) ∨ y = x := fun y => by
    by_cases hy : y = x
    · exact .inr hy
    · rw [putP_other P v hy]; exact .inl (Nat.le_refl _)
  have hx0 : (∀ q, P x = some q → v.toNat < q.toNat) → (match putP P x v x with | some p => p.toNat | none => m) < (match P x with | some p => p.toNat | none => m) := fun h => by
    rw [putP_same]
    cases hq : P x with
    | none => exact hv
    | some q => exact h q hq
  have le : (∀ q, P x = some q → v.toNat < q.toNat) → ∀ L : List Nat, weightB L m (putP P x v) ≤ weightB L m P := fun h L => by
    induction L with
    | nil => exact Nat.le_refl _
    | cons y r ih =>
      unfold weightB at ih ⊢
      rw [List.map_cons, List.map_cons, List.sum_cons, List.sum_cons]
      rcases one y with h1 | rfl
      · omega
      · have := hx0 h; omega
  intro L
  induction L with
  | nil => intro h; simp at h
  | cons y r ih =>
    intro hx h
    have hle := le h r
    have hlt := hx0 h
    by_cases hy : y = x
    · subst hy
      unfold weightB at hle ⊢
      rw [List.map_cons, List.map_cons, List.sum_cons, List.sum_cons]; omega
    · have hxr : x ∈ r := by
        rcases List.mem_cons.1 hx with e | e
        · exact absurd e.symm hy
        · exact e
      have ih' := ih hxr h
      have h1 := one y
      unfold weightB at ih' ⊢
      rw [List.map_cons, List.map_cons, List.sum_cons, List.sum_cons]
      rcases h1 with h1 | h1
      · omega
      · exact absurd h1 hy
end

/-! ### the start -/
def startP (S : List Nat) : Nat → Option Int := fun x => if x ∈ S then some 0 else none
def startA (S : List Nat) : List (Int × Int) := S.foldl (fun A (x : Nat) => putA A (x : Int) 0) []
theorem startA_mem (S : List Nat) : ∀ z, z ∈ startA S ↔ ∃ x ∈ S, z = ((x : Int), 0) := by
  have key : ∀ (S : List Nat) (A : List (Int × Int)), (∀ z ∈ A, z.2 = 0) → ∀ z, z ∈ S.foldl (fun A (x : Nat) => putA A (x : Int) 0) A ↔ z ∈ A ∨ ∃ x ∈ S, z = ((x : Int), 0) := by
    intro S
    induction S with
    | nil => intro A _ z; simp
    | cons x r ih =>
      intro A hA z
      rw [List.foldl_cons, ih _ (fun z hz => by
        rcases mem_putA.1 hz with ⟨h, _⟩ | rfl
        · exact hA z h
        · rfl), mem_putA]
      constructor
      · rintro ((⟨h, _⟩ | rfl) | ⟨y, hy, rfl⟩)
        · exact .inl h
        · exact .inr ⟨x, by simp, rfl⟩
        · exact .inr ⟨y, by simp [hy], rfl⟩
      · rintro (h | ⟨y, hy, rfl⟩)
        · by_cases e : z.1 = (x : Int)
          · refine .inl (.inr ?_)
            have := hA z h
            cases z; simp at this e; rw [this, e]
          · exact .inl (.inl ⟨h, e⟩)
        · rcases List.mem_cons.1 hy with rfl | hy
          · exact .inl (.inr rfl)
          · exact .inr ⟨y, hy, rfl⟩
  intro z
  unfold startA
  rw [key S [] (by simp)]; simp
theorem SideI.init {G : Nat → List SArc} {L S : List Nat} {C : Int} (hC : 0 ≤ C) (hS : ∀ x ∈ S, x ∈ L) (s : Nat) : SideI G (fun x => x ∈ S) L C (startP S) (fun _ => none) (startA S) s [] := by
  have hP : ∀ {x : Nat} {p : Int}, startP S x = some p → x ∈ S ∧ p = 0 := fun {x p} h => by
    unfold startP at h
    split at h
    · cases h; exact ⟨by assumption, rfl⟩
    · cases h
  refine ⟨fun x p h => hS x (hP h).1, fun x p h => ?_, fun x hx => ⟨by unfold startP; rw [if_pos hx], rfl⟩, fun x p h hn => absurd (hP h).1 hn, fun z hz => ?_, fun x p h => .inl ?_⟩
  · rw [(hP h).2]; exact ⟨Int.le_refl _, Int.mul_nonneg hC (Int.natCast_nonneg _)⟩
  · obtain ⟨x, hx, rfl⟩ := (startA_mem S z).1 hz
    exact ⟨x, rfl, by unfold startP; rw [if_pos hx]⟩
  · rw [(hP h).2]; exact (startA_mem S _).2 ⟨x, (hP h).1, rfl⟩
/-- Before the search nothing is met but at the start. -/
theorem MeetI.init {i : Nat} {S : List Nat} (hi : i ∉ S) : MeetI (startP [i]) (startP S) 0 0 false := by
  refine ⟨fun _ x a b ha hb => ?_, fun h => Bool.noConfusion h, fun h => Bool.noConfusion h⟩
  unfold startP at ha hb
  split at ha
  · rename_i h1
    split at hb
    · rename_i h2
      rw [List.mem_singleton] at h1
      exact hi (h1 ▸ h2)
    · cases hb
  · cases ha
theorem MeetI.initMet {i : Nat} {S : List Nat} (hi : i ∈ S) : MeetI (startP [i]) (startP S) 0 i true := by
  have hP : ∀ {T : List Nat} {x : Nat} {p : Int}, startP T x = some p → p = 0 := fun {T x p} h => by
    unfold startP at h
    split at h
    · cases h; rfl
    · cases h
  refine ⟨fun h => Bool.noConfusion h, fun _ => ⟨0, 0, by unfold startP; simp, by unfold startP; rw [if_pos hi], rfl⟩, fun _ x a b ha hb => ?_⟩
  rw [hP ha, hP hb]; decide

/-- The plan at the end is best. -/
theorem both_best {ops : List Wop} {L : List Nat} {Gf Gb : Nat → List SArc} {i : Nat} {acc : Nat → Bool} {C : Int} {F B : Nat → Option Int} {pf pb : Nat → Option SArc} {Af Ab : List (Int × Int)} {sf sb : Nat} {best : Int} {at_ : Nat} {found : Bool}
    (hGf : ∀ x o (i : Nat), x ∈ L → ops[i]? = some o → o.can x = true → ⟨i, 4096 * o.cost + 1, o.next x⟩ ∈ Gf x) (hGb : ∀ x o (i : Nat), x ∈ L → ops[i]? = some o → o.can x = true → ⟨i, 4096 * o.cost + 1, x⟩ ∈ Gb (o.next x))
    (sGf : ∀ y, ∀ b ∈ Gf y, ∃ o, ops[b.op]? = some o ∧ o.can y = true ∧ b.to = o.next y ∧ b.price = 4096 * o.cost + 1) (sGb : ∀ y, ∀ b ∈ Gb y, ∃ o, ops[b.op]? = some o ∧ o.can b.to = true ∧ y = o.next b.to ∧ b.price = 4096 * o.cost + 1)
    (hsh : Shut ops L) (h0 : ∀ o ∈ ops, 0 ≤ o.cost ∧ o.cost ≤ 100) (hrun : ∀ p y, runOps ops i p = some y → y ∈ L)
    (hf : SideI Gf (fun x => x ∈ [i]) L C F pf Af sf []) (hb : SideI Gb (fun x => x ∈ L.filter acc) L C B pb Ab sb []) (hm : MeetI F B best at_ found) (he : Ends Af Ab found best) :
    (found = false ∧ LeastOf 4096 1 ops i acc (-1)) ∨
    (found = true ∧ LeastOf 4096 1 ops i acc best ∧ ∃ o1 o2 e a b, Chain pf at_ o1 i ∧ Chain pb at_ o2 e ∧ o1.length ≤ L.length ∧ o2.length ≤ L.length ∧ F at_ = some a ∧ B at_ = some b ∧ a + b = best ∧ at_ ∈ L ∧
      runOps ops i o1.reverse = some at_ ∧ runOps ops at_ o2 = some e ∧ acc e = true ∧ wayN 4096 1 ops o1.reverse = a ∧ wayN 4096 1 ops o2 = b) := by
  have low : ∀ p y, runOps ops i p = some y → acc y = true → found = true ∧ best ≤ wayN 4096 1 ops p := fun p y hr hy =>
    met_least hGf hGb hsh h0 hf hb hm he (List.mem_singleton.2 rfl) (List.mem_filter.2 ⟨hrun p y hr, hy⟩) hr
  have cf : ∀ y, ∀ b ∈ Gf y, 1 ≤ b.price := fun y b hb => by
    obtain ⟨o, h1, _, _, h4⟩ := sGf y b hb
    have := (h0 o (List.mem_of_getElem? h1)).1; omega
  have cb : ∀ y, ∀ b ∈ Gb y, 1 ≤ b.price := fun y b hb => by
    obtain ⟨o, h1, _, _, h4⟩ := sGb y b hb
    have := (h0 o (List.mem_of_getElem? h1)).1; omega
  cases hfd : found with
  | false =>
    refine .inl ⟨rfl, .inl ⟨rfl, fun p y hr => ?_⟩⟩
    cases hy : acc y with
    | false => rfl
    | true => have := (low p y hr hy).1; rw [hfd] at this; cases this
  | true =>
    obtain ⟨a, b, ha, hb', hab⟩ := hm.some_ hfd
    obtain ⟨o1, e1, c1, he1, l1⟩ := hf.back cf ha
    obtain ⟨o2, e2, c2, he2, l2⟩ := hb.back cb hb'
    rw [List.mem_singleton] at he1
    subst he1
    obtain ⟨r1, w1⟩ := hf.chainF sGf c1 ha
    obtain ⟨r2, w2⟩ := hb.chainB sGb c2 hb'
    have hacc : acc e2 = true := (List.mem_filter.1 he2).2
    have hall : runOps ops e1 (o1.reverse ++ o2) = some e2 := by rw [runOps_append, r1]; exact r2
    have hle := (low _ _ hall hacc).2
    rw [wayN_append] at hle
    have ea : wayN 4096 1 ops o1.reverse = a := by omega
    have eb : wayN 4096 1 ops o2 = b := by omega
    have hbest0 : 0 ≤ best := by have := (hf.lo _ a ha).1; have := (hb.lo _ b hb').1; omega
    exact .inr ⟨rfl, .inr ⟨hbest0, ⟨_, _, hall, hacc, by rw [wayN_append]; omega⟩, fun p y hr hy => (low p y hr hy).2⟩, o1, o2, e2, a, b, c1, c2, l1, l2, ha, hb', hab, hf.dom _ _ ha, r1, r2, hacc, ea, eb⟩

end Go.Proofs.YtcpmjoabhnfddaaGreat

namespace Go.Proofs.YtcpmjoabhnfddaaGreat

theorem run_cut {ops : List Wop} {p : List Nat} {x y : Nat} (h : runOps ops x p = some y) (i : Nat) : ∃ z, runOps ops x (p.take i) = some z ∧ runOps ops z (p.drop i) = some y := by
  rw [← List.take_append_drop i p, runOps_append] at h
  cases hz : runOps ops x (p.take i) with
  | none => rw [hz] at h; cases h
  | some z => rw [hz] at h; exact ⟨z, rfl, h⟩
/-- Every run has one of no greater cost that is no longer than there are states. -/
theorem short_run {ops : List Wop} {L : List Nat} (h0 : ∀ o ∈ ops, 0 ≤ o.cost ∧ o.cost ≤ 100) {x : Nat} (hL : ∀ p y, runOps ops x p = some y → y ∈ L) : ∀ (n : Nat) {p : List Nat} {y : Nat}, p.length ≤ n → runOps ops x p = some y → ∃ q, runOps ops x q = some y ∧ costN ops q ≤ costN ops p ∧ q.length ≤ L.length
  | n, p, y, hn, hr => by
    by_cases hle : p.length ≤ L.length
    · exact ⟨p, hr, Int.le_refl _, hle⟩
    · have hrep : ∃ i j, i < j ∧ j ≤ p.length ∧ runOps ops x (p.take i) = runOps ops x (p.take j) := by
        refine Classical.byContradiction fun hno => hle ?_
        have hnd : ((List.range (p.length + 1)).map fun i => (runOps ops x (p.take i)).getD 0).Nodup := by
          unfold List.Nodup
          rw [List.pairwise_iff_getElem]
          intro i j hi hj hij e
          simp only [List.getElem_map, List.getElem_range] at e
          simp only [List.length_map, List.length_range] at hi hj
          obtain ⟨zi, hzi, _⟩ := run_cut hr i
          obtain ⟨zj, hzj, _⟩ := run_cut hr j
          rw [hzi, hzj] at e
          simp only [Option.getD_some] at e
          exact hno ⟨i, j, hij, by omega, by rw [hzi, hzj, e]⟩
        have := nodup_sub_length hnd (b := L) (fun z hz => by
          obtain ⟨i, _, rfl⟩ := List.mem_map.1 hz
          obtain ⟨zi, hzi, _⟩ := run_cut hr i
          rw [hzi]; exact hL _ _ hzi)
        rw [List.length_map, List.length_range] at this; omega
      obtain ⟨i, j, hij, hj, he⟩ := hrep
      obtain ⟨z, hz1, hz2⟩ := run_cut hr j
      have hrq : runOps ops x (p.take i ++ p.drop j) = some y := by rw [runOps_append, he, hz1]; exact hz2
      have hlen : (p.take i ++ p.drop j).length < p.length := by simp only [List.length_append, List.length_take, List.length_drop]; omega
      have hcost : costN ops (p.take i ++ p.drop j) ≤ costN ops p := by
        have e1 : costN ops p = costN ops (p.take j) + costN ops (p.drop j) := by rw [← costN_append, List.take_append_drop]
        have e2 : p.take j = p.take i ++ (p.take j).drop i := by
          have := List.take_append_drop i (p.take j)
          rw [List.take_take, Nat.min_eq_left (by omega)] at this
          exact this.symm
        have e3 : costN ops (p.take j) = costN ops (p.take i) + costN ops ((p.take j).drop i) := by rw [← costN_append, ← e2]
        have := (costN_bound h0 ((p.take j).drop i)).1
        rw [costN_append]; omega
      cases n with
      | zero => omega
      | succ n =>
        obtain ⟨q, h1, h2, h3⟩ := short_run h0 hL n (by omega) hrq
        exact ⟨q, h1, by omega, h3⟩

theorem wayN_split (ops : List Wop) (p : List Nat) : wayN 4096 1 ops p = 4096 * costN ops p + (p.length : Int) := by unfold wayN; omega

/-- Both parts are cheapest, and so is the whole. -/
theorem mid_least {ops : List Wop} {L : List Nat} {i m : Nat} {acc : Nat → Bool} (h0 : ∀ o ∈ ops, 0 ≤ o.cost ∧ o.cost ≤ 100) (hL : L.length ≤ 2000) (hcl : ∀ x ∈ L, ∀ p y, runOps ops x p = some y → y ∈ L) (hi : i ∈ L) {o1 o2 : List Nat} {e : Nat} {best : Int}
    (r1 : runOps ops i o1 = some m) (r2 : runOps ops m o2 = some e) (ha : acc e = true) (l1 : o1.length ≤ L.length) (l2 : o2.length ≤ L.length) (hb : wayN 4096 1 ops o1 + wayN 4096 1 ops o2 = best) (hle : LeastOf 4096 1 ops i acc best) :
    wayN 4096 1 ops o1 / 4096 = costN ops o1 ∧ wayN 4096 1 ops o2 / 4096 = costN ops o2 ∧
    (∀ q, runOps ops i q = some m → costN ops o1 ≤ costN ops q) ∧ (∀ q y, runOps ops m q = some y → acc y = true → costN ops o2 ≤ costN ops q) ∧ (∀ q y, runOps ops i q = some y → acc y = true → costN ops o1 + costN ops o2 ≤ costN ops q) := by
  have hm := hcl i hi o1 m r1
  have hall : runOps ops i (o1 ++ o2) = some e := by rw [runOps_append, r1]; exact r2
  have least : ∀ q y, runOps ops i q = some y → acc y = true → best ≤ wayN 4096 1 ops q := fun q y hq hy => by
    rcases hle with ⟨_, h2⟩ | ⟨_, _, h3⟩
    · rw [h2 _ _ hall] at ha; cases ha
    · exact h3 q y hq hy
  have e1 := wayN_split ops o1
  have e2 := wayN_split ops o2
  refine ⟨by omega, by omega, fun q hq => ?_, fun q y hq hy => ?_, fun q y hq hy => ?_⟩
  · obtain ⟨q', h1, h2, h3⟩ := short_run h0 (hcl i hi) q.length (Nat.le_refl _) hq
    have := least (q' ++ o2) e (by rw [runOps_append, h1]; exact r2) ha
    rw [wayN_append, wayN_split ops q'] at this
    omega
  · obtain ⟨q', h1, h2, h3⟩ := short_run h0 (hcl m hm) q.length (Nat.le_refl _) hq
    have := least (o1 ++ q') y (by rw [runOps_append, r1]; exact h1) hy
    rw [wayN_append, wayN_split ops q'] at this
    omega
  · obtain ⟨q', h1, h2, h3⟩ := short_run h0 (hcl i hi) q.length (Nat.le_refl _) hq
    have := least q' y h1 hy
    rw [wayN_split ops q'] at this
    omega

end Go.Proofs.YtcpmjoabhnfddaaGreat

namespace Go.Proofs.YtcpmjoabhnfddaaGreat

def arcOf (e : Stp) : SArc := ⟨e.op, 4096 * e.cost + 1, e.to⟩
def arcTo (s : Nat) (e : Stp) : SArc := ⟨e.op, 4096 * e.cost + 1, s⟩
/-- The arcs from the states of a list. -/
def nextG (ops : List Wop) (ss : List Nat) (x : Nat) : List SArc := if x ∈ ss then (wsteps ops x).map arcOf else []
/-- The arcs that lead to a state, turned round. -/
def lastG (ops : List Wop) (ss : List Nat) (y : Nat) : List SArc := ss.flatMap fun s => ((wsteps ops s).filter fun e => e.to == y).map (arcTo s)

section
variable {ops : List Wop} {L : List Nat}
theorem nextG_all : ∀ x o (i : Nat), x ∈ L → ops[i]? = some o → o.can x = true → (⟨i, 4096 * o.cost + 1, o.next x⟩ : SArc) ∈ nextG ops L x := fun x o i hx ho hc => by
  unfold nextG
  rw [if_pos hx]
  exact List.mem_map.2 ⟨⟨i, o.cost, o.next x⟩, wsteps_mem.2 ⟨o, ho, hc, rfl, rfl⟩, rfl⟩
theorem lastG_all : ∀ x o (i : Nat), x ∈ L → ops[i]? = some o → o.can x = true → (⟨i, 4096 * o.cost + 1, x⟩ : SArc) ∈ lastG ops L (o.next x) := fun x o i hx ho hc => by
  unfold lastG
  refine List.mem_flatMap.2 ⟨x, hx, List.mem_map.2 ⟨⟨i, o.cost, o.next x⟩, List.mem_filter.2 ⟨wsteps_mem.2 ⟨o, ho, hc, rfl, rfl⟩, by simp⟩, rfl⟩⟩
theorem nextG_only : ∀ y, ∀ b ∈ nextG ops L y, ∃ o, ops[b.op]? = some o ∧ o.can y = true ∧ b.to = o.next y ∧ b.price = 4096 * o.cost + 1 := fun y b hb => by
  unfold nextG at hb
  split at hb
  · obtain ⟨e, he, rfl⟩ := List.mem_map.1 hb
    obtain ⟨o, h1, h2, h3, h4⟩ := wsteps_mem.1 he
    exact ⟨o, h1, h2, h4, by unfold arcOf; simp only; rw [h3]⟩
  · simp at hb
theorem lastG_only : ∀ y, ∀ b ∈ lastG ops L y, ∃ o, ops[b.op]? = some o ∧ o.can b.to = true ∧ y = o.next b.to ∧ b.price = 4096 * o.cost + 1 := fun y b hb => by
  unfold lastG at hb
  obtain ⟨s, hs, hb⟩ := List.mem_flatMap.1 hb
  obtain ⟨e, he, rfl⟩ := List.mem_map.1 hb
  obtain ⟨he, hey⟩ := List.mem_filter.1 he
  obtain ⟨o, h1, h2, h3, h4⟩ := wsteps_mem.1 he
  have : e.to = y := by simpa using hey
  exact ⟨o, h1, h2, by rw [← this]; exact h4, by unfold arcTo; simp only; rw [h3]⟩
theorem lastG_in : ∀ y, ∀ b ∈ lastG ops L y, b.to ∈ L := fun y b hb => by
  unfold lastG at hb
  obtain ⟨s, hs, hb⟩ := List.mem_flatMap.1 hb
  obtain ⟨e, _, rfl⟩ := List.mem_map.1 hb
  exact hs
theorem nextG_in (hsh : Shut ops L) : ∀ y, ∀ b ∈ nextG ops L y, b.to ∈ L := fun y b hb => by
  obtain ⟨o, h1, h2, h3, _⟩ := nextG_only y b hb
  unfold nextG at hb
  split at hb
  · rename_i hy; rw [h3]; exact hsh.2 y hy o (List.mem_of_getElem? h1) h2
  · simp at hb
theorem nextG_price (h0 : ∀ o ∈ ops, 0 ≤ o.cost ∧ o.cost ≤ 100) : ∀ y, ∀ b ∈ nextG ops L y, 1 ≤ b.price ∧ b.price ≤ 409601 := fun y b hb => by
  obtain ⟨o, h1, _, _, h4⟩ := nextG_only y b hb
  have := h0 o (List.mem_of_getElem? h1); omega
theorem lastG_price (h0 : ∀ o ∈ ops, 0 ≤ o.cost ∧ o.cost ≤ 100) : ∀ y, ∀ b ∈ lastG ops L y, 1 ≤ b.price ∧ b.price ≤ 409601 := fun y b hb => by
  obtain ⟨o, h1, _, _, h4⟩ := lastG_only y b hb
  have := h0 o (List.mem_of_getElem? h1); omega
end

end Go.Proofs.YtcpmjoabhnfddaaGreat

namespace Go.Proofs.YtcpmjoabhnfddaaGreat
open Go.RowKit Go.Sort Go.Proofs

/-! ### Contains -/
/-! ### the library's Sort and Compact over a row of the call's own -/
/-! ### an append of whatever slice -/
section
variable {P : Program} {w : World}
theorem run_appendS_zero (base : Nat) (t ty e : TypeId) (i : TypeInfo) (size : Nat) (ht : P.underlying t = some (.slice e)) (hi : P.info? e = some i)
    (v : Value) (n : Nat) (xs : List Value) (hown : w.ownsRow base e size v n xs) (ao : Option Addr) (c : Nat) :
    (Builtin.append_ #[t, t] ty #[v, .slice ao 0 c]).run P w = .ok v w := by
  rcases hown.2 with ⟨rfl, rfl⟩ | ⟨g, cap, cur, rfl, _, _, hnc, _⟩
  · cases ao <;> simp [Builtin.append_, run_underlying ht, sizeOf, typeInfo, hi, Builtin.lenOf, Builtin.firstCells, loadCells, loadCellsFrom]
  · cases ao <;> simp [Builtin.append_, run_underlying ht, sizeOf, typeInfo, hi, Builtin.lenOf, Builtin.firstCells, hnc, storeCells, loadCells, loadCellsFrom]
theorem grownBy_refl (w : World) (row : Option Nat) : w.grownBy w row := ⟨rfl, rfl, rfl, Nat.le_refl _, fun _ _ _ => rfl⟩
end

/-! ### Update -/
/-! ### Can, Next -/
end Go.Proofs.YtcpmjoabhnfddaaGreat

namespace Go.Proofs.YtcpmjoabhnfddaaGreat
open Go.RowKit

theorem ops_cost0 {t : Tsk} (ok : t.Ok) : ∀ o ∈ wordsOf t.ops, 0 ≤ o.cost ∧ o.cost ≤ 100 := fun o ho => by
  unfold wordsOf at ho
  obtain ⟨o', ho', rfl⟩ := List.mem_map.1 ho
  exact ⟨(ok.ops o' ho').cost0, (ok.ops o' ho').cost1⟩

end Go.Proofs.YtcpmjoabhnfddaaGreat

namespace Go.Proofs.YtcpmjoabhnfddaaGreat
open Go.RowKit

def costAt (t : Tsk) (x : Int) : Int := ((t.ops[x.toNat]?).map Opr.cost).getD 0
def costL (t : Tsk) : List Int → Int
  | [] => 0
  | x :: r => costAt t x + costL t r
def PlanIn (t : Tsk) (p : List Int) : Prop := ∀ x ∈ p, 0 ≤ x ∧ x < (t.ops.length : Int)

theorem costL_append (t : Tsk) : ∀ (a b : List Int), costL t (a ++ b) = costL t a + costL t b
  | [], b => by simp [costL]
  | x :: a, b => by
    show costAt t x + costL t (a ++ b) = (costAt t x + costL t a) + costL t b
    rw [costL_append t a b]; omega
theorem costAt_bound {t : Tsk} (ok : t.Ok) (x : Int) : 0 ≤ costAt t x ∧ costAt t x ≤ 100 := by
  unfold costAt
  cases h : t.ops[x.toNat]? with
  | none => simp
  | some o =>
    have := ok.ops o (List.mem_of_getElem? h)
    simp; exact ⟨this.cost0, this.cost1⟩
theorem costL_bound {t : Tsk} (ok : t.Ok) : ∀ p : List Int, 0 ≤ costL t p ∧ costL t p ≤ 100 * (p.length : Int)
  | [] => by simp [costL]
  | x :: r => by
    have h1 := costAt_bound ok x
    have h2 := costL_bound ok r
    unfold costL
    rw [List.length_cons]
    omega

end Go.Proofs.YtcpmjoabhnfddaaGreat

/- space.Result. -/
namespace Go.Proofs.YtcpmjoabhnfddaaGreat
open Go.RowKit

/-- A SearchResult. -/
def resV (found : Bool) (vp : Value) (c n : Int) : Value := .agg #[.bool found, vp, .int .i64 c, .int .i64 n]

theorem quad_set {w : World} {B : Nat} {x0 x1 x2 x3 : Value} {T : TypeId} (h : w.heap[B]? = some (.cells #[x0, x1, x2, x3] T (0, 0))) (a b c d : Value) :
    ((((w.setCell ⟨B, 0, none⟩ a).setCell ⟨B, 1, none⟩ b).setCell ⟨B, 2, none⟩ c).setCell ⟨B, 3, none⟩ d).heap[B]? = some (.cells #[a, b, c, d] T (0, 0)) := by
  rw [blk_set_same (blk_set_same (blk_set_same (blk_set_same h a) b) c) d]; rfl
theorem keeps_quad {w : World} (B : Nat) (a b c d : Value) : Keeps (fun k => k = B) w ((((w.setCell ⟨B, 0, none⟩ a).setCell ⟨B, 1, none⟩ b).setCell ⟨B, 2, none⟩ c).setCell ⟨B, 3, none⟩ d) :=
  ((((Keeps.refl (fun k => k = B) w).setCell (p := ⟨B, 0, none⟩) (.inl rfl) _).setCell (p := ⟨B, 1, none⟩) (.inl rfl) _).setCell (p := ⟨B, 2, none⟩) (.inl rfl) _).setCell (p := ⟨B, 3, none⟩) (.inl rfl) _

def ResultPost (t : Tsk) (vp : Value) (p : List Int) (found : Bool) (n : Int) (w : World) (e : Ending) (w' : World) : Prop := Keeps (fun _ => False) w w' ∧
  ((60 < p.length ∧ e = .returned (.tuple #[resV false (.slice none 0 0) 0 0, fltV 10 (-9)])) ∨
   (p.length ≤ 60 ∧ e = .returned (.tuple #[resV found vp (costL t p) n, fltV 0 0])))

set_option maxRecDepth 100000 in
set_option maxHeartbeats 2000000 in
theorem result_any (w : World) (vi vg vo vp : Value) (t : Tsk) (p : List Int) (found : Bool) (n : Int) (h : TaskAt w vi vg vo t) (ok : t.Ok) (hp : Ints w vp p) (hin : PlanIn t p) :
    Calls Tryz.prog 49 #[.agg #[.int .i64 t.n, vi, vg, vo], vp, .bool found, .int .i64 n] w (ResultPost t vp p found n w) := by
  obtain ⟨ai, ci, h1, _⟩ := h.init.form
  obtain ⟨ag, cg, h2, _⟩ := h.goal.form
  obtain ⟨ao, co, h3, hmo⟩ := h.ops.form
  obtain ⟨ap, cp, h4, _⟩ := hp.form
  have K1 := (Keeps.refl (fun _ => False) w).alloc (.cells #[.int .i64 t.n, vi, vg, vo] 25)
  have KA := (Keeps.refl (fun _ => False) (w.alloc (.cells #[.int .i64 t.n, vi, vg, vo] 25))).alloc (.cells #[.bool false, .slice none 0 0, .int .i64 0, .int .i64 0] 29)
  have KB := (Keeps.refl (fun _ => False) ((w.alloc (.cells #[.int .i64 t.n, vi, vg, vo] 25)).alloc (.cells #[.bool false, .slice none 0 0, .int .i64 0, .int .i64 0] 29))).alloc (.cells #[.int .i64 0, .int .i64 0] 31)
  have HB := Lib.hid ((Four.new w (.int .i64 t.n) vi vg vo 25).keeps0 (KA.trans KB))
  have HR := Lib.hid (KB.heap (heap_alloc_new (w.alloc (.cells #[.int .i64 t.n, vi, vg, vo] 25)) (.cells #[.bool false, .slice none 0 0, .int .i64 0, .int .i64 0] 29)) (fun h => h))
  have HF : Flt w _ _ 31 := ⟨heap_alloc_new ((w.alloc (.cells #[.int .i64 t.n, vi, vg, vo] 25)).alloc (.cells #[.bool false, .slice none 0 0, .int .i64 0, .int .i64 0] 29)) (.cells #[.int .i64 0, .int .i64 0] 31), by simp; omega, K1.trans (KA.trans KB)⟩
  replace HF := Lib.hid HF
  have HT := Lib.hid (h.keeps0 (K1.trans (KA.trans KB))); have HP := Lib.hid (show Ints _ vp p from hp.keeps0 (K1.trans (KA.trans KB)))
  have OK := Lib.hid ok; have HIN := Lib.hid hin
  rw [World.size_alloc] at HR HF
  rw [World.size_alloc] at HF
  subst h1 h2 h3 h4
  clear h hp hin ok K1 KA KB
  go_enter Tryz.func49, Tryz.ntmps49
  go_upto_region 1 with fail
  generalize ((w.alloc (.cells #[.int .i64 t.n, .slice ai t.init.length ci, .slice ag t.goal.length cg, .slice ao t.ops.length co] 25)).alloc (.cells #[.bool false, .slice none 0 0, .int .i64 0, .int .i64 0] 29)).alloc (.cells #[.int .i64 0, .int .i64 0] 31) = w1 at HB HR HF HT HP ⊢
  have r0 : w1.cell? ⟨w.heap.size + 1, 0, none⟩ = some (.bool false) := by rw [cell_of_blk HR.out]; rfl
  have r1 : w1.cell? ⟨w.heap.size + 1, 1, none⟩ = some (.slice none 0 0) := by rw [cell_of_blk HR.out]; rfl
  have r2 : w1.cell? ⟨w.heap.size + 1, 2, none⟩ = some (.int .i64 0) := by rw [cell_of_blk HR.out]; rfl
  have r3 : w1.cell? ⟨w.heap.size + 1, 3, none⟩ = some (.int .i64 0) := by rw [cell_of_blk HR.out]; rfl
  have y0 := frozen_of_blk (o := 0) HR.out
  have y1 := frozen_of_blk (o := 1) HR.out
  have y2 := frozen_of_blk (o := 2) HR.out
  have y3 := frozen_of_blk (o := 3) HR.out
  have hlR := lt_of_heap HR.out
  obtain ⟨e0, e1, z0, z1, hF⟩ := HF.out.cells
  by_cases hlen : 60 < p.length
  · have q1 : decide ((60 : Int) < (p.length : Int)) = true := by simp; omega
    have HLEN := Lib.hid hlen
    have kq := keeps_quad (w := w1) (w.heap.size + 1) (.bool false) (.slice none 0 0) (.int .i64 0) (.int .i64 0)
    have HQ := Lib.hid (quad_set HR.out (.bool false) (.slice none 0 0) (.int .i64 0) (.int .i64 0))
    have HF2 := Lib.hid (HF.out.keepsS kq (by omega) (fun i hi => by omega))
    clear hlen kq
    go_wp2_with fail
    refine bodyPost_ret (results_cell_cell _ _ (w.heap.size + 1 + 1) 31 #[.int .i64 10, .int .i64 (-9)] (0, 0) _ rfl rfl (HF2.out.set (.int .i64 10) (.int .i64 (-9))).1 Tryz.underlying31 rfl (by kernel_rfl) rfl ((keeps_pair (w.heap.size + 1 + 1) _ _).heap HQ.out (by omega)) Tryz.underlying29 rfl (by kernel_rfl)) rfl ?_
    exact ⟨(HF2.out.set _ _).2, .inl ⟨HLEN.out, rfl⟩⟩
  · have q1 : decide ((60 : Int) < (p.length : Int)) = false := by simp; omega
    have hlen2 : p.length ≤ 60 := by omega
    have HLEN := Lib.hid hlen2
    have hs1 := HF.out.keep.size
    have HOC := Lib.hid (HT.out.ops.cell rfl)
    have CP := Lib.hid (HP.out.cell rfl)
    have K3 := Lib.hid ((Keeps.refl (fun _ => False) w1).alloc (.cells #[.bool found, .slice ap p.length cp, .int .i64 0, .int .i64 n] 29))
    have HX3 := Lib.hid (heap_alloc_new w1 (.cells #[.bool found, .slice ap p.length cp, .int .i64 0, .int .i64 n] 29))
    have hbw := HB.out.lt
    clear hlen HT HP r0 r1 r2 r3 y0 y1 y2 y3 e0 e1 z0 z1
    go_upto_region 5 with fail
    generalize w1.alloc (.cells #[.bool found, .slice ap p.length cp, .int .i64 0, .int .i64 n] 29) = w3 at K3 HX3 ⊢
    obtain ⟨bx, hbx⟩ : ∃ bx, w1.heap.size = bx := ⟨_, rfl⟩
    have HBX := Lib.hid hbx
    rw [hbx] at hF hlR hs1 hbw
    rw [show w1.heap.size = bx from hbx] at HX3
    rw [hbx]
    clear hbx
    go_loopw [24] (fun v24 wr => ∃ i : Nat, i ≤ p.length ∧ v24 = .int .i64 (i : Int) ∧ wr.heap[bx]? = some (.cells #[.bool found, .slice ap p.length cp, .int .i64 (costL t (p.take i)), .int .i64 n] 29 (0, 0)) ∧ Keeps (fun _ => False) w1 wr) (fun v24 _ => p.length - (intOf v24).toNat)
    case atStart => exact ⟨0, Nat.zero_le _, rfl, HX3.out, K3.out⟩
    case round =>
      obtain ⟨i, hi, rfl, hx, hkr⟩ := hrel
      have HX := Lib.hid hx
      have HKR := Lib.hid hkr
      have HB2 := Lib.hid (HB.out.keeps0 hkr)
      have HF2 := Lib.hid (HF.out.keeps0 hkr)
      have HR2 := Lib.hid (hkr.heap HR.out (fun h => h))
      have s0 : wr.cell? ⟨bx, 0, none⟩ = some (.bool found) := by rw [cell_of_blk hx]; rfl
      have s1 : wr.cell? ⟨bx, 1, none⟩ = some (.slice ap p.length cp) := by rw [cell_of_blk hx]; rfl
      have s2 : wr.cell? ⟨bx, 2, none⟩ = some (.int .i64 (costL t (p.take i))) := by rw [cell_of_blk hx]; rfl
      have s3 : wr.cell? ⟨bx, 3, none⟩ = some (.int .i64 n) := by rw [cell_of_blk hx]; rfl
      have v2 := frozen_of_blk (o := 2) hx
      have hlx := lt_of_heap hx
      clear hkr hx
      by_cases hlt : i < p.length
      · obtain ⟨d0, d1, d2, d3⟩ := HB2.out
        have hbl2 := HB2.out.lt
        obtain ⟨bp, op, rfl, hx'⟩ := CP.out (by omega)
        obtain ⟨x, hx⟩ : ∃ x, p[i]? = some x := ⟨_, List.getElem?_eq_getElem hlt⟩
        have hu := HKR.out.cell (hx' i x hx) (fun h => h)
        have hxi := HIN.out x (List.mem_of_getElem? hx)
        obtain ⟨xn, rfl⟩ : ∃ xn : Nat, x = (xn : Int) := ⟨x.toNat, by omega⟩
        obtain ⟨bo, oo, rfl, ho'⟩ := HOC.out (by omega)
        obtain ⟨o, ho⟩ : ∃ o, t.ops[xn]? = some o := ⟨_, List.getElem?_eq_getElem (by omega)⟩
        obtain ⟨va, vb, vc, _, _, _, c3, _⟩ := ho' xn o ho
        have c3' := HKR.out.cell c3 (fun h => h)
        have HTK : Hid (costL t (p.take (i + 1)) = costL t (p.take i) + o.cost) := by
          unfold Hid
          rw [take_getS hx, costL_append]
          simp [costL, costAt, ho]
        have hbd := costL_bound OK.out (p.take i)
        have hbl : ((p.take i).length : Int) ≤ 1000000 := by rw [List.length_take]; omega
        have hoc := OK.out.ops o (List.mem_of_getElem? ho)
        have ho0 := hoc.cost0
        have ho1 := hoc.cost1
        have q1 : IntKind.i64.wrap (costL t (p.take i) + o.cost) = costL t (p.take i) + o.cost := IntWalk.i64_in _ (by omega)
        have q2 : ((xn : Int)).toNat = xn := by omega
        have q3 : (0 : Int) ≤ (xn : Int) := by omega
        have q4 : (xn : Int) < (t.ops.length : Int) := hxi.2
        clear hx' hx ho' ho c3 hxi hoc hbl hbd
        go_upto_region 7 with fail
        go_still_tail 10, (by kernel_rfl)
        change wpList _ _ _ _ _ wr.drew
        have KD := (Keeps.refl (fun _ => False) wr).drew
        have HXD := Lib.hid (KD.heap HX.out (fun h => h))
        have HKD := Lib.hid (HKR.out.trans KD)
        clear KD d0 d1 d2 d3 hbl2 hu c3' s0 s1 s2 s3 v2 hlx
        generalize wr.drew = w5 at HXD HKD ⊢
        have s2 : w5.cell? ⟨bx, 2, none⟩ = some (.int .i64 (costL t (p.take i))) := by rw [cell_of_blk HXD.out]; rfl
        have v2 := frozen_of_blk (o := 2) HXD.out
        have hlx := lt_of_heap HXD.out
        have HN := Lib.hid (blk_set_same HXD.out (o := 2) (.int .i64 (costL t (p.take i) + o.cost)))
        have HKN := Lib.hid (HKD.out.trans' ((Keeps.refl (fun k => k = bx) w5).setCell (p := ⟨bx, 2, none⟩) (.inl rfl) (.int .i64 (costL t (p.take i) + o.cost))) (fun k hk => .inr (by have := HBX.out; omega)))
        go_wp2_with fail
        go_roundw
        case rel => exact ⟨i + 1, by omega, by go_num, by rw [HTK.out]; exact HN.out, HKN.out⟩
        case measure => simp only [intOf]; omega
      · have hie : i = p.length := by omega
        subst hie
        have r0 : wr.cell? ⟨w.heap.size + 1, 0, none⟩ = some (.bool false) := by rw [cell_of_blk HR2.out]; rfl
        have r1 : wr.cell? ⟨w.heap.size + 1, 1, none⟩ = some (.slice none 0 0) := by rw [cell_of_blk HR2.out]; rfl
        have r2 : wr.cell? ⟨w.heap.size + 1, 2, none⟩ = some (.int .i64 0) := by rw [cell_of_blk HR2.out]; rfl
        have r3 : wr.cell? ⟨w.heap.size + 1, 3, none⟩ = some (.int .i64 0) := by rw [cell_of_blk HR2.out]; rfl
        have y0 := frozen_of_blk (o := 0) HR2.out
        have y1 := frozen_of_blk (o := 1) HR2.out
        have y2 := frozen_of_blk (o := 2) HR2.out
        have y3 := frozen_of_blk (o := 3) HR2.out
        have hlR2 := lt_of_heap HR2.out
        obtain ⟨e0, e1, z0, z1, hF2⟩ := HF2.out.cells
        have HCE : Hid (costL t (p.take p.length) = costL t p) := by unfold Hid; rw [List.take_length]
        have kq := keeps_quad (w := wr) (w.heap.size + 1) (.bool found) (.slice ap p.length cp) (.int .i64 (costL t p)) (.int .i64 n)
        have HQ := Lib.hid (quad_set HR2.out (.bool found) (.slice ap p.length cp) (.int .i64 (costL t p)) (.int .i64 n))
        have HF4 := Lib.hid (HF2.out.keepsS kq (by omega) (fun i hi => by omega))
        rw [HCE.out] at s2
        clear kq HX
        go_wp2_with fail
        refine bodyPost_ret (results_cell_cell _ _ (w.heap.size + 1 + 1) 31 #[.int .i64 0, .int .i64 0] (0, 0) _ rfl rfl (HF4.out.set (.int .i64 0) (.int .i64 0)).1 Tryz.underlying31 rfl (by kernel_rfl) rfl ((keeps_pair (w.heap.size + 1 + 1) _ _).heap HQ.out (by omega)) Tryz.underlying29 rfl (by kernel_rfl)) rfl ?_
        exact ⟨(HF4.out.set _ _).2, .inr ⟨HLEN.out, rfl⟩⟩

end Go.Proofs.YtcpmjoabhnfddaaGreat

namespace Go.Proofs.YtcpmjoabhnfddaaGreat
open Go.RowKit

/-! ### the plans of a search -/
theorem runOps_lt {ops : List Wop} : ∀ {p : List Nat} {x y : Nat}, runOps ops x p = some y → ∀ o ∈ p, o < ops.length
  | [], _, _, _, _, h => by cases h
  | o :: r, x, y, h, k, hk => by
    rw [runOps] at h
    cases ho : ops[o]? with
    | none => rw [ho] at h; cases h
    | some op =>
      rw [ho] at h; simp only at h
      split at h
      · rcases List.mem_cons.1 hk with rfl | hk
        · exact (List.getElem?_eq_some_iff.1 ho).1
        · exact runOps_lt h k hk
      · cases h

theorem planIn_run {t : Tsk} {p : List Nat} {x y : Nat} (h : runOps (wordsOf t.ops) x p = some y) : PlanIn t (intsP p) := by
  intro z hz
  unfold intsP at hz
  obtain ⟨o, ho, rfl⟩ := List.mem_map.1 hz
  have := runOps_lt h o ho
  unfold wordsOf at this
  rw [List.length_map] at this
  omega

/-! ### two blocks of results -/
structure RFl (w w1 : World) (R F : Nat) : Prop where
  res : w1.heap[R]? = some (.cells #[.bool false, .slice none 0 0, .int .i64 0, .int .i64 0] 29 (0, 0))
  flt : Flt w w1 F 31
  base : w.heap.size ≤ R
  ne : R ≠ F
theorem RFl.keeps0 {w w1 w2 : World} {R F : Nat} (h : RFl w w1 R F) (hk : Keeps (fun _ => False) w1 w2) : RFl w w2 R F := ⟨hk.heap h.res (fun h => h), h.flt.keeps0 hk, h.base, h.ne⟩
theorem RFl.cells {w w1 : World} {R F : Nat} (h : RFl w w1 R F) : w1.cell? ⟨R, 0, none⟩ = some (.bool false) ∧ w1.cell? ⟨R, 1, none⟩ = some (.slice none 0 0) ∧ w1.cell? ⟨R, 2, none⟩ = some (.int .i64 0) ∧ w1.cell? ⟨R, 3, none⟩ = some (.int .i64 0) ∧
    w1.frozen? ⟨R, 0, none⟩ = false ∧ w1.frozen? ⟨R, 1, none⟩ = false ∧ w1.frozen? ⟨R, 2, none⟩ = false ∧ w1.frozen? ⟨R, 3, none⟩ = false ∧ R < w1.heap.size :=
  ⟨by rw [cell_of_blk h.res]; rfl, by rw [cell_of_blk h.res]; rfl, by rw [cell_of_blk h.res]; rfl, by rw [cell_of_blk h.res]; rfl, frozen_of_blk h.res, frozen_of_blk h.res, frozen_of_blk h.res, frozen_of_blk h.res, lt_of_heap h.res⟩
theorem RFl.set {w w1 : World} {R F : Nat} (h : RFl w w1 R F) (a b c d x y : Value) :
    ((((((w1.setCell ⟨R, 0, none⟩ a).setCell ⟨R, 1, none⟩ b).setCell ⟨R, 2, none⟩ c).setCell ⟨R, 3, none⟩ d).setCell ⟨F, 0, none⟩ x).setCell ⟨F, 1, none⟩ y).heap[R]? = some (.cells #[a, b, c, d] 29 (0, 0)) ∧
    ((((((w1.setCell ⟨R, 0, none⟩ a).setCell ⟨R, 1, none⟩ b).setCell ⟨R, 2, none⟩ c).setCell ⟨R, 3, none⟩ d).setCell ⟨F, 0, none⟩ x).setCell ⟨F, 1, none⟩ y).heap[F]? = some (.cells #[x, y] 31 (0, 0)) ∧
    Keeps (fun _ => False) w ((((((w1.setCell ⟨R, 0, none⟩ a).setCell ⟨R, 1, none⟩ b).setCell ⟨R, 2, none⟩ c).setCell ⟨R, 3, none⟩ d).setCell ⟨F, 0, none⟩ x).setCell ⟨F, 1, none⟩ y) ∧
    Keeps (fun k => k = R ∨ k = F) w1 ((((((w1.setCell ⟨R, 0, none⟩ a).setCell ⟨R, 1, none⟩ b).setCell ⟨R, 2, none⟩ c).setCell ⟨R, 3, none⟩ d).setCell ⟨F, 0, none⟩ x).setCell ⟨F, 1, none⟩ y) := by
  have kq := keeps_quad (w := w1) R a b c d
  have hq := quad_set h.res a b c d
  have hf := h.flt.keepsS kq (fun e => h.ne e.symm) (fun i hi => by subst hi; exact h.base)
  have hs := hf.set x y
  exact ⟨(keeps_pair F x y).heap hq h.ne, hs.1, hs.2, (kq.mono (fun _ _ h => .inl h)).trans ((keeps_pair F x y).mono (fun _ _ h => .inr h))⟩

/-- The zero result stays as it is. -/
theorem RFl.ids {w w1 : World} {R F : Nat} (h : RFl w w1 R F) : w1.setCell ⟨R, 0, none⟩ (.bool false) = w1 ∧ w1.setCell ⟨R, 1, none⟩ (.slice none 0 0) = w1 ∧ w1.setCell ⟨R, 2, none⟩ (.int .i64 0) = w1 ∧ w1.setCell ⟨R, 3, none⟩ (.int .i64 0) = w1 :=
  ⟨setCell_id h.cells.1, setCell_id h.cells.2.1, setCell_id h.cells.2.2.1, setCell_id h.cells.2.2.2.1⟩
theorem RFl.fin {w w1 : World} {R F : Nat} (h : RFl w w1 R F) (x y : Value) : ((w1.setCell ⟨F, 0, none⟩ x).setCell ⟨F, 1, none⟩ y).drew.heap[R]? = some (.cells #[.bool false, .slice none 0 0, .int .i64 0, .int .i64 0] 29 (0, 0)) ∧
    ((w1.setCell ⟨F, 0, none⟩ x).setCell ⟨F, 1, none⟩ y).drew.heap[F]? = some (.cells #[x, y] 31 (0, 0)) ∧ Keeps (fun _ => False) w ((w1.setCell ⟨F, 0, none⟩ x).setCell ⟨F, 1, none⟩ y).drew :=
  ⟨(keeps_pair F x y).drew.heap h.res h.ne, (h.flt.set x y).1, (h.flt.set x y).2.drew⟩

theorem quad_cells {w : World} {B : Nat} {a b c d : Value} {T : TypeId} (h : w.heap[B]? = some (.cells #[a, b, c, d] T (0, 0))) : w.cell? ⟨B, 0, none⟩ = some a ∧ w.cell? ⟨B, 1, none⟩ = some b ∧ w.cell? ⟨B, 2, none⟩ = some c ∧ w.cell? ⟨B, 3, none⟩ = some d ∧ B < w.heap.size :=
  ⟨by rw [cell_of_blk h]; rfl, by rw [cell_of_blk h]; rfl, by rw [cell_of_blk h]; rfl, by rw [cell_of_blk h]; rfl, lt_of_heap h⟩

/-! ### what Plan hands back -/
end Go.Proofs.YtcpmjoabhnfddaaGreat

namespace Go.Proofs.YtcpmjoabhnfddaaGreat

/-! ### greater states -/
theorem reach_run {ops : List Wop} {s : Nat} : ∀ (q : List Nat) {x y : Nat}, Reach ops s x → runOps ops x q = some y → Reach ops s y
  | [], x, y, hx, hy => by cases hy; exact hx
  | a :: q, x, y, hx, hy => by
    rw [runOps] at hy
    cases ho : ops[a]? with
    | none => rw [ho] at hy; cases hy
    | some o =>
      rw [ho] at hy; simp only at hy
      by_cases hc : o.can x = true
      · rw [if_pos hc] at hy
        exact reach_run q (.step hx (List.mem_map.2 ⟨o, List.mem_filter.2 ⟨List.mem_of_getElem? ho, hc⟩, rfl⟩)) hy
      · rw [if_neg hc] at hy; cases hy

/-! ### the search that finds nothing -/
section
variable {acc : Nat → Bool} {cov : Nat → List Nat → Bool}
end

end Go.Proofs.YtcpmjoabhnfddaaGreat

namespace Go.Proofs.YtcpmjoabhnfddaaGreat
open Go.RowKit

/-- The least price of a plan of the task. -/
def BestT (t : Tsk) (b : Int) : Prop := LeastOf 4096 1 (wordsOf t.ops) (wd t.init) (goalB (wd t.goal)) b
end Go.Proofs.YtcpmjoabhnfddaaGreat

namespace Go.Proofs.YtcpmjoabhnfddaaGreat
open Go.RowKit

/-- The steps of a best plan with the least price b. -/
def stepsB (b : Int) : Int := if b < 0 then 0 else b % 4096
end Go.Proofs.YtcpmjoabhnfddaaGreat

namespace Go.Proofs.YtcpmjoabhnfddaaGreat
open Go.RowKit

/-- What is found of the best plan b: at_ lies on its way. -/
structure Mid (t : Tsk) (best : Int) (at_ : Nat) (par par' : Nat → Option SArc) (a b : Int) (o1 o2 : List Nat) (e : Nat) : Prop where
  c1 : Chain par at_ o1 (wd t.init)
  c2 : Chain par' at_ o2 e
  l1 : o1.length ≤ 2000
  l2 : o2.length ≤ 2000
  a0 : 0 ≤ a ∧ a ≤ 1000000000
  b0 : 0 ≤ b ∧ b ≤ 1000000000
  sum : a + b = best
  r1 : runOps (wordsOf t.ops) (wd t.init) o1.reverse = some at_
  r2 : runOps (wordsOf t.ops) at_ o2 = some e
  acc : goalB (wd t.goal) e = true
  run : runOps (wordsOf t.ops) (wd t.init) (o1.reverse ++ o2) = some e
  len : ((o1.reverse ++ o2).length : Int) = best % 4096
  cost : costN (wordsOf t.ops) (o1.reverse ++ o2) = best / 4096
  m1 : a / 4096 = costN (wordsOf t.ops) o1.reverse
  m2 : b / 4096 = costN (wordsOf t.ops) o2
  q1 : ∀ q, runOps (wordsOf t.ops) (wd t.init) q = some at_ → costN (wordsOf t.ops) o1.reverse ≤ costN (wordsOf t.ops) q
  q2 : ∀ q y, runOps (wordsOf t.ops) at_ q = some y → goalB (wd t.goal) y = true → costN (wordsOf t.ops) o2 ≤ costN (wordsOf t.ops) q
  q3 : ∀ q y, runOps (wordsOf t.ops) (wd t.init) q = some y → goalB (wd t.goal) y = true → costN (wordsOf t.ops) o1.reverse + costN (wordsOf t.ops) o2 ≤ costN (wordsOf t.ops) q

theorem meet_plain {t : Tsk} (ok : t.Ok) {l ws : List Nat} (hx : explored t = some l) (hp : ws.Perm l) {P P' : Nat → Option Int} {par par' : Nat → Option SArc} {A A' : List (Int × Int)} {best : Int} {at_ : Nat} {found : Bool}
    (hf : SideI (nextG (wordsOf t.ops) ws) (fun x => x ∈ [wd t.init]) ws 409601 P par A 0 []) (hb : SideI (lastG (wordsOf t.ops) ws) (fun x => x ∈ ws.filter (goalB (wd t.goal))) ws 409601 P' par' A' 0 []) (hm : MeetI P P' best at_ found) (he : Ends A A' found best) :
    (found = false ∧ BestT t (-1)) ∨ (found = true ∧ BestT t best ∧ 0 ≤ best ∧ at_ ∈ ws ∧ ∃ o1 o2 e a b, P at_ = some a ∧ P' at_ = some b ∧ Mid t best at_ par par' a b o1 o2 e) := by
  obtain ⟨hs32, hg32, hmany, hsh, hfew, hL32, _, hin⟩ := costs_need ok hx hp
  have h0 := ops_cost0 ok
  have hr := (reached_some (ops := wordsOf t.ops) (s := wd t.init) (l := l) hx).2.2.2
  have hcl : ∀ x ∈ ws, ∀ p y, runOps (wordsOf t.ops) x p = some y → y ∈ ws := fun x hxw p y h => hp.mem_iff.2 ((hr y).2 (reach_run p ((hr x).1 (hp.mem_iff.1 hxw)) h))
  rcases both_best nextG_all lastG_all nextG_only lastG_only hsh h0 (hcl _ hin) hf hb hm he with ⟨h1, h2⟩ | ⟨h1, h2, o1, o2, e, a, b, c1, c2, l1, l2, ha, hb', hab, hat, r1, r2, hacc, w1, w2⟩
  · exact .inl ⟨h1, h2⟩
  · have hl1 : o1.reverse.length ≤ ws.length := by rw [List.length_reverse]; exact l1
    obtain ⟨m1, m2, q1, q2, q3⟩ := mid_least h0 hfew hcl hin r1 r2 hacc hl1 l2 (by rw [w1, w2]; exact hab) h2
    have hall : runOps (wordsOf t.ops) (wd t.init) (o1.reverse ++ o2) = some e := by rw [runOps_append, r1]; exact r2
    have hw : wayN 4096 1 (wordsOf t.ops) (o1.reverse ++ o2) = best := by rw [wayN_append, w1, w2]; exact hab
    have hsp := wayN_split (wordsOf t.ops) (o1.reverse ++ o2)
    have hlen : (o1.reverse ++ o2).length ≤ 4000 := by rw [List.length_append]; omega
    have hc0 := (costN_bound h0 (o1.reverse ++ o2)).1
    have ga := hf.lo _ _ ha
    have gb := hb.lo _ _ hb'
    have ka := knownB_le ws P
    have kb := knownB_le ws P'
    exact .inr ⟨h1, h2, by omega, hat, o1, o2, e, a, b, ha, hb', c1, c2, by omega, by omega, ⟨ga.1, by omega⟩, ⟨gb.1, by omega⟩, hab, r1, r2, hacc, hall, by omega, by omega, by rw [← w1]; exact m1, by rw [← w2]; exact m2, q1, q2, q3⟩

/-- What a search hands back whose plans are best, where b is the least price. -/
structure BPlanG (t : Tsk) (l : List Nat) (b : Int) (fnd : Bool) (lp : List Int) (c n : Int) : Prop where
  n : 0 ≤ n ∧ n ≤ (l.length : Int)
  none_ : b < 0 → fnd = false ∧ lp = [] ∧ c = 0
  some_ : 0 ≤ b → fnd = true ∧ ∃ q y, lp = intsP q ∧ runOps (wordsOf t.ops) (wd t.init) q = some y ∧ goalB (wd t.goal) y = true ∧ (q.length : Int) = b % 4096 ∧ costN (wordsOf t.ops) q = b / 4096 ∧ c = costL t lp

def BPlanIs (t : Tsk) (fnd : Bool) (lp : List Int) (c n fc fi : Int) : Prop :=
  (fc ≠ 0 ∧ expF t = (fc, fi) ∧ fnd = false ∧ lp = [] ∧ c = 0 ∧ n = 0) ∨
  (expF t = (0, 0) ∧ t.Ok ∧ ∃ l b, explored t = some l ∧ BestT t b ∧ ((60 < stepsB b ∧ fc = 10 ∧ fi = -9 ∧ fnd = false ∧ lp = [] ∧ c = 0 ∧ n = 0) ∨ (stepsB b ≤ 60 ∧ fc = 0 ∧ fi = 0 ∧ BPlanG t l b fnd lp c n)))
def BPlanPost (t : Tsk) (w : World) (e : Ending) (w' : World) : Prop := Keeps (fun _ => False) w w' ∧ ∃ fnd vp lp c n fc fi, e = .returned (.tuple #[resV fnd vp c n, fltV fc fi]) ∧ Ints w' vp lp ∧ BPlanIs t fnd lp c n fc fi

theorem expF_bad {t : Tsk} (h : (taskFault t).1 ≠ 0) : expF t = taskFault t := by unfold expF; rw [if_neg h]
theorem expF_many {t : Tsk} (ok : t.Ok) (h : explored t = none) : expF t = (10, -7) := by unfold expF; rw [if_pos (taskFault_zero.2 ok), h]
theorem expF_ok {t : Tsk} (ok : t.Ok) {l : List Nat} (h : explored t = some l) : expF t = (0, 0) := by unfold expF; rw [if_pos (taskFault_zero.2 ok), h]

/-- No plan is found. -/
theorem bplan_none {t : Tsk} (ok : t.Ok) {l : List Nat} (hx : explored t = some l) (hb : BestT t (-1)) {n : Int} (hn : 0 ≤ n ∧ n ≤ (l.length : Int)) : BPlanIs t false [] 0 n 0 0 :=
  .inr ⟨expF_ok ok hx, ok, l, -1, hx, hb, .inr ⟨by decide, rfl, rfl, hn, fun _ => ⟨rfl, rfl, rfl⟩, fun h => absurd h (by decide)⟩⟩
/-- A plan q is found. -/
theorem bplan_short {t : Tsk} (ok : t.Ok) {l : List Nat} (hx : explored t = some l) {b : Int} (hb : BestT t b) (h0 : 0 ≤ b) {q : List Nat} {y : Nat} (hr : runOps (wordsOf t.ops) (wd t.init) q = some y) (ha : goalB (wd t.goal) y = true) (hl : (q.length : Int) = b % 4096) (hc : costN (wordsOf t.ops) q = b / 4096) (h60 : q.length ≤ 60) {n : Int} (hn : 0 ≤ n ∧ n ≤ (l.length : Int)) :
    BPlanIs t true (intsP q) (costL t (intsP q)) n 0 0 :=
  .inr ⟨expF_ok ok hx, ok, l, b, hx, hb, .inr ⟨by unfold stepsB; rw [if_neg (by omega)]; omega, rfl, rfl, hn, fun h => absurd h (by omega), fun _ => ⟨rfl, q, y, rfl, hr, ha, hl, hc, rfl⟩⟩⟩
theorem bplan_long {t : Tsk} (ok : t.Ok) {l : List Nat} (hx : explored t = some l) {b : Int} (hb : BestT t b) (h0 : 0 ≤ b) {q : List Nat} (hl : (q.length : Int) = b % 4096) (h60 : 60 < q.length) : BPlanIs t false [] 0 0 10 (-9) :=
  .inr ⟨expF_ok ok hx, ok, l, b, hx, hb, .inl ⟨by unfold stepsB; rw [if_neg (by omega)]; omega, rfl, rfl, rfl, rfl, rfl, rfl⟩⟩

end Go.Proofs.YtcpmjoabhnfddaaGreat

namespace Go.Proofs.YtcpmjoabhnfddaaGreat
open Go.RowKit

def FMap {α : Type} (w : World) (b : Nat) (enc : α → Value) (f : Nat → Option α) : Prop :=
  ∃ l : List (Nat × α), IMap w b .u32 (l.map fun p => ((p.1 : Int), enc p.2)) ∧ (l.map Prod.fst).Nodup ∧ ∀ x v, f x = some v ↔ (x, v) ∈ l

section
variable {α : Type} {w : World} {b : Nat} {enc : α → Value} {f : Nat → Option α}
theorem FMap.keeps {S : Nat → Prop} {w' : World} (h : FMap w b enc f) (hk : Keeps S w w') (hs : ¬ S b) : FMap w' b enc f := by
  obtain ⟨l, h1, h2⟩ := h; exact ⟨l, h1.keeps hk hs, h2⟩
theorem FMap.lt (h : FMap w b enc f) : b < w.heap.size := by obtain ⟨l, h1, _⟩ := h; exact h1.lt
theorem FMap.map_block (h : FMap w b enc f) : ∃ es c, w.heap[b]? = some (.map es c) := by obtain ⟨l, ⟨es, c, hb, _⟩, _⟩ := h; exact ⟨es, c, hb⟩
theorem FMap.ne_cells (h : FMap w b enc f) {g : Nat} {cs : Array Value} {T : TypeId} {fr : Nat × Nat} (hg : w.heap[g]? = some (.cells cs T fr)) : b ≠ g := fun e => by
  obtain ⟨es, c, hb⟩ := h.map_block
  rw [e, hg] at hb; cases hb
theorem FMap.made (w : World) (enc : α → Value) : FMap (w.alloc (.map #[] 0)) w.heap.size enc (fun _ => none) :=
  ⟨[], IMap.made w .u32, by simp, fun x v => by simp⟩
theorem fkeys_nodup {l : List (Nat × α)} (h : (l.map Prod.fst).Nodup) : ((l.map fun p => ((p.1 : Int), enc p.2)).map Prod.fst).Nodup := by
  rw [List.map_map]
  have : (l.map ((Prod.fst : Int × Value → Int) ∘ fun p => ((p.1 : Int), enc p.2))) = (l.map Prod.fst).map fun x : Nat => (x : Int) := by rw [List.map_map]; rfl
  rw [this]
  unfold List.Nodup at h ⊢
  rw [List.pairwise_map]
  exact h.imp fun hne e => hne (by omega)
theorem fkeys_miss {l : List (Nat × α)} (hl : ∀ x v, f x = some v ↔ (x, v) ∈ l) {x : Nat} (hx : f x = none) : ∀ p ∈ l.map (fun p => ((p.1 : Int), enc p.2)), p.1 ≠ (x : Int) := fun p hp e => by
  obtain ⟨q, hq, rfl⟩ := List.mem_map.1 hp
  have : q.1 = x := by simp only at e; omega
  have h2 := (hl q.1 q.2).2 hq
  rw [this, hx] at h2; cases h2
variable {P : Program} {t k e : TypeId}
theorem FMap.look_some (h : FMap w b enc f) (ht : P.underlying t = some (.map k e)) (hk : P.underlying k = some (.int .u32)) {x : Nat} {v : α} (hx : f x = some v) :
    (Instr.lookup t (.map (some b)) (.int .u32 (x : Int)) true).run P w = .ok (.tuple #[enc v, .bool true]) w ∧ (Instr.lookup t (.map (some b)) (.int .u32 (x : Int)) false).run P w = .ok (enc v) w := by
  obtain ⟨l, h1, h2, h3⟩ := h
  exact h1.run_lookup_hit ht hk (fkeys_nodup h2) (List.mem_map.2 ⟨(x, v), (h3 x v).1 hx, rfl⟩)
theorem FMap.look_none (h : FMap w b enc f) (ht : P.underlying t = some (.map k e)) (hk : P.underlying k = some (.int .u32)) {z : Value} (hz : (zeroValue e).run P w = .ok z w) {x : Nat} (hx : f x = none) :
    (Instr.lookup t (.map (some b)) (.int .u32 (x : Int)) true).run P w = .ok (.tuple #[z, .bool false]) w ∧ (Instr.lookup t (.map (some b)) (.int .u32 (x : Int)) false).run P w = .ok z w := by
  obtain ⟨l, h1, _, h3⟩ := h
  exact h1.run_lookup_miss ht hk hz (fkeys_miss h3 hx)
/-- A store. -/
theorem FMap.put (h : FMap w b enc f) (ht : P.underlying t = some (.map k e)) (hk : P.underlying k = some (.int .u32)) (x : Nat) (v : α) :
    ∃ w', (Instr.mapUpdate t (.map (some b)) (.int .u32 (x : Int)) (enc v)).run P w = .ok () w' ∧ FMap w' b enc (putP f x v) ∧ Keeps (fun j => j = b) w w' := by
  obtain ⟨l, h1, h2, h3⟩ := h
  cases hx : f x with
  | none =>
    obtain ⟨w', hr, hi, hk'⟩ := h1.run_update_new ht hk (fkeys_miss h3 hx) (enc v)
    refine ⟨w', hr, ⟨l ++ [(x, v)], by rw [List.map_append]; exact hi, ?_, fun y u => ?_⟩, hk'⟩
    · rw [List.map_append, List.nodup_append]
      refine ⟨h2, by simp, fun a ha c hc hac => ?_⟩
      simp only [List.map_cons, List.map_nil, List.mem_singleton] at hc
      obtain ⟨q, hq, rfl⟩ := List.mem_map.1 ha
      have h4 := (h3 q.1 q.2).2 hq
      rw [hac, hc, hx] at h4; cases h4
    · by_cases hy : y = x
      · subst hy
        rw [putP_same, List.mem_append]
        constructor
        · intro h; cases h; exact .inr (by simp)
        · rintro (h | h)
          · have := (h3 y u).2 h; rw [hx] at this; cases this
          · simp at h; rw [h]
      · rw [putP_other f v hy, h3 y u, List.mem_append]
        constructor
        · exact .inl
        · rintro (h | h)
          · exact h
          · simp at h; exact absurd h.1 hy
  | some u0 =>
    obtain ⟨j, hj⟩ := List.mem_iff_getElem?.1 ((h3 x u0).1 hx)
    obtain ⟨w', hr, hi, hk'⟩ := h1.run_update_old ht hk (fkeys_nodup h2) (x := (x : Int)) (u := enc u0) (j := j) (by rw [List.getElem?_map, hj]; rfl) (enc v)
    have hjl := (List.getElem?_eq_some_iff.1 hj).1
    have hkeys : (l.set j (x, v)).map Prod.fst = l.map Prod.fst := by
      apply List.ext_getElem?
      intro n
      rw [List.getElem?_map, List.getElem?_map]
      by_cases hn : n = j
      · subst hn; rw [List.getElem?_set_self hjl, hj]; rfl
      · rw [List.getElem?_set_ne (fun e => hn e.symm)]
    refine ⟨w', hr, ⟨l.set j (x, v), by rw [List.map_set]; exact hi, by rw [hkeys]; exact h2, fun y u => ?_⟩, hk'⟩
    have uniq : ∀ n q, l[n]? = some q → q.1 = x → n = j := fun n q hq hqx => by
      have e1 : (l.map Prod.fst)[n]? = some x := by rw [List.getElem?_map, hq]; simp [hqx]
      have e2 : (l.map Prod.fst)[j]? = some x := by rw [List.getElem?_map, hj]; rfl
      exact nodup_ix h2 e1 e2
    by_cases hy : y = x
    · subst hy
      rw [putP_same]
      constructor
      · intro h; cases h
        exact List.mem_of_getElem? (List.getElem?_set_self hjl)
      · intro h
        obtain ⟨n, hn⟩ := List.mem_iff_getElem?.1 h
        by_cases hnj : n = j
        · subst hnj; rw [List.getElem?_set_self hjl] at hn; cases hn; rfl
        · rw [List.getElem?_set_ne (fun e => hnj e.symm)] at hn
          exact absurd (uniq n _ hn rfl) hnj
    · rw [putP_other f v hy, h3 y u]
      constructor
      · intro h
        obtain ⟨n, hn⟩ := List.mem_iff_getElem?.1 h
        have hnj : n ≠ j := fun e => by subst e; rw [hj] at hn; cases hn; exact hy rfl
        exact List.mem_of_getElem? (i := n) (by rw [List.getElem?_set_ne (fun e => hnj e.symm)]; exact hn)
      · intro h
        obtain ⟨n, hn⟩ := List.mem_iff_getElem?.1 h
        by_cases hnj : n = j
        · subst hnj; rw [List.getElem?_set_self hjl] at hn; cases hn; exact absurd rfl hy
        · rw [List.getElem?_set_ne (fun e => hnj e.symm)] at hn
          exact List.mem_of_getElem? hn
end

end Go.Proofs.YtcpmjoabhnfddaaGreat

namespace Go.Proofs.YtcpmjoabhnfddaaGreat
open Go.RowKit

def arcV (a : SArc) : Value := .agg #[.int .i64 (a.op : Int), .int .i64 a.price, .int .u32 (a.to : Int)]

theorem zero_sarc (w : World) : (zeroValue 173).run Tryz.prog w = .ok (.agg #[.int .i64 0, .int .i64 0, .int .u32 0]) w := by kernel_rfl

/-- What the loop of back knows: the way done, the way still to go, and the arc that was looked up. -/
structure BackS (par : Nat → Option SArc) (e : Nat) (out : List Nat) (w2 : World) (dn rest : List Nat) (y c : Nat) (o z : Nat) (p : Int) (bl : Bool) (v : Value) (wr : World) : Prop where
  all : out = dn ++ rest
  ch : Chain par y rest e
  own : wr.ownsRow w2.heap.size 3 1 v dn.length (dn.map fun n : Nat => Value.int .i64 (n : Int))
  box : wr.heap[c]? = some (.cells #[.int .i64 (o : Int), .int .i64 p, .int .u32 (z : Int)] 173 (0, 0))
  yes : bl = true → par y = some ⟨o, p, z⟩
  no : bl = false → par y = none
  far : v.ownBlock ≠ some c
  kp : Keeps (fun _ => False) w2 wr
def lenV : Value → Nat
  | .slice _ n _ => n
  | _ => 0
def arcB (o : Nat) (p : Int) (z : Nat) : Obj := .cells #[.int .i64 (o : Int), .int .i64 p, .int .u32 (z : Int)] 173

theorem tri_set {w : World} {B : Nat} {x y z : Value} {T : TypeId} (h : w.heap[B]? = some (.cells #[x, y, z] T (0, 0))) (a b c : Value) : (((w.setCell ⟨B, 0, none⟩ a).setCell ⟨B, 1, none⟩ b).setCell ⟨B, 2, none⟩ c).heap[B]? = some (.cells #[a, b, c] T (0, 0)) := by
  have h1 : (w.setCell ⟨B, 0, none⟩ a).heap[B]? = some (.cells #[a, y, z] T (0, 0)) := by rw [blk_set_same h]; rfl
  have h2 : ((w.setCell ⟨B, 0, none⟩ a).setCell ⟨B, 1, none⟩ b).heap[B]? = some (.cells #[a, b, z] T (0, 0)) := by rw [blk_set_same h1]; rfl
  rw [blk_set_same h2]; rfl
theorem keeps_tri {w : World} (B : Nat) (a b c : Value) : Keeps (fun k => k = B) w (((w.setCell ⟨B, 0, none⟩ a).setCell ⟨B, 1, none⟩ b).setCell ⟨B, 2, none⟩ c) :=
  (((Keeps.refl (fun k => k = B) w).setCell (p := ⟨B, 0, none⟩) (.inl rfl) _).setCell (p := ⟨B, 1, none⟩) (.inl rfl) _).setCell (p := ⟨B, 2, none⟩) (.inl rfl) _
theorem tri_all {w : World} {B : Nat} {a b c : Value} {T : TypeId} (h : w.heap[B]? = some (.cells #[a, b, c] T (0, 0))) : w.cell? ⟨B, 0, none⟩ = some a ∧ w.cell? ⟨B, 1, none⟩ = some b ∧ w.cell? ⟨B, 2, none⟩ = some c ∧ w.frozen? ⟨B, 0, none⟩ = false ∧ w.frozen? ⟨B, 1, none⟩ = false ∧ w.frozen? ⟨B, 2, none⟩ = false ∧ B < w.heap.size :=
  ⟨by rw [cell_of_blk h]; rfl, by rw [cell_of_blk h]; rfl, by rw [cell_of_blk h]; rfl, frozen_of_blk h, frozen_of_blk h, frozen_of_blk h, lt_of_heap h⟩

theorem back_look {w : World} {mb : Nat} {par : Nat → Option SArc} (hm : FMap w mb arcV par) (x : Nat) : ∃ (o z : Nat) (p : Int) (bl : Bool), (bl = true → par x = some ⟨o, p, z⟩) ∧ (bl = false → par x = none) ∧ (Instr.lookup 120 (.map (some mb)) (.int .u32 (x : Int)) true).run Tryz.prog w = .ok (.tuple #[.agg #[.int .i64 (o : Int), .int .i64 p, .int .u32 (z : Int)], .bool bl]) w := by
  cases hx : par x with
  | none => exact ⟨0, 0, 0, false, (fun h => Bool.noConfusion h), fun _ => rfl, (hm.look_none (P := Tryz.prog) Tryz.underlying120 Tryz.underlying77 (zero_sarc w) hx).1⟩
  | some a => exact ⟨a.op, a.to, a.price, true, fun _ => rfl, (fun h => Bool.noConfusion h), (hm.look_some (P := Tryz.prog) Tryz.underlying120 Tryz.underlying77 hx).1⟩

set_option maxRecDepth 100000 in
set_option maxHeartbeats 2000000 in
theorem back_any (w : World) (b mb x e : Nat) (a0 a1 a3 a4 : Value) (par : Nat → Option SArc) (out : List Nat) (h : w.heap[b]? = some (.cells #[a0, a1, .map (some mb), a3, a4] 124 (0, 0))) (hm : FMap w mb arcV par) (hc : Chain par x out e) (hl : out.length ≤ 100000) :
    Calls Tryz.prog 75 #[.pointer (some ⟨b, 0, none⟩), .int .u32 (x : Int)] w fun en w' => ∃ v, en = .returned v ∧ w'.ownsRow w.heap.size 3 1 v out.length (out.map fun n : Nat => Value.int .i64 (n : Int)) ∧ Keeps (fun _ => False) w w' := by
  obtain ⟨i0, hi0, hz0, hz1, hz2⟩ := info_parts Tryz.info3
  have c2 : w.cell? ⟨b, 2, none⟩ = some (.map (some mb)) := by rw [cell_of_blk h]; rfl
  have hb := lt_of_heap h
  have HM := Lib.hid hm; have HH := Lib.hid h; have HCH := Lib.hid hc
  obtain ⟨o, z, p, bl, hy, hn, hlk⟩ := back_look hm x
  have K1 := (Keeps.refl (fun _ => False) w).alloc (arcB o p z)
  have HS := Lib.hid (show BackS par e out w [] out x w.heap.size o z p bl (.slice none 0 0) (w.alloc (arcB o p z)) from ⟨rfl, hc, World.ownsRow_nil _ _ _ _, heap_alloc_new w _, hy, hn, by simp [Value.ownBlock], K1⟩)
  clear hm h hc hy hn K1
  go_enter Tryz.func75, Tryz.ntmps75
  go_upto_region 3 with fail
  change Code.wp _ _ _ _ (w.alloc (arcB o p z))
  generalize (w.alloc (arcB o p z)) = w3 at HS ⊢
  clear hlk
  go_loopw [1, 5, 6, 7] (fun v1 v5 v6 v7 wr => ∃ (dn rest : List Nat) (y c o z : Nat) (p : Int) (bl : Bool), v1 = .int .u32 (y : Int) ∧ v6 = .pointer (some ⟨c, 0, none⟩) ∧ v7 = .bool bl ∧ lenV v5 = dn.length ∧ BackS par e out w dn rest y c o z p bl v5 wr) (fun _ v5 _ _ _ => out.length - lenV v5)
  case atStart => exact ⟨[], out, x, _, o, z, p, bl, rfl, rfl, rfl, rfl, HS.out⟩
  case round =>
    obtain ⟨dn, rest, y, c, o, z, p, bl, rfl, rfl, rfl, hlen, hi⟩ := hrel
    have HI := Lib.hid hi
    clear hi
    obtain ⟨av, cv, hv⟩ := ownsRow_form1 HI.out.own
    subst hv
    cases bl with
    | false =>
      have hrest : rest = [] := by
        have hn := HI.out.no rfl
        cases HI.out.ch with
        | nil _ => rfl
        | cons ha _ => rw [hn] at ha; cases ha
      have HFIN := Lib.hid (show wr.ownsRow w.heap.size 3 1 (.slice av dn.length cv) out.length (out.map fun n : Nat => Value.int .i64 (n : Int)) by
        have e1 : out = dn := by rw [HI.out.all, hrest, List.append_nil]
        rw [e1]; exact HI.out.own)
      clear hrest
      go_wp2_with fail
      go_ret
      exact ⟨_, rfl, HFIN.out, HI.out.kp⟩
    | true =>
      obtain ⟨rest', hrest, hch⟩ : ∃ rest', rest = o :: rest' ∧ Chain par z rest' e := by
        have hy := HI.out.yes rfl
        cases HI.out.ch with
        | nil hn => rw [hn] at hy; cases hy
        | cons ha hc => rw [hy] at ha; cases ha; exact ⟨_, rfl, hc⟩
      have HCH2 := Lib.hid hch; have HR := Lib.hid hrest
      have hdl : dn.length ≤ 100000 := by have := congrArg List.length HI.out.all; rw [List.length_append] at this; omega
      obtain ⟨q0, q1, q2, _, _, _, ql⟩ := tri_all HI.out.box
      have hsw := HI.out.kp.size
      clear hrest hch
      go_wp2_with (at_builtin; refine wpList_append_d rfl _ _ _ rfl w.heap.size 3 i0 _ 1 8 Tryz.underlying22 hi0 hz0 hz1 hz2 rfl (by omega) _ dn.length (dn.map fun n : Nat => Value.int .i64 (n : Int)) (by rfl) (World.ownsRow.alloc HI.out.own (.cells #[.int .i64 (o : Int)] 3)) ⟨wr.heap.size, 0, none⟩ 1 1 [.int .i64 (o : Int)] (by rfl) (by rfl) ?hnews ?hone (by omega) (by unfold maxLen; omega) (by omega) (by simp; omega) (wr.heap.size + 1) (by simp) ?_)
      case hnews => exact World.news_of_block (cs := #[.int .i64 (o : Int)]) (t := 3) (fr := (0, 0)) (heap_alloc_new _ _)
      case hone => simp [Value.oneCell']
      intro gg cap2 w4 hown hgrow hat hlt4 hd4
      have HN := Lib.hid hown
      have KN := Lib.hid (own_grown HI.out.own HI.out.kp ((Keeps.refl (fun _ => False) wr).alloc (.cells #[.int .i64 (o : Int)] 3)) hgrow)
      have hb4 := (steady_keeps hgrow).heap ((Below.heap_alloc wr (.cells #[.int .i64 (o : Int)] 3) c ql).trans HI.out.box) (fun e' => HI.out.far e')
      clear q0 q1 q2 ql
      obtain ⟨q0, q1, q2, _, _, _, ql⟩ := tri_all hb4
      have KA := (Keeps.refl (fun _ => False) w4).alloc (arcB o p z)
      have K5 := Lib.hid (KN.out.trans KA)
      have HB5 := Lib.hid (show (w4.alloc (arcB o p z)).heap[w4.heap.size]? = some (.cells #[.int .i64 (o : Int), .int .i64 p, .int .u32 (z : Int)] 173 (0, 0)) from heap_alloc_new w4 _)
      have HN5 := Lib.hid (KA.ownsRow HN.out (fun _ _ h => h))
      have hrow := World.ownsRow.lt HN.out
      clear hown hgrow hat hd4 hb4 KA
      go_upto_region 4 with fail
      change Code.wp _ _ _ _ (w4.alloc (arcB o p z))
      have hs4 : w.heap.size ≤ w4.heap.size := KN.out.size
      have HFR := Lib.hid (show (Value.slice (some ⟨gg, 0, none⟩) (dn.length + 1) cap2).ownBlock ≠ some w4.heap.size from fun e' => by have := (hrow _ e').2; omega)
      clear q0 q1 q2 ql hrow
      generalize (w4.alloc (arcB o p z)) = w5 at K5 HB5 HN5 ⊢
      generalize w4.heap.size = c' at HB5 HFR hs4 ⊢
      obtain ⟨q0, q1, q2, f0, f1, f2, ql⟩ := tri_all HB5.out
      have c2 := K5.out.cell c2 (fun h => h)
      obtain ⟨o', z', p', bl', hy', hn', hlk⟩ := back_look (HM.out.keeps K5.out (fun h => h)) z
      have HY := Lib.hid hy'; have HNN := Lib.hid hn'
      clear hy' hn'
      go_wp2_with fail
      have kt := keeps_tri (w := w5) c' (.int .i64 (o' : Int)) (.int .i64 p') (.int .u32 (z' : Int))
      have ht := tri_set HB5.out (.int .i64 (o' : Int)) (.int .i64 p') (.int .u32 (z' : Int))
      have HNX := Lib.hid (show BackS par e out w (dn ++ [o]) rest' z c' o' z' p' bl' (.slice (some ⟨gg, 0, none⟩) (dn.length + 1) cap2) _ from
        ⟨by rw [HI.out.all, HR.out]; simp, HCH2.out, by rw [List.length_append, List.map_append]; exact kt.ownsRow HN5.out (fun j hj e' => HFR.out (by rw [hj, e'])), ht, HY.out, HNN.out, HFR.out, K5.out.trans' kt (fun j hj => .inr (by omega))⟩)
      clear kt ht
      go_roundw
      case rel => exact ⟨dn ++ [o], rest', z, c', o', z', p', bl', rfl, rfl, rfl, by simp [lenV], HNX.out⟩
      case measure =>
        have h1 := congrArg List.length HI.out.all
        rw [HR.out] at h1
        simp at h1
        simp only [lenV]
        omega

end Go.Proofs.YtcpmjoabhnfddaaGreat

namespace Go.Proofs.YtcpmjoabhnfddaaGreat
open Go.RowKit

def intV (p : Int) : Value := .int .i64 p
/-- The block of a side. -/
def SideB (w : World) (b m0 mp mpar md q : Nat) : Prop := w.heap[b]? = some (.cells #[.map (some m0), .map (some mp), .map (some mpar), .map (some md), .pointer (some ⟨q, 0, none⟩)] 124 (0, 0))
/-- The five variables that the closure has captured. -/
structure MetB (w : World) (bf bb bfo bbe bat sf sb : Nat) (found : Bool) (best : Int) (at_ : Nat) : Prop where
  f : w.heap[bf]? = some (.cells #[.pointer (some ⟨sf, 0, none⟩)] 114 (0, 0))
  b : w.heap[bb]? = some (.cells #[.pointer (some ⟨sb, 0, none⟩)] 114 (0, 0))
  fo : w.heap[bfo]? = some (.cells #[.bool found] 4 (0, 0))
  be : w.heap[bbe]? = some (.cells #[.int .i64 best] 3 (0, 0))
  at_ : w.heap[bat]? = some (.cells #[.int .u32 (at_ : Int)] 77 (0, 0))
theorem MetB.keepsS {S : Nat → Prop} {w w' : World} {bf bb bfo bbe bat sf sb at_ : Nat} {found : Bool} {best : Int} (h : MetB w bf bb bfo bbe bat sf sb found best at_) (hk : Keeps S w w') (h1 : ¬ S bf) (h2 : ¬ S bb) (h3 : ¬ S bfo) (h4 : ¬ S bbe) (h5 : ¬ S bat) : MetB w' bf bb bfo bbe bat sf sb found best at_ :=
  ⟨hk.heap h.f h1, hk.heap h.b h2, hk.heap h.fo h3, hk.heap h.be h4, hk.heap h.at_ h5⟩
theorem MetB.set {w : World} {bf bb bfo bbe bat sf sb at_ : Nat} {found : Bool} {best : Int} (h : MetB w bf bb bfo bbe bat sf sb found best at_) (c : Int) (x : Nat) :
    MetB (((w.setCell ⟨bbe, 0, none⟩ (.int .i64 c)).setCell ⟨bat, 0, none⟩ (.int .u32 (x : Int))).setCell ⟨bfo, 0, none⟩ (.bool true)) bf bb bfo bbe bat sf sb true c x ∧
    Keeps (fun k => k = bfo ∨ k = bbe ∨ k = bat) w (((w.setCell ⟨bbe, 0, none⟩ (.int .i64 c)).setCell ⟨bat, 0, none⟩ (.int .u32 (x : Int))).setCell ⟨bfo, 0, none⟩ (.bool true)) := by
  have ne : ∀ {i j : Nat} {a b : Array Value} {s t : TypeId}, w.heap[i]? = some (.cells a s (0, 0)) → w.heap[j]? = some (.cells b t (0, 0)) → s ≠ t → i ≠ j := fun h1 h2 hst e => by
    subst e; rw [h1] at h2; cases h2; exact hst rfl
  have n1 : bf ≠ bbe := ne h.f h.be (by decide)
  have n2 : bf ≠ bat := ne h.f h.at_ (by decide)
  have n3 : bf ≠ bfo := ne h.f h.fo (by decide)
  have n4 : bb ≠ bbe := ne h.b h.be (by decide)
  have n5 : bb ≠ bat := ne h.b h.at_ (by decide)
  have n6 : bb ≠ bfo := ne h.b h.fo (by decide)
  have n7 : bbe ≠ bat := ne h.be h.at_ (by decide)
  have n8 : bbe ≠ bfo := ne h.be h.fo (by decide)
  have n9 : bat ≠ bfo := ne h.at_ h.fo (by decide)
  have k1 : Keeps (fun k => k = bbe) w (w.setCell ⟨bbe, 0, none⟩ (.int .i64 c)) := (Keeps.refl (fun k => k = bbe) w).setCell (p := ⟨bbe, 0, none⟩) (.inl rfl) _
  have k2 : Keeps (fun k => k = bat) (w.setCell ⟨bbe, 0, none⟩ (.int .i64 c)) ((w.setCell ⟨bbe, 0, none⟩ (.int .i64 c)).setCell ⟨bat, 0, none⟩ (.int .u32 (x : Int))) := (Keeps.refl (fun k => k = bat) _).setCell (p := ⟨bat, 0, none⟩) (.inl rfl) _
  have k3 : Keeps (fun k => k = bfo) ((w.setCell ⟨bbe, 0, none⟩ (.int .i64 c)).setCell ⟨bat, 0, none⟩ (.int .u32 (x : Int))) (((w.setCell ⟨bbe, 0, none⟩ (.int .i64 c)).setCell ⟨bat, 0, none⟩ (.int .u32 (x : Int))).setCell ⟨bfo, 0, none⟩ (.bool true)) := (Keeps.refl (fun k => k = bfo) _).setCell (p := ⟨bfo, 0, none⟩) (.inl rfl) _
  have e1 : (w.setCell ⟨bbe, 0, none⟩ (.int .i64 c)).heap[bbe]? = some (.cells #[.int .i64 c] 3 (0, 0)) := by rw [blk_set_same h.be]; rfl
  have a1 := k1.heap h.at_ (fun e => n7 e.symm)
  have e2 : ((w.setCell ⟨bbe, 0, none⟩ (.int .i64 c)).setCell ⟨bat, 0, none⟩ (.int .u32 (x : Int))).heap[bat]? = some (.cells #[.int .u32 (x : Int)] 77 (0, 0)) := by rw [blk_set_same a1]; rfl
  have f2 := k2.heap (k1.heap h.fo (fun e => n8 e.symm)) (fun e => n9 e.symm)
  have e3 : (((w.setCell ⟨bbe, 0, none⟩ (.int .i64 c)).setCell ⟨bat, 0, none⟩ (.int .u32 (x : Int))).setCell ⟨bfo, 0, none⟩ (.bool true)).heap[bfo]? = some (.cells #[.bool true] 4 (0, 0)) := by rw [blk_set_same f2]; rfl
  exact ⟨⟨k3.heap (k2.heap (k1.heap h.f n1) n2) n3, k3.heap (k2.heap (k1.heap h.b n4) n5) n6, e3, k3.heap (k2.heap e1 n7) n8, k3.heap e2 n9⟩,
    ((k1.mono (fun _ _ h => .inr (.inl h))).trans (k2.mono (fun _ _ h => .inr (.inr h)))).trans (k3.mono (fun _ _ h => .inl h))⟩

theorem MetB.apart {w : World} {bf bb bfo bbe bat sf sb at_ : Nat} {found : Bool} {best : Int} (h : MetB w bf bb bfo bbe bat sf sb found best at_) : bbe ≠ bat ∧ bbe ≠ bfo ∧ bat ≠ bfo := by
  have ne : ∀ {i j : Nat} {a b : Array Value} {s t : TypeId}, w.heap[i]? = some (.cells a s (0, 0)) → w.heap[j]? = some (.cells b t (0, 0)) → s ≠ t → i ≠ j := fun h1 h2 hst e => by
    subst e; rw [h1] at h2; cases h2; exact hst rfl
  exact ⟨ne h.be h.at_ (by decide), ne h.be h.fo (by decide), ne h.at_ h.fo (by decide)⟩

/-- What is met after x. -/
def metF (fx bx : Option Int) (x : Nat) (found : Bool) (best : Int) (at_ : Nat) : Bool × Int × Nat :=
  match fx, bx with
  | some a, some b => if found = false ∨ a + b < best then (true, a + b, x) else (found, best, at_)
  | _, _ => (found, best, at_)

set_option maxRecDepth 100000 in
set_option maxHeartbeats 4000000 in
theorem met_any (w : World) (bf bb bfo bbe bat sf sb at_ x : Nat) (found : Bool) (best : Int) (F B : Nat → Option Int) (f0 pf f2 f3 fq b0 pb b2 b3 bq : Nat) (h : MetB w bf bb bfo bbe bat sf sb found best at_) (hf : SideB w sf f0 pf f2 f3 fq) (hb : SideB w sb b0 pb b2 b3 bq) (hF : FMap w pf intV F) (hB : FMap w pb intV B)
    (hlo : ∀ y a, F y = some a → 0 ≤ a ∧ a ≤ 1000000000000) (hlo2 : ∀ y a, B y = some a → 0 ≤ a ∧ a ≤ 1000000000000) :
    Calls Tryz.prog 114 #[.int .u32 (x : Int), .pointer (some ⟨bf, 0, none⟩), .pointer (some ⟨bb, 0, none⟩), .pointer (some ⟨bfo, 0, none⟩), .pointer (some ⟨bbe, 0, none⟩), .pointer (some ⟨bat, 0, none⟩)] w fun e w' => e = .returned (.tuple #[]) ∧
      MetB w' bf bb bfo bbe bat sf sb (metF (F x) (B x) x found best at_).1 (metF (F x) (B x) x found best at_).2.1 (metF (F x) (B x) x found best at_).2.2 ∧ Keeps (fun k => k = bfo ∨ k = bbe ∨ k = bat) w w' := by
  have c1 : w.cell? ⟨bf, 0, none⟩ = some (.pointer (some ⟨sf, 0, none⟩)) := by rw [cell_of_blk h.f]; rfl
  have c2 : w.cell? ⟨bb, 0, none⟩ = some (.pointer (some ⟨sb, 0, none⟩)) := by rw [cell_of_blk h.b]; rfl
  have c3 : w.cell? ⟨bfo, 0, none⟩ = some (.bool found) := by rw [cell_of_blk h.fo]; rfl
  have c4 : w.cell? ⟨bbe, 0, none⟩ = some (.int .i64 best) := by rw [cell_of_blk h.be]; rfl
  have c5 : w.cell? ⟨bat, 0, none⟩ = some (.int .u32 (at_ : Int)) := by rw [cell_of_blk h.at_]; rfl
  have z3 : w.frozen? ⟨bfo, 0, none⟩ = false := frozen_of_blk h.fo
  have z4 : w.frozen? ⟨bbe, 0, none⟩ = false := frozen_of_blk h.be
  have z5 : w.frozen? ⟨bat, 0, none⟩ = false := frozen_of_blk h.at_
  have l3 := lt_of_heap h.fo
  have l4 := lt_of_heap h.be
  have l5 := lt_of_heap h.at_
  have s1 : w.cell? ⟨sf, 1, none⟩ = some (.map (some pf)) := by unfold SideB at hf; rw [cell_of_blk hf]; rfl
  have s2 : w.cell? ⟨sb, 1, none⟩ = some (.map (some pb)) := by unfold SideB at hb; rw [cell_of_blk hb]; rfl
  have lf : sf < w.heap.size := lt_of_heap hf
  have lb : sb < w.heap.size := lt_of_heap hb
  have HM := Lib.hid h
  have zi : (zeroValue 3).run Tryz.prog w = .ok (.int .i64 0) w := by kernel_rfl
  cases hFx : F x with
  | none =>
    have k1 := (hF.look_none (P := Tryz.prog) Tryz.underlying75 Tryz.underlying77 zi hFx).1
    obtain ⟨bo, bl, k2⟩ : ∃ (bo : Int) (bl : Bool), (Instr.lookup 75 (.map (some pb)) (.int .u32 (x : Int)) true).run Tryz.prog w = .ok (.tuple #[.int .i64 bo, .bool bl]) w := by
      cases hBx : B x with
      | none => exact ⟨0, false, (hB.look_none (P := Tryz.prog) Tryz.underlying75 Tryz.underlying77 zi hBx).1⟩
      | some b => exact ⟨b, true, (hB.look_some (P := Tryz.prog) Tryz.underlying75 Tryz.underlying77 hBx).1⟩
    clear hF hB hf hb h hFx
    go_enter Tryz.func114, Tryz.ntmps114
    go_wp2_with fail
    go_end0
    exact ⟨rfl, HM.out, Keeps.refl _ _⟩
  | some a =>
    have k1 := (hF.look_some (P := Tryz.prog) Tryz.underlying75 Tryz.underlying77 hFx).1
    have la := hlo x a hFx
    cases hBx : B x with
    | none =>
      have k2 := (hB.look_none (P := Tryz.prog) Tryz.underlying75 Tryz.underlying77 zi hBx).1
      clear hF hB hf hb h hFx hBx
      unfold intV at k1
      go_enter Tryz.func114, Tryz.ntmps114
      go_wp2_with fail
      go_end0
      exact ⟨rfl, HM.out, Keeps.refl _ _⟩
    | some b =>
      have k2 := (hB.look_some (P := Tryz.prog) Tryz.underlying75 Tryz.underlying77 hBx).1
      have lb2 := hlo2 x b hBx
      have HS := Lib.hid (h.set (a + b) x)
      obtain ⟨n1, n2, n3⟩ := h.apart
      have n1' := n1.symm; have n2' := n2.symm; have n3' := n3.symm
      clear hF hB hf hb h hFx hBx
      unfold intV at k1 k2
      cases found with
      | false =>
        go_enter Tryz.func114, Tryz.ntmps114
        go_wp2_with fail
        go_end0
        exact ⟨rfl, by simpa [metF] using HS.out.1, HS.out.2⟩
      | true =>
        by_cases hlt : a + b < best
        · have q : decide (a + b < best) = true := by simpa using hlt
          go_enter Tryz.func114, Tryz.ntmps114
          go_wp2_with fail
          go_end0
          exact ⟨rfl, by simpa [metF, hlt] using HS.out.1, HS.out.2⟩
        · have q : decide (a + b < best) = false := by simpa using hlt
          go_enter Tryz.func114, Tryz.ntmps114
          go_wp2_with fail
          go_end0
          have e1 : metF (some a) (some b) x true best at_ = (true, best, at_) := by unfold metF; simp only; rw [if_neg (by simp; omega)]
          exact ⟨rfl, by rw [e1]; exact HM.out, Keeps.refl _ _⟩

end Go.Proofs.YtcpmjoabhnfddaaGreat

namespace Go.Proofs.YtcpmjoabhnfddaaGreat
open Go.RowKit

def unitV (_ : Unit) : Value := .agg #[]

/-- A side in memory: its block, its three maps and its queue, each apart from the others. -/
structure SideM (w : World) (base b m0 mp mpar md q : Nat) (P : Nat → Option Int) (par : Nat → Option SArc) (dn : Nat → Option Unit) (A : List (Int × Int)) (t : Int) (F : Nat → Prop) : Prop where
  blk : SideB w b m0 mp mpar md q
  price : FMap w mp intV P
  par_ : FMap w mpar arcV par
  done : FMap w md unitV dn
  q : U.QRep w q A t F
  lF : ∀ k, F k → base ≤ k ∧ k < w.heap.size ∧ k ≠ b ∧ k ≠ mp ∧ k ≠ mpar ∧ k ≠ md
  lb : base ≤ b
  lp : base ≤ mp
  lr : base ≤ mpar
  ld : base ≤ md
  n1 : mp ≠ mpar
  n2 : mp ≠ md
  n3 : mpar ≠ md

section
variable {w w' : World} {base b m0 mp mpar md q : Nat} {P P' : Nat → Option Int} {par : Nat → Option SArc} {dn : Nat → Option Unit} {A A' : List (Int × Int)} {t t' : Int} {F F' : Nat → Prop}
/-- A price is set. -/
theorem SideM.priced (h : SideM w base b m0 mp mpar md q P par dn A t F) (hk : Keeps (fun k => k = mp) w w') (hp : FMap w' mp intV P') : SideM w' base b m0 mp mpar md q P' par dn A t F :=
  ⟨hk.heap h.blk (fun e => h.price.ne_cells h.blk e.symm), hp, h.par_.keeps hk (fun e => h.n1 e.symm), h.done.keeps hk (fun e => h.n2 e.symm), h.q.keeps hk (fun k hF e => (h.lF k hF).2.2.2.1 e),
   fun k hF => ⟨(h.lF k hF).1, Nat.lt_of_lt_of_le (h.lF k hF).2.1 hk.size, (h.lF k hF).2.2⟩, h.lb, h.lp, h.lr, h.ld, h.n1, h.n2, h.n3⟩
/-- The queue has changed. -/
theorem SideM.queued (h : SideM w base b m0 mp mpar md q P par dn A t F) (hk : Keeps F w w') (hq : U.QRep w' q A' t' F') (hF : ∀ k, F' k → F k ∨ w.heap.size ≤ k) : SideM w' base b m0 mp mpar md q P par dn A' t' (fun k => F' k ∧ k < w'.heap.size) := by
  have lb := lt_of_heap h.blk
  have lp := h.price.lt
  have lr := h.par_.lt
  have ld := h.done.lt
  refine ⟨hk.heap h.blk (fun e => (h.lF b e).2.2.1 rfl), h.price.keeps hk (fun e => (h.lF mp e).2.2.2.1 rfl), h.par_.keeps hk (fun e => (h.lF mpar e).2.2.2.2.1 rfl), h.done.keeps hk (fun e => (h.lF md e).2.2.2.2.2 rfl),
    U.QRep.mono hq (fun k hk' hF' => ⟨hF', hk'⟩), fun k hF' => ?_, h.lb, h.lp, h.lr, h.ld, h.n1, h.n2, h.n3⟩
  rcases hF k hF'.1 with h1 | h1
  · exact ⟨(h.lF k h1).1, hF'.2, (h.lF k h1).2.2⟩
  · exact ⟨by have := h.lb; omega, hF'.2, by omega, by omega, by omega, by omega⟩
end
theorem startP_snoc (S : List Nat) (x : Nat) : startP (S ++ [x]) = putP (startP S) x 0 := by
  funext y
  unfold startP putP
  by_cases hy : y = x
  · subst hy; simp
  · simp [hy]
theorem startA_snoc (S : List Nat) (x : Nat) : startA (S ++ [x]) = putA (startA S) (x : Int) 0 := by unfold startA; rw [List.foldl_append]; rfl
theorem startA_len (S : List Nat) : (startA S).length ≤ S.length := by
  have key : ∀ (S : List Nat) (A : List (Int × Int)), (S.foldl (fun A (x : Nat) => putA A (x : Int) 0) A).length ≤ A.length + S.length := by
    intro S
    induction S with
    | nil => intro A; simp
    | cons x r ih => intro A; rw [List.foldl_cons]; have := ih (putA A (x : Int) 0); have := putA_len A (x : Int) 0; simp only [List.length_cons]; omega
  have := key S []
  unfold startA; simpa using this

set_option maxRecDepth 100000 in
set_option maxHeartbeats 4000000 in
theorem newSide_any (w : World) (m0 : Nat) (vS : Value) (S : List Nat) (hS : Sl w vS S.length (S.map fun x : Nat => Value.int .u32 (x : Int))) (hl : S.length ≤ 100000) :
    Calls Tryz.prog 113 #[.map (some m0), vS] w fun e w' => ∃ b mp mpar md q F, e = .returned (.pointer (some ⟨b, 0, none⟩)) ∧ SideM w' w.heap.size b m0 mp mpar md q (startP S) (fun _ => none) (fun _ => none) (startA S) (S.length : Int) F ∧ Keeps (fun _ => False) w w' := by
  obtain ⟨ao, ca, hv, _⟩ := Sl.formN hS
  subst hv
  have HSS := Lib.hid hS
  have hmm := @run_makeMap Tryz.prog
  clear hS
  go_enter Tryz.func113, Tryz.ntmps113
  have M1 := FMap.made w intV
  have M2 := FMap.made (w.alloc (.map #[] 0)) arcV
  have M3 := FMap.made ((w.alloc (.map #[] 0)).alloc (.map #[] 0)) unitV
  have KA1 := (Keeps.refl (fun _ => False) (w.alloc (.map #[] 0))).alloc (.map #[] 0)
  have KA2 := (Keeps.refl (fun _ => False) ((w.alloc (.map #[] 0)).alloc (.map #[] 0))).alloc (.map #[] 0)
  have K3 := ((Keeps.refl (fun _ => False) w).alloc (.map #[] 0)).trans (KA1.trans KA2)
  replace M1 := Lib.hid ((M1.keeps KA1 (fun h => h)).keeps KA2 (fun h => h))
  replace M2 := Lib.hid (M2.keeps KA2 (fun h => h))
  replace M3 := Lib.hid M3
  have KH := Lib.hid K3
  have hsz : (((w.alloc (.map #[] 0)).alloc (.map #[] 0)).alloc (.map #[] 0)).heap.size = w.heap.size + 3 := by simp
  rw [World.size_alloc] at M2 M3
  go_wp2_with fail
  refine (U.new_any _).mono ?_; rintro e w4 ⟨rfl, hq, hk⟩
  generalize hw3 : (((w.alloc (.map #[] 0)).alloc (.map #[] 0)).alloc (.map #[] 0)) = w3 at M1 M2 M3 KH hsz hq hk ⊢
  have KB := hk.alloc (.cells #[.map (some m0), .map (some w.heap.size), .map (some (w.heap.size + 1)), .map (some (w.heap.size + 1 + 1)), .pointer (some ⟨w3.heap.size + 1, 0, none⟩)] 124)
  have hs4 : w3.heap.size ≤ w4.heap.size := hk.size
  have lp := M1.out.lt; have lr := M2.out.lt; have ld := M3.out.lt
  simp only [World.size_alloc] at M3 ld
  have HS := Lib.hid (show SideM (w4.alloc (.cells #[.map (some m0), .map (some w.heap.size), .map (some (w.heap.size + 1)), .map (some (w.heap.size + 1 + 1)), .pointer (some ⟨w3.heap.size + 1, 0, none⟩)] 124)) w.heap.size w4.heap.size m0 w.heap.size (w.heap.size + 1) (w.heap.size + 1 + 1) (w3.heap.size + 1) (startP (S.take 0)) (fun _ => none) (fun _ => none) (startA (S.take 0)) ((0 : Nat) : Int) (fun k => w3.heap.size ≤ k ∧ k < w4.heap.size) from
    ⟨heap_alloc_new w4 _, by rw [show startP (S.take 0) = fun _ => none from by funext y; simp [startP]]; exact M1.out.keeps KB (fun h => h), M2.out.keeps KB (fun h => h), M3.out.keeps KB (fun h => h),
     (hq.mono (fun k hk' hF => ⟨hF, hk'⟩)).keeps ((Keeps.refl (fun _ => False) w4).alloc _) (fun _ _ h => h), fun k hF => ⟨by omega, by rw [World.size_alloc]; omega, by omega, by omega, by omega, by omega⟩, by omega, by omega, by omega, by omega, by omega, by omega, by omega⟩)
  have HK := Lib.hid (KH.out.trans KB)
  have HC := Lib.hid (Sl.cellN HSS.out rfl)
  clear hq hk KB M1 M2 M3 KH K3 KA1 KA2 hw3 lp lr ld hmm HSS hsz hs4
  go_upto_region 2 with fail
  generalize (w4.alloc (.cells #[.map (some m0), .map (some w.heap.size), .map (some (w.heap.size + 1)), .map (some (w.heap.size + 1 + 1)), .pointer (some ⟨w3.heap.size + 1, 0, none⟩)] 124)) = w5 at HS HK ⊢
  generalize w4.heap.size = b at HS ⊢
  generalize w3.heap.size + 1 = q at HS ⊢
  go_wp2_with fail
  go_loopw [17] (fun v17 wr => ∃ (i : Nat) (F : Nat → Prop), i ≤ S.length ∧ v17 = .int .i64 (i : Int) ∧ SideM wr w.heap.size b m0 w.heap.size (w.heap.size + 1) (w.heap.size + 1 + 1) q (startP (S.take i)) (fun _ => none) (fun _ => none) (startA (S.take i)) (i : Int) F ∧ Keeps (fun _ => False) w wr) (fun v17 _ => S.length - (intOf v17).toNat)
  case atStart => exact ⟨0, _, Nat.zero_le _, rfl, HS.out, HK.out⟩
  case round =>
    obtain ⟨i, F, hi, rfl, hs, hkr⟩ := hrel
    have HI := Lib.hid hs; have HKR := Lib.hid hkr
    clear hs hkr
    by_cases hlt : i < S.length
    · obtain ⟨x, hx⟩ : ∃ x, S[i]? = some x := ⟨_, List.getElem?_eq_getElem hlt⟩
      obtain ⟨bs, os, rfl, hsc⟩ := HC.out (by omega)
      obtain ⟨W1, hrun, hp1, hk1⟩ := HI.out.price.put (P := Tryz.prog) Tryz.underlying75 Tryz.underlying77 x 0
      unfold intV at hrun
      have q1 : wr.cell? ⟨bs, os + i, none⟩ = some (.int .u32 (x : Int)) := HKR.out.cell (hsc i (.int .u32 (x : Int)) (by rw [List.getElem?_map, hx]; rfl)) (fun h => h)
      have hsb := HI.out.blk
      unfold SideB at hsb
      have q2 : wr.cell? ⟨b, 1, none⟩ = some (.map (some w.heap.size)) := by rw [cell_of_blk hsb]; rfl
      have H1 := Lib.hid (HI.out.priced hk1 hp1)
      have hsb1 := H1.out.blk
      unfold SideB at hsb1
      have q3 : W1.cell? ⟨b, 4, none⟩ = some (.pointer (some ⟨q, 0, none⟩)) := by rw [cell_of_blk hsb1]; rfl
      have hb1 := lt_of_heap hsb
      have hb2 := lt_of_heap hsb1
      have K1 := Lib.hid (HKR.out.trans' hk1 (fun j hj => .inr (by subst hj; exact HI.out.lp)))
      have HTK := Lib.hid (take_getS hx)
      have hlen := startA_len (S.take i)
      rw [List.length_take] at hlen
      have hilt : (i : Int) < (S.length : Int) := by omega
      clear hsc hp1 hk1 hsb hsb1
      go_wp2_with fail
      refine (U.set_both _ _ _ _ _ H1.out.q (x : Int) 0 (by omega) (by omega)).mono ?_; rintro e w6 ⟨rfl, F2, hq2, hF2, hk2⟩
      have H2 := Lib.hid (show SideM w6 w.heap.size b m0 w.heap.size (w.heap.size + 1) (w.heap.size + 1 + 1) q (startP (S.take (i + 1))) (fun _ => none) (fun _ => none) (startA (S.take (i + 1))) ((i + 1 : Nat) : Int) (fun k => F2 k ∧ k < w6.heap.size) by
        rw [HTK.out, startP_snoc, startA_snoc]
        have := H1.out.queued hk2 hq2 hF2
        rwa [show ((i + 1 : Nat) : Int) = (i : Int) + 1 by omega])
      have K2 := Lib.hid (K1.out.trans' hk2 (fun j hj => .inr (H1.out.lF j hj).1))
      clear hq2 hF2 hk2
      go_wp2_with fail
      go_roundw
      case rel => exact ⟨i + 1, _, by omega, by go_num, H2.out, K2.out⟩
      case measure => simp [intOf]; omega
    · obtain rfl : i = S.length := by omega
      have hfin := HI.out
      rw [List.take_length] at hfin
      have HFIN := Lib.hid hfin
      clear hfin
      go_wp2_with fail
      go_ret
      exact ⟨b, _, _, _, q, F, rfl, HFIN.out, HKR.out⟩

end Go.Proofs.YtcpmjoabhnfddaaGreat

namespace Go.Proofs.YtcpmjoabhnfddaaGreat
open Go.RowKit

section
variable {w w' : World} {base b m0 mp mpar md q : Nat} {P P' : Nat → Option Int} {par par' : Nat → Option SArc} {dn dn' : Nat → Option Unit} {A A' : List (Int × Int)} {t t' : Int} {F F' : Nat → Prop}
/-- A parent is set. -/
theorem SideM.pard (h : SideM w base b m0 mp mpar md q P par dn A t F) (hk : Keeps (fun k => k = mpar) w w') (hp : FMap w' mpar arcV par') : SideM w' base b m0 mp mpar md q P par' dn A t F :=
  ⟨hk.heap h.blk (fun e => h.par_.ne_cells h.blk e.symm), h.price.keeps hk (fun e => h.n1 e), hp, h.done.keeps hk (fun e => h.n3 e.symm), h.q.keeps hk (fun k hF e => (h.lF k hF).2.2.2.2.1 e),
   fun k hF => ⟨(h.lF k hF).1, Nat.lt_of_lt_of_le (h.lF k hF).2.1 hk.size, (h.lF k hF).2.2⟩, h.lb, h.lp, h.lr, h.ld, h.n1, h.n2, h.n3⟩
/-- A state is done. -/
theorem SideM.doned (h : SideM w base b m0 mp mpar md q P par dn A t F) (hk : Keeps (fun k => k = md) w w') (hp : FMap w' md unitV dn') : SideM w' base b m0 mp mpar md q P par dn' A t F :=
  ⟨hk.heap h.blk (fun e => h.done.ne_cells h.blk e.symm), h.price.keeps hk (fun e => h.n2 e), h.par_.keeps hk (fun e => h.n3 e), hp, h.q.keeps hk (fun k hF e => (h.lF k hF).2.2.2.2.2 e),
   fun k hF => ⟨(h.lF k hF).1, Nat.lt_of_lt_of_le (h.lF k hF).2.1 hk.size, (h.lF k hF).2.2⟩, h.lb, h.lp, h.lr, h.ld, h.n1, h.n2, h.n3⟩
/-- What turns blocks that are not the side's leaves it as it is. -/
theorem SideM.keeps {S : Nat → Prop} (h : SideM w base b m0 mp mpar md q P par dn A t F) (hk : Keeps S w w') (hb : ¬ S b) (h1 : ¬ S mp) (h2 : ¬ S mpar) (h3 : ¬ S md) (hF : ∀ k, F k → ¬ S k) : SideM w' base b m0 mp mpar md q P par dn A t F :=
  ⟨hk.heap h.blk hb, h.price.keeps hk h1, h.par_.keeps hk h2, h.done.keeps hk h3, h.q.keeps hk hF, fun k hF => ⟨(h.lF k hF).1, Nat.lt_of_lt_of_le (h.lF k hF).2.1 hk.size, (h.lF k hF).2.2⟩, h.lb, h.lp, h.lr, h.ld, h.n1, h.n2, h.n3⟩
theorem SideM.keeps0 (h : SideM w base b m0 mp mpar md q P par dn A t F) (hk : Keeps (fun _ => False) w w') : SideM w' base b m0 mp mpar md q P par dn A t F :=
  h.keeps hk (fun h => h) (fun h => h) (fun h => h) (fun h => h) (fun _ _ h => h)
end

theorem metF_comm (a b : Option Int) (x : Nat) (found : Bool) (best : Int) (at_ : Nat) : metF a b x found best at_ = metF b a x found best at_ := by
  cases a with
  | none => cases b <;> rfl
  | some a =>
    cases b with
    | none => rfl
    | some b => unfold metF; simp only; rw [Int.add_comm]
theorem fallMet {P0 P' : Nat → Option Int} {best : Int} {at_ : Nat} {found : Bool} {x : Nat} {v : Int} (hI : MeetI P0 P' best at_ found) (hlt : ∀ q, P0 x = some q → v < q) :
    MeetI (putP P0 x v) P' (metF (putP P0 x v x) (P' x) x found best at_).2.1 (metF (putP P0 x v x) (P' x) x found best at_).2.2 (metF (putP P0 x v x) (P' x) x found best at_).1 := by
  rw [putP_same]
  cases hx : P' x with
  | none => exact hI.fallNone hx
  | some u =>
    unfold metF
    simp only
    split
    · rename_i h; exact hI.fallBest hx h
    · rename_i h
      have h1 : found = true := by
        cases found with
        | true => rfl
        | false => exact absurd (.inl rfl) h
      exact hI.fallSame hx h1 (by have h2 : ¬ v + u < best := fun h2 => h (.inr h2); omega) hlt

/-- The side b looks for what it shares with the side b'. -/
theorem met_side (fl : Bool) (w : World) (bf bb bfo bbe bat b b' at_ x : Nat) (found : Bool) (best : Int) (P0 P' : Nat → Option Int) (v : Int) (m0 mp m2 m3 q m0' mp' m2' m3' q' : Nat)
    (hm : MetB w bf bb bfo bbe bat (cond fl b b') (cond fl b' b) found best at_) (h1 : SideB w b m0 mp m2 m3 q) (h2 : SideB w b' m0' mp' m2' m3' q') (hP : FMap w mp intV (putP P0 x v)) (hP' : FMap w mp' intV P')
    (hI : MeetI P0 P' best at_ found) (hlt : ∀ q, P0 x = some q → v < q) (lo : ∀ y a, putP P0 x v y = some a → 0 ≤ a ∧ a ≤ 1000000000000) (lo' : ∀ y a, P' y = some a → 0 ≤ a ∧ a ≤ 1000000000000) :
    Calls Tryz.prog 114 #[.int .u32 (x : Int), .pointer (some ⟨bf, 0, none⟩), .pointer (some ⟨bb, 0, none⟩), .pointer (some ⟨bfo, 0, none⟩), .pointer (some ⟨bbe, 0, none⟩), .pointer (some ⟨bat, 0, none⟩)] w fun e w' => e = .returned (.tuple #[]) ∧
      ∃ (found1 : Bool) (best1 : Int) (at1 : Nat), MetB w' bf bb bfo bbe bat (cond fl b b') (cond fl b' b) found1 best1 at1 ∧ MeetI (putP P0 x v) P' best1 at1 found1 ∧ Keeps (fun k => k = bfo ∨ k = bbe ∨ k = bat) w w' := by
  have hfall := fallMet hI hlt
  cases fl with
  | true =>
    refine (met_any w bf bb bfo bbe bat b b' at_ x found best _ _ m0 mp m2 m3 q m0' mp' m2' m3' q' hm h1 h2 hP hP' lo lo').mono ?_
    rintro e w' ⟨rfl, hmb, hk⟩
    exact ⟨rfl, _, _, _, hmb, hfall, hk⟩
  | false =>
    refine (met_any w bf bb bfo bbe bat b' b at_ x found best _ _ m0' mp' m2' m3' q' m0 mp m2 m3 q hm h2 h1 hP' hP lo' lo).mono ?_
    rintro e w' ⟨rfl, hmb, hk⟩
    rw [metF_comm] at hmb
    exact ⟨rfl, _, _, _, hmb, hfall, hk⟩

end Go.Proofs.YtcpmjoabhnfddaaGreat

namespace Go.Proofs.YtcpmjoabhnfddaaGreat
open Go.RowKit

def sarcC (a : SArc) : List Value := [.int .i64 (a.op : Int), .int .i64 a.price, .int .u32 (a.to : Int)]
def addN (f : Nat → List SArc) (s : Nat) (es : List Stp) : Nat → List SArc := fun x => if x = s then f x ++ es.map arcOf else f x
def addL (f : Nat → List SArc) (s : Nat) (es : List Stp) : Nat → List SArc := fun y => f y ++ (es.filter fun e => e.to == y).map (arcTo s)
theorem addN_nil (f : Nat → List SArc) (s : Nat) : addN f s [] = f := by funext y; simp [addN]
theorem addL_nil (f : Nat → List SArc) (s : Nat) : addL f s [] = f := by funext y; simp [addL]
theorem addN_snoc (f : Nat → List SArc) (s : Nat) (es : List Stp) (e : Stp) : addN f s (es ++ [e]) = fun z => if z = s then addN f s es s ++ [arcOf e] else addN f s es z := by
  funext z
  unfold addN
  by_cases h : z = s
  · subst h; simp
  · simp [h]
theorem addL_snoc (f : Nat → List SArc) (s : Nat) (es : List Stp) (e : Stp) : addL f s (es ++ [e]) = fun z => if z = e.to then addL f s es e.to ++ [arcTo s e] else addL f s es z := by
  funext z
  unfold addL
  rw [List.filter_append, List.map_append, ← List.append_assoc]
  by_cases h : z = e.to
  · subst h; rw [if_pos rfl]; simp
  · rw [if_neg h]
    have : (e.to == z) = false := by simpa using fun e => h e.symm
    simp [this]
theorem nextG_nil (ops : List Wop) : nextG ops [] = fun _ => [] := by funext y; simp [nextG]
theorem lastG_nil (ops : List Wop) : lastG ops [] = fun _ => [] := by funext y; rfl
theorem nextG_snoc (ops : List Wop) {L : List Nat} {s : Nat} (h : s ∉ L) : nextG ops (L ++ [s]) = addN (nextG ops L) s (wsteps ops s) := by
  funext y
  unfold nextG addN
  by_cases hy : y = s
  · subst hy; simp [h]
  · simp [hy]
theorem lastG_snoc (ops : List Wop) (L : List Nat) (s : Nat) : lastG ops (L ++ [s]) = addL (lastG ops L) s (wsteps ops s) := by
  funext y; unfold lastG addL; rw [List.flatMap_append]; simp
theorem addN_len (f : Nat → List SArc) (s : Nat) (es : List Stp) (y : Nat) : (addN f s es y).length ≤ (f y).length + es.length := by
  unfold addN; split
  · rw [List.length_append, List.length_map]; exact Nat.le_refl _
  · omega
theorem addL_len (f : Nat → List SArc) (s : Nat) (es : List Stp) (y : Nat) : (addL f s es y).length ≤ (f y).length + es.length := by
  unfold addL; rw [List.length_append, List.length_map]; have := List.length_filter_le (fun e : Stp => e.to == y) es; omega
theorem nextG_len {ops : List Wop} (hm : ops.length ≤ 40) (L : List Nat) (y : Nat) : (nextG ops L y).length ≤ 40 := by
  have h := wsteps_le ops y
  unfold nextG; split
  · rw [List.length_map]; omega
  · simp
theorem lastG_len {ops : List Wop} (hm : ops.length ≤ 40) : ∀ (L : List Nat) (y : Nat), (lastG ops L y).length ≤ 40 * L.length
  | [], y => by simp [lastG]
  | s :: r, y => by
    have h1 := lastG_len hm r y
    have h2 := wsteps_le ops s
    have h3 := List.length_filter_le (fun x : Stp => x.to == y) (wsteps ops s)
    unfold lastG at h1 ⊢
    rw [List.flatMap_cons, List.length_append, List.length_map, List.length_cons]
    omega

theorem sarcC_get : ∀ (l : List SArc) (j : Nat) (p : SArc), l[j]? = some p → (l.flatMap sarcC)[j * 3]? = some (.int .i64 (p.op : Int)) ∧ (l.flatMap sarcC)[j * 3 + 1]? = some (.int .i64 p.price) ∧ (l.flatMap sarcC)[j * 3 + 2]? = some (.int .u32 (p.to : Int))
  | [], j, p, h => by simp at h
  | q :: r, 0, p, h => by simp at h; subst h; simp [sarcC]
  | q :: r, j + 1, p, h => by
    have h' := sarcC_get r j p (by simpa using h)
    rw [List.flatMap_cons, show (j + 1) * 3 = j * 3 + 1 + 1 + 1 by omega, show j * 3 + 1 + 1 + 1 + 1 = j * 3 + 1 + 1 + 1 + 1 from rfl, show j * 3 + 1 + 1 + 1 + 2 = j * 3 + 2 + 1 + 1 + 1 by omega]
    exact ⟨by simpa [sarcC] using h'.1, by simpa [sarcC] using h'.2.1, by simpa [sarcC] using h'.2.2⟩
theorem srow_at {w : World} {base k : Nat} {e : TypeId} {v : Value} {l : List SArc} {p : SArc} (h : w.ownsRow base e 3 v l.length (l.flatMap sarcC)) (hk : l[k]? = some p) :
    ∃ gg cap, v = .slice (some ⟨gg, 0, none⟩) l.length cap ∧ gg < w.heap.size ∧ w.cell? ⟨gg, k * 3, none⟩ = some (.int .i64 (p.op : Int)) ∧ w.cell? ⟨gg, k * 3 + 1, none⟩ = some (.int .i64 p.price) ∧ w.cell? ⟨gg, k * 3 + 2, none⟩ = some (.int .u32 (p.to : Int)) := by
  have hl := (List.getElem?_eq_some_iff.1 hk).1
  obtain ⟨c0, c1, c2⟩ := sarcC_get l k p hk
  rcases h.2 with ⟨_, h0⟩ | ⟨g, cap, cur, rfl, hb, hg, hn, hm, hs, ht⟩
  · omega
  · have key : ∀ (j : Nat) (x : Value), (l.flatMap sarcC)[j]? = some x → w.cell? ⟨g, j, none⟩ = some x := by
      intro j x hj
      rw [cell_of_blk hg]
      rw [← ht, List.getElem?_take] at hj
      split at hj
      · simpa using hj
      · cases hj
    exact ⟨g, cap, rfl, lt_of_heap hg, key _ _ c0, key _ _ c1, key _ _ c2⟩

theorem SideI.few {G : Nat → List SArc} {S0 : Nat → Prop} {L : List Nat} {C : Int} {P : Nat → Option Int} {par : Nat → Option SArc} {A : List (Int × Int)} {s : Nat} {R : List SArc} (h : SideI G S0 L C P par A s R) (hn : (A.map Prod.fst).Nodup) : A.length ≤ L.length := by
  have h1 : (A.map fun p => p.1.toNat).Nodup := by
    unfold List.Nodup at hn ⊢
    rw [List.pairwise_map] at hn ⊢
    refine hn.imp_of_mem (fun {a b} ha hb hab e => hab ?_)
    obtain ⟨x, hx, _⟩ := h.key a ha
    obtain ⟨y, hy, _⟩ := h.key b hb
    rw [hx, hy] at e ⊢
    have e' : x = y := by simpa using e
    rw [e']
  have h2 := nodup_sub_length h1 (b := L) (fun x hx => by
    obtain ⟨p, hp, rfl⟩ := List.mem_map.1 hx
    obtain ⟨y, hy, hP⟩ := h.key p hp
    rw [hy]
    exact h.dom _ _ hP)
  simpa using h2

end Go.Proofs.YtcpmjoabhnfddaaGreat
