/- lmcut: cuts and the sum of their costs as functions, and that the sum is admissible, in plain Lean. lmcut: a round of cuts lessens the costs, and every plan pays for it, in plain Lean. lmcut: the search's struct in memory, and the walk of hardest. lmcut: the walk of zone. lmcut: the walk of before. No condition beyond what each theorem says. -/
import Derived.Test.YtdokakhgflljgaaGreatK11
import Derived.Test.YtdokakhgflljgaaGreatK10
import Derived.Test.YtdokakhgflljgaaGreatK2

namespace Go.Proofs.YtdokakhgflljgaaGreat

/-! ### the hardest fact -/
def hardI (n : Int) (v ps : List Int) : Int := ps.foldl (fun b p => if b = n ∨ getV v b < getV v p then p else b) n
theorem hardI_snoc (n : Int) (v ps : List Int) (p : Int) : hardI n v (ps ++ [p]) = if hardI n v ps = n ∨ getV v (hardI n v ps) < getV v p then p else hardI n v ps := by unfold hardI; rw [List.foldl_append]; rfl
theorem hard_from {n : Int} {v : List Int} : ∀ (ps : List Int) (b : Int), (∀ p ∈ ps, p ≠ n) →
    (ps.foldl (fun b p => if b = n ∨ getV v b < getV v p then p else b) b = b ∨ ps.foldl (fun b p => if b = n ∨ getV v b < getV v p then p else b) b ∈ ps) ∧
    (b ≠ n → getV v b ≤ getV v (ps.foldl (fun b p => if b = n ∨ getV v b < getV v p then p else b) b) ∧ ps.foldl (fun b p => if b = n ∨ getV v b < getV v p then p else b) b ≠ n) ∧
    (∀ p ∈ ps, getV v p ≤ getV v (ps.foldl (fun b p => if b = n ∨ getV v b < getV v p then p else b) b)) ∧
    (ps ≠ [] → ps.foldl (fun b p => if b = n ∨ getV v b < getV v p then p else b) b ≠ n)
  | [], b, _ => ⟨.inl rfl, fun h => ⟨Int.le_refl _, h⟩, fun _ h => (List.not_mem_nil h).elim, fun h => absurd rfl h⟩
  | p :: r, b, h => by
    have hp := h p (by simp)
    obtain ⟨b', hb'⟩ : ∃ b', (if b = n ∨ getV v b < getV v p then p else b) = b' := ⟨_, rfl⟩
    have hc : (b' = p ∨ b' = b) ∧ b' ≠ n ∧ getV v p ≤ getV v b' ∧ (b ≠ n → getV v b ≤ getV v b') := by
      rw [← hb']
      split
      · rename_i hc
        exact ⟨.inl rfl, hp, Int.le_refl _, fun hn => by have := hc.resolve_left hn; omega⟩
      · rename_i hc
        exact ⟨.inr rfl, fun e => hc (.inl e), by have : ¬ getV v b < getV v p := fun e => hc (.inr e); omega, fun _ => Int.le_refl _⟩
    obtain ⟨c1, c2, c3, c4⟩ := hc
    obtain ⟨g1, g2, g3, g4⟩ := hard_from r b' (fun q hq => h q (by simp [hq]))
    obtain ⟨g5, g6⟩ := g2 c2
    rw [List.foldl_cons, hb']
    refine ⟨?_, fun hn => ⟨by have := c4 hn; omega, g6⟩, fun q hq => ?_, fun _ => g6⟩
    · rcases g1 with g1 | g1
      · rcases c1 with c1 | c1
        · exact .inr (by rw [g1, c1]; simp)
        · exact .inl (by rw [g1, c1])
      · exact .inr (by simp [g1])
    · rcases List.mem_cons.1 hq with rfl | hq
      · omega
      · exact g3 q hq
theorem hard_mem {n : Int} {v ps : List Int} (h : ∀ p ∈ ps, p ≠ n) (ne : ps ≠ []) : hardI n v ps ∈ ps ∧ ∀ p ∈ ps, getV v p ≤ getV v (hardI n v ps) := by
  obtain ⟨g1, _, g3, g4⟩ := hard_from (v := v) ps n h
  exact ⟨g1.resolve_left (g4 ne), g3⟩
theorem hard_in {n : Int} {v ps : List Int} (h0 : 0 ≤ n) (h : ∀ p ∈ ps, 0 ≤ p ∧ p < n) : 0 ≤ hardI n v ps ∧ hardI n v ps ≤ n := by
  rcases (hard_from (n := n) (v := v) ps n (fun p hp => by have := h p hp; omega)).1 with e | e
  · unfold hardI; rw [e]; omega
  · have := h _ e; unfold hardI; omega
theorem hard_great {n : Int} {v ps : List Int} (_ : getV v n = 0) (hv : ∀ y ∈ v, 0 ≤ y ∧ y ≤ 1000000000) (h : ∀ p ∈ ps, 0 ≤ p ∧ p < n) : greatL v ps ≤ getV v (hardI n v ps) := by
  refine greatL_le (getV_low hv _).1 (fun p hp => ?_)
  exact (hard_mem (n := n) (v := v) (fun p hp => by have := h p hp; omega) (fun e => by rw [e] at hp; cases hp)).2 p hp

/-! ### rows of truth values -/
def getB (z : List Bool) (p : Int) : Bool := z.getD p.toNat false
theorem getB_set {z : List Bool} {i : Nat} (hi : i < z.length) (q : Int) : getB (z.set i true) q = true ↔ q.toNat = i ∨ getB z q = true := by
  unfold getB
  rw [List.getD_eq_getElem?_getD, List.getD_eq_getElem?_getD, List.getElem?_set]
  split
  · rename_i e
    subst e
    simp [hi]
  · rename_i e
    constructor
    · exact .inr
    · rintro (h | h)
      · exact absurd h.symm e
      · exact h
theorem getB_false {z : List Bool} {q : Int} (hq : q.toNat < z.length) (h : getB z q = false) : z[q.toNat]? = some false := by
  unfold getB at h
  rw [List.getD_eq_getElem?_getD] at h
  rw [List.getElem?_eq_getElem hq] at h ⊢
  simpa using h
def offs (z : List Bool) : Nat := z.count false
theorem offs_set : ∀ (z : List Bool) (i : Nat), z[i]? = some false → offs (z.set i true) < offs z
  | [], i, h => by simp at h
  | a :: r, 0, h => by simp at h; subst h; simp [offs]
  | a :: r, i + 1, h => by
    have ih := offs_set r i (by simpa using h)
    unfold offs at ih ⊢
    simp only [List.set_cons_succ, List.count_cons]; omega
def LeB (z z' : List Bool) : Prop := ∀ q, getB z q = true → getB z' q = true
theorem LeB.rfl' (z : List Bool) : LeB z z := fun _ h => h
theorem LeB.tr (a b c : List Bool) (h : LeB a b) (h' : LeB b c) : LeB a c := fun q hq => h' q (h q hq)

/-! ### the zone of the goal -/
def zoneOp (n : Int) (v : List Int) (o : Opr × Int) (z : List Bool) : List Bool :=
  if 0 < o.2 ∨ getB z (hardI n v o.1.pre) = true then z else if o.1.add.any (getB z) = true then z.set (hardI n v o.1.pre).toNat true else z
def zoneR (n : Int) (v : List Int) (os : List (Opr × Int)) (z : List Bool) : List Bool := os.foldl (fun z o => zoneOp n v o z) z
def zone0 (n : Int) (v goal : List Int) : List Bool := (List.replicate (n.toNat + 1) false).set (hardI n v goal).toNat true
def zoneV (n : Int) (v : List Int) (os : List (Opr × Int)) (goal : List Int) : List Bool := fixG (zoneR n v os) (n.toNat + 1) (zone0 n v goal)

def ZoneI (n : Int) (v : List Int) (g : Int) (z : List Bool) : Prop := z.length = n.toNat + 1 ∧ ∀ q, 0 ≤ q → getB z q = true → g ≤ getV v q

/-- What the rounds of a cut need to know of the values. -/
structure CutIn (n : Int) (v : List Int) (os : List (Opr × Int)) : Prop where
  n0 : 0 ≤ n
  low : ∀ y ∈ v, 0 ≤ y ∧ y ≤ 1000000000
  last : getV v n = 0
  pre : ∀ o ∈ os, ∀ p ∈ o.1.pre, 0 ≤ p ∧ p < n
  add : ∀ o ∈ os, ∀ p ∈ o.1.add, 0 ≤ p ∧ p < n
  cost : ∀ o ∈ os, 0 ≤ o.2 ∧ o.2 ≤ 100
  step : ∀ o ∈ os, ∀ p ∈ o.1.add, getV v p ≤ plusI (greatL v o.1.pre) o.2

theorem plusI_zero {a : Int} (ha : 0 ≤ a ∧ a ≤ 1000000000) : plusI a 0 ≤ a := by
  unfold plusI; split <;> omega
theorem offs_le (z : List Bool) : offs z ≤ z.length := List.count_le_length

section
variable {n : Int} {v : List Int} {os : List (Opr × Int)} {g : Int}
theorem zoneOp_ok (h : CutIn n v os) {o : Opr × Int} (ho : o ∈ os) : Okf (ZoneI n v g) offs LeB (zoneOp n v o) := by
  intro z ⟨hl, hz⟩
  unfold zoneOp
  have hin := hard_in (v := v) h.n0 (h.pre o ho)
  split
  · exact ⟨⟨hl, hz⟩, LeB.rfl' z, .inl rfl⟩
  · rename_i hc
    split
    · rename_i ha
      have hlt : (hardI n v o.1.pre).toNat < z.length := by omega
      have hf : getB z (hardI n v o.1.pre) = false := by
        cases hb : getB z (hardI n v o.1.pre) with
        | false => rfl
        | true => exact absurd (.inr hb) hc
      refine ⟨⟨by rw [List.length_set, hl], fun q hq hb => ?_⟩, fun q hq => (getB_set hlt q).2 (.inr hq), .inr (offs_set z _ (getB_false hlt hf))⟩
      rcases (getB_set hlt q).1 hb with e | e
      · obtain rfl : q = hardI n v o.1.pre := by omega
        obtain ⟨p, hp, hpz⟩ := List.any_eq_true.1 ha
        have h1 := hz p (h.add o ho p hp).1 hpz
        have h2 := h.step o ho p hp
        have h3 := hard_great h.last h.low (h.pre o ho)
        have h4 := comb_great v o.1.pre h.low
        have h5 : o.2 = 0 := by have := h.cost o ho; have : ¬ 0 < o.2 := fun e => hc (.inl e); omega
        rw [h5] at h2
        have := plusI_zero h4
        omega
      · exact hz q hq e
    · exact ⟨⟨hl, hz⟩, LeB.rfl' z, .inl rfl⟩
theorem zoneR_ok (h : CutIn n v os) {xs : List (Opr × Int)} (hx : ∀ o ∈ xs, o ∈ os) : Okf (ZoneI n v g) offs LeB (zoneR n v xs) :=
  okf_fold (f := fun o z => zoneOp n v o z) LeB.rfl' LeB.tr xs (fun o ho => zoneOp_ok h (hx o ho))
theorem zone0_ok (h : CutIn n v os) {goal : List Int} (hg : ∀ p ∈ goal, 0 ≤ p ∧ p < n) : ZoneI n v (greatL v goal) (zone0 n v goal) ∧ getB (zone0 n v goal) (hardI n v goal) = true := by
  have hin := hard_in (v := v) h.n0 hg
  have hlt : (hardI n v goal).toNat < (List.replicate (n.toNat + 1) false).length := by rw [List.length_replicate]; omega
  refine ⟨⟨by unfold zone0; simp, fun q hq hb => ?_⟩, (getB_set hlt _).2 (.inl rfl)⟩
  rcases (getB_set hlt q).1 hb with e | e
  · obtain rfl : q = hardI n v goal := by omega
    exact hard_great h.last h.low hg
  · exfalso
    unfold getB at e
    rw [List.getD_eq_getElem?_getD, List.getElem?_replicate] at e
    split at e <;> simp at e
theorem zoneV_ok (h : CutIn n v os) {goal : List Int} (hg : ∀ p ∈ goal, 0 ≤ p ∧ p < n) : ZoneI n v (greatL v goal) (zoneV n v os goal) ∧ getB (zoneV n v os goal) (hardI n v goal) = true ∧
    ∀ o ∈ os, o.2 ≤ 0 → ∀ p ∈ o.1.add, getB (zoneV n v os goal) p = true → getB (zoneV n v os goal) (hardI n v o.1.pre) = true := by
  obtain ⟨z0, z1⟩ := zone0_ok h hg
  have hok : Okf (ZoneI n v (greatL v goal)) offs LeB (zoneR n v os) := zoneR_ok h (fun o ho => ho)
  obtain ⟨a1, a2, a3⟩ := fixG_spec hok LeB.rfl' LeB.tr (n.toNat + 1) (zone0 n v goal) z0 (by have := offs_le (zone0 n v goal); have := z0.1; omega)
  refine ⟨a1, a2 _ z1, fun o ho hc p hp hz => ?_⟩
  have h1 := fold_done (f := fun o z => zoneOp n v o z) LeB.rfl' LeB.tr os (fun o ho => zoneOp_ok h ho) _ a1 a3 o ho
  unfold zoneV at hz ⊢
  generalize fixG (zoneR n v os) (n.toNat + 1) (zone0 n v goal) = z at h1 hz a1 ⊢
  unfold zoneOp at h1
  cases hb : getB z (hardI n v o.1.pre) with
  | true => rfl
  | false =>
    exfalso
    rw [if_neg (by rintro (e | e); omega; rw [hb] at e; cases e), if_pos (List.any_eq_true.2 ⟨p, hp, hz⟩)] at h1
    have hin := hard_in (v := v) h.n0 (h.pre o ho)
    have hlt : (hardI n v o.1.pre).toNat < z.length := by have := a1.1; omega
    have := offs_set z _ (getB_false hlt hb)
    rw [h1] at this
    omega

/-! ### what is reached before the zone -/
def befAdd (z b : List Bool) (ps : List Int) : List Bool := ps.foldl (fun b p => if getB b p = true ∨ getB z p = true then b else b.set p.toNat true) b
def befOp (n : Int) (v : List Int) (z : List Bool) (o : Opr) (b : List Bool) : List Bool := if getB b (hardI n v o.pre) = true then befAdd z b o.add else b
def befR (n : Int) (v : List Int) (z : List Bool) (ops : List Opr) (b : List Bool) : List Bool := ops.foldl (fun b o => befOp n v z o b) b
def onB (b : List Bool) (s : List Int) : List Bool := s.foldl (fun b p => b.set p.toNat true) b
def bef0 (n : Int) (s : List Int) : List Bool := onB ((List.replicate (n.toNat + 1) false).set n.toNat true) s
def befV (n : Int) (v : List Int) (z : List Bool) (ops : List Opr) (s : List Int) : List Bool := fixG (befR n v z ops) (n.toNat + 1) (bef0 n s)
theorem onB_snoc (b : List Bool) (s : List Int) (p : Int) : onB b (s ++ [p]) = (onB b s).set p.toNat true := by unfold onB; rw [List.foldl_append]; rfl
theorem befAdd_snoc (z b : List Bool) (ps : List Int) (p : Int) : befAdd z b (ps ++ [p]) = if getB (befAdd z b ps) p = true ∨ getB z p = true then befAdd z b ps else (befAdd z b ps).set p.toNat true := by unfold befAdd; rw [List.foldl_append]; rfl
theorem befR_snoc (n : Int) (v : List Int) (z : List Bool) (ops : List Opr) (o : Opr) (b : List Bool) : befR n v z (ops ++ [o]) b = befOp n v z o (befR n v z ops b) := by unfold befR; rw [List.foldl_append]; rfl
theorem zoneR_snoc (n : Int) (v : List Int) (os : List (Opr × Int)) (o : Opr × Int) (z : List Bool) : zoneR n v (os ++ [o]) z = zoneOp n v o (zoneR n v os z) := by unfold zoneR; rw [List.foldl_append]; rfl

def BefI (n : Int) (z b : List Bool) : Prop := b.length = n.toNat + 1 ∧ ∀ q, 0 ≤ q → getB b q = true → getB z q = false
theorem onB_spec : ∀ (s : List Int) (b : List Bool), (∀ p ∈ s, 0 ≤ p ∧ p.toNat < b.length) → (onB b s).length = b.length ∧ ∀ q, 0 ≤ q → (getB (onB b s) q = true ↔ q ∈ s ∨ getB b q = true)
  | [], b, _ => ⟨rfl, fun q _ => ⟨.inr, fun h => h.resolve_left (List.not_mem_nil)⟩⟩
  | p :: r, b, h => by
    have hp := h p (by simp)
    obtain ⟨h1, h2⟩ := onB_spec r (b.set p.toNat true) (fun q hq => by rw [List.length_set]; exact h q (by simp [hq]))
    have e : onB b (p :: r) = onB (b.set p.toNat true) r := rfl
    rw [e]
    refine ⟨by rw [h1, List.length_set], fun q hq => ?_⟩
    rw [h2 q hq, getB_set hp.2, List.mem_cons]
    constructor
    · rintro (h | h | h)
      · exact .inl (.inr h)
      · exact .inl (.inl (by omega))
      · exact .inr h
    · rintro ((h | h) | h)
      · exact .inr (.inl (by rw [h]))
      · exact .inl h
      · exact .inr (.inr h)
theorem bef0_spec (n0 : 0 ≤ n) {s : List Int} (hs : ∀ p ∈ s, 0 ≤ p ∧ p < n) : (bef0 n s).length = n.toNat + 1 ∧ ∀ q, 0 ≤ q → (getB (bef0 n s) q = true ↔ q ∈ s ∨ q = n) := by
  obtain ⟨h1, h2⟩ := onB_spec s ((List.replicate (n.toNat + 1) false).set n.toNat true) (fun p hp => by have := hs p hp; simp; omega)
  refine ⟨by unfold bef0; rw [h1]; simp, fun q hq => ?_⟩
  unfold bef0
  rw [h2 q hq, getB_set (by simp)]
  constructor
  · rintro (h | h | h)
    · exact .inl h
    · exact .inr (by omega)
    · exfalso
      unfold getB at h
      rw [List.getD_eq_getElem?_getD, List.getElem?_replicate] at h
      split at h <;> simp at h
  · rintro (h | h)
    · exact .inl h
    · exact .inr (.inl (by rw [h]))
theorem befStep_ok {z : List Bool} {p : Int} (hp : 0 ≤ p ∧ p < n) : Okf (BefI n z) offs LeB (fun b => if getB b p = true ∨ getB z p = true then b else b.set p.toNat true) := by
  intro b ⟨hl, hb⟩
  simp only
  split
  · exact ⟨⟨hl, hb⟩, LeB.rfl' b, .inl rfl⟩
  · rename_i hc
    have hlt : p.toNat < b.length := by omega
    have hf : getB b p = false := by
      cases h : getB b p with
      | false => rfl
      | true => exact absurd (.inl h) hc
    have hfz : getB z p = false := by
      cases h : getB z p with
      | false => rfl
      | true => exact absurd (.inr h) hc
    refine ⟨⟨by rw [List.length_set, hl], fun q hq h => ?_⟩, fun q hq => (getB_set hlt q).2 (.inr hq), .inr (offs_set b _ (getB_false hlt hf))⟩
    rcases (getB_set hlt q).1 h with e | e
    · obtain rfl : q = p := by omega
      exact hfz
    · exact hb q hq e
theorem befAdd_ok {z : List Bool} {ps : List Int} (hp : ∀ p ∈ ps, 0 ≤ p ∧ p < n) : Okf (BefI n z) offs LeB (fun b => befAdd z b ps) :=
  okf_fold (f := fun p b => if getB b p = true ∨ getB z p = true then b else b.set p.toNat true) LeB.rfl' LeB.tr ps (fun p h => befStep_ok (hp p h))
theorem befOp_ok {z : List Bool} {o : Opr} (hp : ∀ p ∈ o.add, 0 ≤ p ∧ p < n) : Okf (BefI n z) offs LeB (befOp n v z o) := by
  intro b hb
  unfold befOp
  split
  · exact befAdd_ok hp b hb
  · exact ⟨hb, LeB.rfl' b, .inl rfl⟩
theorem befR_ok {z : List Bool} {ops : List Opr} (hp : ∀ o ∈ ops, ∀ p ∈ o.add, 0 ≤ p ∧ p < n) : Okf (BefI n z) offs LeB (befR n v z ops) :=
  okf_fold (f := fun o b => befOp n v z o b) LeB.rfl' LeB.tr ops (fun o ho => befOp_ok (hp o ho))
theorem befV_ok {z : List Bool} {ops : List Opr} {s : List Int} (hp : ∀ o ∈ ops, ∀ p ∈ o.add, 0 ≤ p ∧ p < n) (h0 : BefI n z (bef0 n s)) : BefI n z (befV n v z ops s) ∧ LeB (bef0 n s) (befV n v z ops s) ∧
    ∀ o ∈ ops, getB (befV n v z ops s) (hardI n v o.pre) = true → ∀ p ∈ o.add, getB (befV n v z ops s) p = true ∨ getB z p = true := by
  obtain ⟨a1, a2, a3⟩ := fixG_spec (befR_ok (v := v) hp) LeB.rfl' LeB.tr (n.toNat + 1) (bef0 n s) h0 (by have := offs_le (bef0 n s); have := h0.1; omega)
  refine ⟨a1, a2, fun o ho hh p hpp => ?_⟩
  have h1 := fold_done (f := fun o b => befOp n v z o b) LeB.rfl' LeB.tr ops (fun o ho => befOp_ok (hp o ho)) _ a1 a3 o ho
  unfold befV at hh ⊢
  generalize fixG (befR n v z ops) (n.toNat + 1) (bef0 n s) = b at h1 hh a1 ⊢
  unfold befOp at h1
  rw [if_pos hh] at h1
  have h2 := fold_done (f := fun p b => if getB b p = true ∨ getB z p = true then b else b.set p.toNat true) LeB.rfl' LeB.tr o.add (fun p h => befStep_ok (z := z) (hp o ho p h)) b a1 h1 p hpp
  by_cases hc : getB b p = true ∨ getB z p = true
  · exact hc
  · exfalso
    rw [if_neg hc] at h2
    have hf : getB b p = false := by
      cases h : getB b p with
      | false => rfl
      | true => exact absurd (.inl h) hc
    have hlt : p.toNat < b.length := by have := hp o ho p hpp; have := a1.1; omega
    have := offs_set b _ (getB_false hlt hf)
    rw [h2] at this
    omega

/-! ### the cut -/
def inCut (n : Int) (v : List Int) (z b : List Bool) (o : Opr) : Bool := getB b (hardI n v o.pre) && o.add.any (getB z)
def cutTo (n : Int) (v : List Int) (z b : List Bool) (os : List (Opr × Int)) : Nat → List Int × Int
  | 0 => ([], 1000000000)
  | k + 1 => match os[k]? with
    | some o => if inCut n v z b o.1 = true then ((cutTo n v z b os k).1 ++ [(k : Int)], min (cutTo n v z b os k).2 o.2) else cutTo n v z b os k
    | none => cutTo n v z b os k
theorem cutTo_spec (hc : ∀ o ∈ os, 0 ≤ o.2 ∧ o.2 ≤ 100) (z b : List Bool) : ∀ k, k ≤ os.length →
    (∀ i : Int, i ∈ (cutTo n v z b os k).1 ↔ ∃ (j : Nat) (o : Opr × Int), i = j ∧ j < k ∧ os[j]? = some o ∧ inCut n v z b o.1 = true) ∧ (cutTo n v z b os k).1.Nodup ∧ (cutTo n v z b os k).1.length ≤ k ∧
    (∀ (j : Nat) (o : Opr × Int), j < k → os[j]? = some o → inCut n v z b o.1 = true → (cutTo n v z b os k).2 ≤ o.2) ∧
    ((cutTo n v z b os k).1 = [] ∧ (cutTo n v z b os k).2 = 1000000000 ∨ ∃ (j : Nat) (o : Opr × Int), j < k ∧ os[j]? = some o ∧ inCut n v z b o.1 = true ∧ (cutTo n v z b os k).2 = o.2)
  | 0, _ => ⟨fun i => ⟨fun h => (List.not_mem_nil h).elim, fun ⟨_, _, _, h, _⟩ => absurd h (by omega)⟩, List.nodup_nil, Nat.le_refl _, fun _ _ h => absurd h (by omega), .inl ⟨rfl, rfl⟩⟩
  | k + 1, hk => by
    obtain ⟨h1, h2, h5, h3, h4⟩ := cutTo_spec hc z b k (by omega)
    obtain ⟨o, ho⟩ : ∃ o, os[k]? = some o := ⟨_, List.getElem?_eq_getElem (by omega)⟩
    have hco := hc o (List.mem_of_getElem? ho)
    rw [cutTo, ho]
    simp only
    by_cases hi : inCut n v z b o.1 = true
    · rw [if_pos hi]
      refine ⟨fun i => ?_, ?_, by simp; omega, fun j o' hj ho' hi' => ?_, .inr ?_⟩
      · rw [List.mem_append, h1 i]
        constructor
        · rintro (⟨j, o', e, hj, ho', hi'⟩ | e)
          · exact ⟨j, o', e, by omega, ho', hi'⟩
          · exact ⟨k, o, by simpa using e, by omega, ho, hi⟩
        · rintro ⟨j, o', e, hj, ho', hi'⟩
          by_cases hjk : j < k
          · exact .inl ⟨j, o', e, hjk, ho', hi'⟩
          · obtain rfl : j = k := by omega
            exact .inr (by simp [e])
      · rw [List.nodup_append]
        refine ⟨h2, by simp, fun a ha c hc' e => ?_⟩
        obtain ⟨j, _, e2, hj, _⟩ := (h1 a).1 ha
        have : c = (k : Int) := by simpa using hc'
        omega
      · simp only
        by_cases hjk : j < k
        · have := h3 j o' hjk ho' hi'; omega
        · obtain rfl : j = k := by omega
          rw [ho] at ho'; cases ho'; omega
      · simp only
        rcases h4 with ⟨_, e⟩ | ⟨j, o', hj, ho', hi', e⟩
        · exact ⟨k, o, by omega, ho, hi, by rw [e]; omega⟩
        · by_cases hlt : o'.2 ≤ o.2
          · exact ⟨j, o', by omega, ho', hi', by rw [e]; omega⟩
          · exact ⟨k, o, by omega, ho, hi, by rw [e]; omega⟩
    · rw [if_neg hi]
      have drop : ∀ (j : Nat) (o' : Opr × Int), j < k + 1 → os[j]? = some o' → inCut n v z b o'.1 = true → j < k := fun j o' hj ho' hi' => by
        by_cases hjk : j < k
        · exact hjk
        · obtain rfl : j = k := by omega
          rw [ho] at ho'; cases ho'; exact absurd hi' hi
      refine ⟨fun i => ?_, h2, by omega, fun j o' hj ho' hi' => h3 j o' (drop j o' hj ho' hi') ho' hi', ?_⟩
      · rw [h1 i]
        constructor
        · rintro ⟨j, o', e, hj, ho', hi'⟩; exact ⟨j, o', e, by omega, ho', hi'⟩
        · rintro ⟨j, o', e, hj, ho', hi'⟩; exact ⟨j, o', e, drop j o' hj ho' hi', ho', hi'⟩
      · rcases h4 with h4 | ⟨j, o', hj, ho', hi', e⟩
        · exact .inl h4
        · exact .inr ⟨j, o', by omega, ho', hi', e⟩
end

/-- Finite values are of facts that the operators reach. -/
def FinIn (b : List Bool) (v : List Int) : Prop := ∀ q, 0 ≤ q → q.toNat < v.length → getV v q < 1000000000 → getB b q = true
theorem getV_set_ne {v : List Int} {i : Nat} {x : Int} {q : Int} (h : q.toNat ≠ i) : getV (v.set i x) q = getV v q := by
  unfold getV
  rw [List.getD_eq_getElem?_getD, List.getD_eq_getElem?_getD, List.getElem?_set_ne (fun e => h e.symm)]
theorem finIn_adds {b : List Bool} {x : Int} : ∀ (ps v : List Int), FinIn b v → (∀ p ∈ ps, 0 ≤ p) → (x < 1000000000 → ∀ p ∈ ps, getB b p = true) → (∀ y ∈ v, y ≤ 1000000000) → x ≤ 1000000000 → FinIn b (addsV x v ps)
  | [], v, h, _, _, _, _ => h
  | p :: r, v, h, h0, hb, hv, hx => by
    unfold addsV
    rw [List.foldl_cons]
    refine finIn_adds r _ ?_ (fun q hq => h0 q (by simp [hq])) (fun hx q hq => hb hx q (by simp [hq])) ?_ hx
    · split
      · intro q hq hl hlt
        rw [List.length_set] at hl
        by_cases he : q.toNat = p.toNat
        · obtain rfl : q = p := by have := h0 p (by simp); omega
          refine hb ?_ q (by simp)
          unfold getV at hlt
          rw [List.getD_eq_getElem?_getD, List.getElem?_set_self hl] at hlt
          simpa using hlt
        · rw [getV_set_ne he] at hlt
          exact h q hq hl hlt
      · exact h
    · split
      · intro y hy
        rcases List.mem_or_eq_of_mem_set hy with h | h
        · exact hv y h
        · omega
      · exact hv
theorem finIn_ops {b : List Bool} : ∀ (os : List (Opr × Int)) (v : List Int), FinIn b v → (∀ y ∈ v, 0 ≤ y ∧ y ≤ 1000000000) → (∀ o ∈ os, 0 ≤ o.2) → (∀ o ∈ os, ∀ p ∈ o.1.pre, 0 ≤ p ∧ p.toNat < v.length) → (∀ o ∈ os, ∀ p ∈ o.1.add, 0 ≤ p) →
    (∀ o ∈ os, (∀ p ∈ o.1.pre, getB b p = true) → ∀ p ∈ o.1.add, getB b p = true) → FinIn b (opsV greatL v os)
  | [], v, h, _, _, _, _, _ => h
  | o :: r, v, h, hv, hc, hp, ha, hs => by
    have h1 := comb_great v o.1.pre hv
    have hx := plusI_low h1.1 (hc o (by simp))
    have hv2 := addsV_spec hx o.1.add v hv
    have e : opsV greatL v (o :: r) = opsV greatL (addsV (plusI (greatL v o.1.pre) o.2) v o.1.add) r := by unfold opsV; rw [List.foldl_cons]
    rw [e]
    refine finIn_ops r _ (finIn_adds o.1.add v h (ha o (by simp)) (fun hlt => hs o (by simp) (fun p hpp => ?_)) (fun y hy => (hv y hy).2) hx.2) hv2.2.1 (fun o ho => hc o (by simp [ho])) (fun o ho p hpp => by rw [hv2.1]; exact hp o (by simp [ho]) p hpp) (fun o ho => ha o (by simp [ho])) (fun o ho => hs o (by simp [ho]))
    have h2 := greatL_mem (v := v) hpp
    have h3 : greatL v o.1.pre < 1000000000 := by
      by_cases he : greatL v o.1.pre = 1000000000
      · unfold plusI at hlt; rw [if_pos (.inl he)] at hlt; omega
      · omega
    exact h p (hp o (by simp) p hpp).1 (hp o (by simp) p hpp).2 (by omega)
theorem finIn_fix {b : List Bool} {os : List (Opr × Int)} (hc : ∀ o ∈ os, 0 ≤ o.2) (ha : ∀ o ∈ os, ∀ p ∈ o.1.add, 0 ≤ p) (hs : ∀ o ∈ os, (∀ p ∈ o.1.pre, getB b p = true) → ∀ p ∈ o.1.add, getB b p = true) :
    ∀ (k : Nat) (v : List Int), FinIn b v → (∀ y ∈ v, 0 ≤ y ∧ y ≤ 1000000000) → (∀ o ∈ os, ∀ p ∈ o.1.pre, 0 ≤ p ∧ p.toNat < v.length) → FinIn b (fixV greatL os k v)
  | 0, v, h, _, _ => h
  | k + 1, v, h, hv, hp => by
    unfold fixV
    split
    · exact h
    · have h2 := opsV_spec comb_great os v hc hv
      exact finIn_fix hc ha hs k _ (finIn_ops os v h hv hc hp ha hs) h2.2.1 (fun o ho p hpp => by rw [h2.1]; exact hp o ho p hpp)
theorem finIn_zero {b : List Bool} : ∀ (ps v : List Int), FinIn b v → (∀ p ∈ ps, 0 ≤ p ∧ getB b p = true) → FinIn b (zeroV v ps)
  | [], v, h, _ => h
  | p :: r, v, h, hb => by
    refine finIn_zero r (v.set p.toNat 0) (fun q hq hl hlt => ?_) (fun q hq => hb q (by simp [hq]))
    rw [List.length_set] at hl
    by_cases he : q.toNat = p.toNat
    · obtain rfl : q = p := by have := (hb p (by simp)).1; omega
      exact (hb q (by simp)).2
    · rw [getV_set_ne he] at hlt
      exact h q hq hl hlt
theorem finIn_start (b : List Bool) (n : Int) {s : List Int} (hb : ∀ p ∈ s, 0 ≤ p ∧ getB b p = true) : FinIn b (startV n s) := by
  refine finIn_zero s _ (fun q _ hl hlt => ?_) hb
  rw [List.length_replicate] at hl
  unfold getV at hlt
  rw [List.getD_eq_getElem?_getD, List.getElem?_replicate, if_pos hl] at hlt
  exact absurd hlt (by simp)

end Go.Proofs.YtdokakhgflljgaaGreat

namespace Go.Proofs.YtdokakhgflljgaaGreat

def valL (t : Tsk) (s costs : List Int) : List Int := valuesV greatL t costs s ++ [0]
def zoneT (t : Tsk) (s costs : List Int) : List Bool := zoneV t.n (valL t s costs) (t.ops.zip costs) t.goal
def befT (t : Tsk) (s costs : List Int) : List Bool := befV t.n (valL t s costs) (zoneT t s costs) t.ops s
def cutT (t : Tsk) (s costs : List Int) : List Int × Int := cutTo t.n (valL t s costs) (zoneT t s costs) (befT t s costs) (t.ops.zip costs) t.ops.length
def lowC (ix : List Int) (c : Int) (costs : List Int) : List Int := ix.foldl (fun cs i => cs.set i.toNat (getV cs i - c)) costs
/-- Rounds of cuts: the sum of their costs. -/
def cutsT (t : Tsk) (s : List Int) : Nat → List Int → Int → Int
  | 0, _, tot => tot
  | k + 1, costs, tot => if greatL (valL t s costs) t.goal = 0 then tot else if greatL (valL t s costs) t.goal = 1000000000 then 1000000000 else
    cutsT t s k (lowC (cutT t s costs).1 (cutT t s costs).2 costs) (tot + (cutT t s costs).2)
/-- What the steps of a plan cost. -/
def payL (costs : List Int) (p : List Nat) : Int := (p.map fun i : Nat => getV costs (i : Int)).sum
def fuelC (costs : List Int) : Nat := (payL costs (List.range costs.length)).toNat + 1
def cutsH (t : Tsk) (x : Nat) : Int := cutsT t (facts x) (fuelC (costsV t)) (costsV t) 0

structure CostsOk (t : Tsk) (costs : List Int) : Prop where
  len : costs.length = t.ops.length
  low : ∀ c ∈ costs, 0 ≤ c ∧ c ≤ 100

theorem getV_app {v : List Int} {p : Int} (h : p.toNat < v.length) : getV (v ++ [0]) p = getV v p := by
  unfold getV
  rw [List.getD_eq_getElem?_getD, List.getD_eq_getElem?_getD, List.getElem?_append_left h]
theorem getV_last {v : List Int} {n : Int} (h : v.length = n.toNat) : getV (v ++ [0]) n = 0 := by
  unfold getV
  rw [List.getD_eq_getElem?_getD, ← h, List.getElem?_append_right (Nat.le_refl _)]; simp
theorem great_app_from {v : List Int} : ∀ (ps : List Int) (m : Int), (∀ p ∈ ps, p.toNat < v.length) → ps.foldl (fun m p => max m (getV (v ++ [0]) p)) m = ps.foldl (fun m p => max m (getV v p)) m
  | [], _, _ => rfl
  | p :: r, m, h => by
    rw [List.foldl_cons, List.foldl_cons, great_app_from r _ (fun q hq => h q (by simp [hq])), getV_app (h p (by simp))]
theorem greatL_app {v : List Int} (ps : List Int) (h : ∀ p ∈ ps, p.toNat < v.length) : greatL (v ++ [0]) ps = greatL v ps := great_app_from ps 0 h

section
variable {t : Tsk} {s costs : List Int}
theorem vals_ok (hc : CostsOk t costs) : RelOk t costs greatL s (valuesV greatL t costs s) := values_ok comb_great (fun c h => (hc.low c h).1) s
theorem cutIn (ok : t.Ok) (hc : CostsOk t costs) (s : List Int) : CutIn t.n (valL t s costs) (t.ops.zip costs) := by
  have V := vals_ok (t := t) (s := s) hc
  have n0 := ok.n0
  have hpre : ∀ o ∈ t.ops.zip costs, ∀ p ∈ o.1.pre, 0 ≤ p ∧ p < t.n := fun o ho => (isSet_iff.1 (ok.ops o.1 (List.of_mem_zip ho).1).pre).1
  have hadd : ∀ o ∈ t.ops.zip costs, ∀ p ∈ o.1.add, 0 ≤ p ∧ p < t.n := fun o ho => (isSet_iff.1 (ok.ops o.1 (List.of_mem_zip ho).1).add).1
  refine ⟨n0, fun y hy => ?_, getV_last V.len, hpre, hadd, fun o ho => hc.low o.2 (List.of_mem_zip ho).2, fun o ho p hp => ?_⟩
  · rcases List.mem_append.1 hy with h | h
    · exact V.low y h
    · have : y = 0 := by simpa using h
      omega
  · unfold valL
    have hl := V.len
    rw [getV_app (by have := hadd o ho p hp; omega), greatL_app _ (fun q hq => by have := hpre o ho q hq; omega)]
    exact V.step o ho p hp
theorem zip_at {costs : List Int} (hl : costs.length = t.ops.length) {o : Opr} (ho : o ∈ t.ops) : ∃ (j : Nat) (c : Int), t.ops[j]? = some o ∧ costs[j]? = some c ∧ (t.ops.zip costs)[j]? = some (o, c) := by
  obtain ⟨j, hj⟩ := List.mem_iff_getElem?.1 ho
  obtain ⟨c, hc⟩ : ∃ c, costs[j]? = some c := ⟨_, List.getElem?_eq_getElem (by have := (List.getElem?_eq_some_iff.1 hj).1; omega)⟩
  exact ⟨j, c, hj, hc, by rw [List.getElem?_zip_eq_some]; exact ⟨hj, hc⟩⟩
theorem hard_on {n : Int} {v ps : List Int} {b : List Bool} (hps : ∀ p ∈ ps, 0 ≤ p ∧ p < n) (hn : getB b n = true) (h : ∀ p ∈ ps, getB b p = true) : getB b (hardI n v ps) = true := by
  rcases (hard_from (n := n) (v := v) ps n (fun p hp => by have := hps p hp; omega)).1 with e | e
  · unfold hardI; rw [e]; exact hn
  · exact h _ e

/-- What is known of the zone and of what lies before it. -/
structure CutSt (t : Tsk) (costs v : List Int) (z b : List Bool) (s : List Int) : Prop where
  zlen : z.length = t.n.toNat + 1
  blen : b.length = t.n.toNat + 1
  top : getB z (hardI t.n v t.goal) = true
  free : ∀ o ∈ t.ops.zip costs, o.2 ≤ 0 → ∀ p ∈ o.1.add, getB z p = true → getB z (hardI t.n v o.1.pre) = true
  apart : ∀ q, 0 ≤ q → getB b q = true → getB z q = false
  all : getB b t.n = true
  here : ∀ p ∈ s, getB b p = true
  shut : ∀ o ∈ t.ops, getB b (hardI t.n v o.pre) = true → ∀ p ∈ o.add, getB b p = true ∨ getB z p = true
theorem cut_start (ok : t.Ok) (hc : CostsOk t costs) (hs : ∀ p ∈ s, 0 ≤ p ∧ p < t.n) (hg : 0 < greatL (valL t s costs) t.goal) : BefI t.n (zoneT t s costs) (bef0 t.n s) := by
  have C := cutIn ok hc s
  have V := vals_ok (t := t) (s := s) hc
  have hgoal := (isSet_iff.1 ok.goal).1
  have n0 := ok.n0
  obtain ⟨z0, z1, z2⟩ := zoneV_ok C hgoal
  obtain ⟨b0, b1⟩ := bef0_spec n0 hs
  refine ⟨b0, fun q hq hb => ?_⟩
  cases hz : getB (zoneT t s costs) q with
  | false => rfl
  | true =>
    exfalso
    have h1 := z0.2 q hq hz
    rcases (b1 q hq).1 hb with e | rfl
    · have h2 := V.here q e
      have h3 : getV (valL t s costs) q = getV (valuesV greatL t costs s) q := getV_app (by have := hs q e; have := V.len; omega)
      omega
    · have := C.last; omega
theorem cut_st (ok : t.Ok) (hc : CostsOk t costs) (hs : ∀ p ∈ s, 0 ≤ p ∧ p < t.n) (hg : 0 < greatL (valL t s costs) t.goal) : CutSt t costs (valL t s costs) (zoneT t s costs) (befT t s costs) s := by
  have C := cutIn ok hc s
  have hgoal := (isSet_iff.1 ok.goal).1
  have n0 := ok.n0
  obtain ⟨z0, z1, z2⟩ := zoneV_ok C hgoal
  obtain ⟨a1, a2, a3⟩ := befV_ok (v := valL t s costs) (ops := t.ops) (fun o ho => (isSet_iff.1 (ok.ops o ho).add).1) (cut_start ok hc hs hg)
  obtain ⟨b0, b1⟩ := bef0_spec n0 hs
  exact ⟨z0.1, a1.1, z1, z2, a1.2, a2 _ ((b1 t.n n0).2 (.inr rfl)), fun p hp => a2 _ ((b1 p (hs p hp).1).2 (.inl hp)), a3⟩

/-- A plan uses an operator of the cut. -/
theorem path_cut (ok : t.Ok) {v : List Int} {z b : List Bool} (S : CutSt t costs v z b s) {g : Int} (hg : getB z g = true) (hg0 : 0 ≤ g) : ∀ (p : List Nat) (x y : Nat), runOps (wordsOf t.ops) x p = some y → (∀ q ∈ facts x, getB b q = true) → g ∈ facts y →
    ∃ i ∈ p, ∃ o, t.ops[i]? = some o ∧ inCut t.n v z b o = true
  | [], x, y, h, hx, hy => by
    cases h
    have h1 := S.apart g hg0 (hx g hy)
    rw [hg] at h1; cases h1
  | a :: r, x, y, h, hx, hy => by
    unfold runOps at h
    cases ho : (wordsOf t.ops)[a]? with
    | none => rw [ho] at h; cases h
    | some w =>
      rw [ho] at h
      simp only at h
      obtain ⟨o, ho', rfl⟩ : ∃ o, t.ops[a]? = some o ∧ o.word = w := by
        unfold wordsOf at ho
        rw [List.getElem?_map] at ho
        cases h2 : t.ops[a]? with
        | none => rw [h2] at ho; cases ho
        | some o => rw [h2] at ho; cases ho; exact ⟨o, rfl, rfl⟩
      split at h
      · rename_i hc
        have hom := List.mem_of_getElem? ho'
        have oko := ok.ops o hom
        have hpre := can_facts ok.n1 oko hc
        have hb := hard_on (v := v) (isSet_iff.1 oko.pre).1 S.all (fun p hp => hx p (hpre p hp))
        by_cases ha : o.add.any (getB z) = true
        · exact ⟨a, by simp, o, ho', by unfold inCut; rw [hb, ha]; rfl⟩
        · obtain ⟨i, hi, o', ho2, hc2⟩ := path_cut ok S hg hg0 r (o.word.next x) y h (fun q hq => by
            rcases next_facts oko hq with ⟨h1, _⟩ | h1
            · exact hx q h1
            · refine (S.shut o hom hb q h1).resolve_right (fun hz => ha (List.any_eq_true.2 ⟨q, h1, hz⟩))) hy
          exact ⟨i, by simp [hi], o', ho2, hc2⟩
      · cases h

structure RoundOk (t : Tsk) (s costs : List Int) (q : List Int × Int) : Prop where
  pos : 0 < q.2 ∧ q.2 ≤ 100
  inn : ∀ i ∈ q.1, 0 ≤ i ∧ i < t.ops.length ∧ q.2 ≤ getV costs i
  nodup : q.1.Nodup
  few : q.1.length ≤ t.ops.length
  ne : ∃ i, i ∈ q.1
  use : ∀ (x : Nat) (p : List Nat) (y : Nat), facts x = s → runOps (wordsOf t.ops) x p = some y → goalB (wd t.goal) y = true → ∃ i ∈ p, (i : Int) ∈ q.1

theorem round_ok (ok : t.Ok) (hc : CostsOk t costs) (hs : ∀ p ∈ s, 0 ≤ p ∧ p < t.n) (hg : 0 < greatL (valL t s costs) t.goal) (hf : greatL (valL t s costs) t.goal < 1000000000) : RoundOk t s costs (cutT t s costs) := by
  have C := cutIn ok hc s
  have V := vals_ok (t := t) (s := s) hc
  have S := cut_st ok hc hs hg
  have hgoal := (isSet_iff.1 ok.goal).1
  have n0 := ok.n0
  have hzl : (t.ops.zip costs).length = t.ops.length := by rw [List.length_zip, hc.len]; omega
  obtain ⟨c1, c2, c5, c3, c4⟩ := cutTo_spec (n := t.n) (v := valL t s costs) C.cost (zoneT t s costs) (befT t s costs) t.ops.length (by omega)
  have gne : t.goal ≠ [] := fun e => by rw [e] at hg; have : greatL (valL t s costs) [] = 0 := rfl; omega
  obtain ⟨m1, m2⟩ := hard_mem (v := valL t s costs) (n := t.n) (ps := t.goal) (fun p hp => by have := hgoal p hp; omega) gne
  have mg := hgoal _ m1
  have opAt : ∀ (i : Nat) (o : Opr), t.ops[i]? = some o → ∃ c, costs[i]? = some c ∧ (t.ops.zip costs)[i]? = some (o, c) := fun i o ho => by
    obtain ⟨c, hc'⟩ : ∃ c, costs[i]? = some c := ⟨_, List.getElem?_eq_getElem (by have := (List.getElem?_eq_some_iff.1 ho).1; have := hc.len; omega)⟩
    exact ⟨c, hc', by rw [List.getElem?_zip_eq_some]; exact ⟨ho, hc'⟩⟩
  have ne : ∃ i, i ∈ (cutT t s costs).1 := by
    refine Classical.byContradiction fun hno => ?_
    have hcl : ∀ o ∈ t.ops.zip costs, (∀ p ∈ o.1.pre, getB (befT t s costs) p = true) → ∀ p ∈ o.1.add, getB (befT t s costs) p = true := fun o ho hp p hpp => by
      obtain ⟨j, hj⟩ := List.mem_iff_getElem?.1 ho
      have hb := hard_on (v := valL t s costs) (C.pre o ho) S.all hp
      refine (S.shut o.1 (List.of_mem_zip ho).1 hb p hpp).resolve_right (fun hz => hno ⟨(j : Int), (c1 _).2 ⟨j, o, rfl, by have := (List.getElem?_eq_some_iff.1 hj).1; omega, hj, ?_⟩⟩)
      unfold inCut
      rw [hb, List.any_eq_true.2 ⟨p, hpp, hz⟩]; rfl
    have hst := startV_low (n := t.n) s
    have hfin := finIn_fix (b := befT t s costs) (os := t.ops.zip costs) (fun o ho => (C.cost o ho).1) (fun o ho p hp => (C.add o ho p hp).1) hcl (weightC (startV t.n s)) (startV t.n s)
      (finIn_start _ t.n (fun p hp => ⟨(hs p hp).1, S.here p hp⟩)) hst.2 (fun o ho p hp => by have := C.pre o ho p hp; rw [hst.1]; omega)
    have hlt : (hardI t.n (valL t s costs) t.goal).toNat < (valuesV greatL t costs s).length := by have := V.len; omega
    have h1 := hfin _ mg.1 hlt (by
      have h2 := greatL_mem (v := valL t s costs) m1
      unfold valL at h2 hf
      rw [getV_app (by unfold valL at hlt; exact hlt)] at h2
      show getV (valuesV greatL t costs s) _ < _
      unfold valL
      omega)
    have h2 := S.apart _ mg.1 h1
    rw [S.top] at h2; cases h2
  have inn : ∀ i ∈ (cutT t s costs).1, 0 ≤ i ∧ i < t.ops.length ∧ (cutT t s costs).2 ≤ getV costs i := fun i hi => by
    obtain ⟨j, o, rfl, hj, ho, hcut⟩ := (c1 i).1 hi
    have h1 := c3 j o hj ho hcut
    obtain ⟨_, h2⟩ := List.getElem?_zip_eq_some.1 ho
    have e : getV costs (j : Int) = o.2 := by unfold getV; rw [List.getD_eq_getElem?_getD, Int.toNat_natCast, h2]; rfl
    rw [e]
    exact ⟨by omega, by omega, h1⟩
  refine ⟨?_, inn, c2, c5, ne, fun x p y hx hr ha => ?_⟩
  · rcases c4 with ⟨e, _⟩ | ⟨j, o, hj, ho, hcut, e⟩
    · obtain ⟨i, hi⟩ := ne
      unfold cutT at hi
      rw [e] at hi; cases hi
    · have hom := List.mem_of_getElem? ho
      have h1 := C.cost o hom
      unfold cutT
      rw [e]
      refine ⟨?_, h1.2⟩
      by_cases h2 : 0 < o.2
      · exact h2
      · exfalso
        unfold inCut at hcut
        rw [Bool.and_eq_true] at hcut
        obtain ⟨p, hp, hz⟩ := List.any_eq_true.1 hcut.2
        have h3 := S.free o hom (by omega) p hp hz
        have h4 := S.apart _ (hard_in (v := valL t s costs) n0 (C.pre o hom)).1 hcut.1
        rw [h3] at h4; cases h4
  · obtain ⟨i, hi, o, ho, hcut⟩ := path_cut ok S S.top mg.1 p x y hr (fun q hq => S.here q (by rw [← hx]; exact hq)) (goal_facts ok.n1 ok.goal ha _ m1)
    obtain ⟨c, _, hz⟩ := opAt i o ho
    exact ⟨i, hi, (c1 _).2 ⟨i, (o, c), rfl, (List.getElem?_eq_some_iff.1 ho).1, hz, hcut⟩⟩

/-! ### the costs that are left -/
theorem lowC_spec (c : Int) : ∀ (ix costs : List Int), ix.Nodup → (∀ i ∈ ix, 0 ≤ i ∧ i.toNat < costs.length) → (lowC ix c costs).length = costs.length ∧ ∀ j : Int, 0 ≤ j → getV (lowC ix c costs) j = if j ∈ ix then getV costs j - c else getV costs j
  | [], costs, _, _ => ⟨rfl, fun j _ => by simp [lowC]⟩
  | i :: r, costs, hn, hb => by
    obtain ⟨hni, hnr⟩ := List.nodup_cons.1 hn
    have hi := hb i (by simp)
    obtain ⟨h1, h2⟩ := lowC_spec c r (costs.set i.toNat (getV costs i - c)) hnr (fun q hq => by rw [List.length_set]; exact hb q (by simp [hq]))
    have e : lowC (i :: r) c costs = lowC r c (costs.set i.toNat (getV costs i - c)) := rfl
    rw [e]
    refine ⟨by rw [h1, List.length_set], fun j hj => ?_⟩
    rw [h2 j hj]
    by_cases hji : j = i
    · subst hji
      rw [if_neg hni, if_pos (by simp)]
      show (costs.set j.toNat (getV costs j - c)).getD j.toNat 0 = _
      rw [List.getD_eq_getElem?_getD, List.getElem?_set_self hi.2]; rfl
    · rw [getV_set_ne (by omega)]
      by_cases hjr : j ∈ r
      · rw [if_pos hjr, if_pos (by simp [hjr])]
      · rw [if_neg hjr, if_neg (by simp [hji, hjr])]
theorem getV_mem {v : List Int} {c : Int} (h : c ∈ v) : ∃ j : Nat, j < v.length ∧ getV v (j : Int) = c := by
  obtain ⟨j, hj⟩ := List.mem_iff_getElem?.1 h
  exact ⟨j, (List.getElem?_eq_some_iff.1 hj).1, by unfold getV; rw [List.getD_eq_getElem?_getD, Int.toNat_natCast, hj]; rfl⟩
theorem low_ok (hc : CostsOk t costs) {q : List Int × Int} (hr : RoundOk t s costs q) : CostsOk t (lowC q.1 q.2 costs) := by
  obtain ⟨h1, h2⟩ := lowC_spec q.2 q.1 costs hr.nodup (fun i hi => by have := hr.inn i hi; have := hc.len; omega)
  refine ⟨by rw [h1, hc.len], fun c hm => ?_⟩
  obtain ⟨j, hj, rfl⟩ := getV_mem hm
  rw [h1] at hj
  have h3 : 0 ≤ getV costs (j : Int) ∧ getV costs (j : Int) ≤ 100 := by
    unfold getV
    rw [List.getD_eq_getElem?_getD, Int.toNat_natCast, List.getElem?_eq_getElem hj]
    exact hc.low _ (List.getElem_mem hj)
  rw [h2 (j : Int) (by omega)]
  split
  · rename_i hi
    have := hr.inn _ hi; have := hr.pos; omega
  · exact h3
theorem payL_low (h : ∀ c ∈ costs, 0 ≤ c) : ∀ p : List Nat, 0 ≤ payL costs p
  | [] => Int.le_refl _
  | a :: r => by
    have h1 := payL_low h r
    have h2 : 0 ≤ getV costs (a : Int) := by
      unfold getV
      rw [List.getD_eq_getElem?_getD]
      cases hx : costs[(a : Int).toNat]? with
      | none => simp
      | some y => exact h y (List.mem_of_getElem? hx)
    unfold payL at h1 ⊢
    rw [List.map_cons, List.sum_cons]; omega
theorem payL_less {c1 c2 : List Int} {d : Int} (h : ∀ j : Nat, getV c2 (j : Int) ≤ getV c1 (j : Int)) {i : Nat} (hd : getV c2 (i : Int) + d ≤ getV c1 (i : Int)) : ∀ p : List Nat, payL c2 p ≤ payL c1 p ∧ (i ∈ p → payL c2 p + d ≤ payL c1 p)
  | [] => ⟨Int.le_refl _, fun h => (List.not_mem_nil h).elim⟩
  | a :: r => by
    obtain ⟨h1, h2⟩ := payL_less h hd r
    have h3 := h a
    unfold payL at h1 h2 ⊢
    rw [List.map_cons, List.sum_cons, List.map_cons, List.sum_cons]
    refine ⟨by omega, fun hi => ?_⟩
    rcases List.mem_cons.1 hi with rfl | hi
    · omega
    · have := h2 hi; omega
theorem low_pay (hc : CostsOk t costs) {q : List Int × Int} (hr : RoundOk t s costs q) (p : List Nat) (i : Nat) (hi : (i : Int) ∈ q.1) (hp : i ∈ p) : payL (lowC q.1 q.2 costs) p + q.2 ≤ payL costs p := by
  obtain ⟨h1, h2⟩ := lowC_spec q.2 q.1 costs hr.nodup (fun i hi => by have := hr.inn i hi; have := hc.len; omega)
  have hpos := hr.pos
  refine (payL_less (fun j => ?_) (i := i) ?_ p).2 hp
  · rw [h2 (j : Int) (by omega)]; split <;> omega
  · rw [h2 (i : Int) (by omega), if_pos hi]; omega
theorem low_fuel (hc : CostsOk t costs) {q : List Int × Int} (hr : RoundOk t s costs q) : payL (lowC q.1 q.2 costs) (List.range (lowC q.1 q.2 costs).length) + q.2 ≤ payL costs (List.range costs.length) := by
  obtain ⟨i, hi⟩ := hr.ne
  have h1 := hr.inn i hi
  rw [(low_ok hc hr).len, hc.len]
  have e : ((i.toNat : Nat) : Int) = i := by omega
  exact low_pay hc hr _ i.toNat (by rw [e]; exact hi) (List.mem_range.2 (by omega))

/-- Where there is a plan, the values are finite. -/
theorem plan_fin (ok : t.Ok) (hc : CostsOk t costs) {x y : Nat} {p : List Nat} (_hx : ∀ q ∈ facts x, 0 ≤ q ∧ q < t.n) (hr : runOps (wordsOf t.ops) x p = some y) (ha : goalB (wd t.goal) y = true) : greatL (valL t (facts x) costs) t.goal < 1000000000 := by
  have V := vals_ok (t := t) (s := facts x) hc
  have key := run_inv (t := t) (Inv := fun z _ => ∀ q ∈ facts z, getV (valuesV greatL t costs (facts x)) q < 1000000000) (by
    intro o z c ho hcan hi q hq
    have oko := ok.ops o ho
    rcases next_facts oko hq with ⟨h1, _⟩ | h1
    · exact hi q h1
    · obtain ⟨j, d, _, hd, hz⟩ := zip_at hc.len ho
      have h2 := V.step _ (List.mem_of_getElem? hz) q h1
      simp only at h2
      have hpre := can_facts ok.n1 oko hcan
      have h4 : greatL (valuesV greatL t costs (facts x)) o.pre ≤ 999999999 := greatL_le (by decide) (fun p hp => by have := hi p (hpre p hp); omega)
      have h5 := greatL_low (valuesV greatL t costs (facts x)) o.pre
      have h6 := hc.low d (List.mem_of_getElem? hd)
      unfold plusI at h2
      rw [if_neg (by omega)] at h2
      omega) p x y 0 hr (fun q hq => by rw [V.here q hq]; decide)
  have hg := goal_facts ok.n1 ok.goal ha
  have hgoal := (isSet_iff.1 ok.goal).1
  unfold valL
  rw [greatL_app _ (fun q hq => by have := hgoal q hq; have := V.len; omega)]
  have e2 : greatL (valuesV greatL t costs (facts x)) t.goal ≤ 999999999 := greatL_le (by decide) (fun q hq => by have := key q (hg q hq); omega)
  omega

theorem cutsT_low (ok : t.Ok) (hs : ∀ p ∈ s, 0 ≤ p ∧ p < t.n) : ∀ (k : Nat) (costs : List Int) (tot : Int), CostsOk t costs → payL costs (List.range costs.length) < k → 0 ≤ tot → tot + payL costs (List.range costs.length) ≤ 4000 → 0 ≤ cutsT t s k costs tot ∧ cutsT t s k costs tot ≤ 1000000000
  | 0, costs, tot, hc, hk, h0, h1 => by have := payL_low (fun c h => (hc.low c h).1) (List.range costs.length); omega
  | k + 1, costs, tot, hc, hk, h0, h1 => by
    have hp := payL_low (fun c h => (hc.low c h).1) (List.range costs.length)
    rw [cutsT]
    split
    · omega
    · split
      · omega
      · rename_i hg hf
        have hb := comb_great (valL t s costs) t.goal (cutIn ok hc s).low
        have hr := round_ok ok hc hs (by omega) (by omega)
        have h2 := low_fuel hc hr
        have h3 := hr.pos
        exact cutsT_low ok hs k _ _ (low_ok hc hr) (by omega) (by omega) (by omega)
theorem cutsT_adm (ok : t.Ok) {x y : Nat} {p : List Nat} (hs : ∀ q ∈ facts x, 0 ≤ q ∧ q < t.n) (hrun : runOps (wordsOf t.ops) x p = some y) (ha : goalB (wd t.goal) y = true) : ∀ (k : Nat) (costs : List Int) (tot : Int), CostsOk t costs → payL costs (List.range costs.length) < k → 0 ≤ tot → tot + payL costs (List.range costs.length) ≤ 4000 →
    cutsT t (facts x) k costs tot ≤ tot + payL costs p ∧ cutsT t (facts x) k costs tot < 1000000000
  | 0, costs, tot, hc, hk, h0, h1 => by have := payL_low (fun c h => (hc.low c h).1) (List.range costs.length); omega
  | k + 1, costs, tot, hc, hk, h0, h1 => by
    have hp := payL_low (fun c h => (hc.low c h).1) p
    have hp2 := payL_low (fun c h => (hc.low c h).1) (List.range costs.length)
    rw [cutsT]
    split
    · omega
    · rename_i hg
      have hfin := plan_fin ok hc hs hrun ha
      rw [if_neg (by omega)]
      have hb := comb_great (valL t (facts x) costs) t.goal (cutIn ok hc (facts x)).low
      have hr := round_ok ok hc hs (by omega) hfin
      have h2 := low_fuel hc hr
      have h3 := hr.pos
      obtain ⟨i, hi, hiq⟩ := hr.use x p y rfl hrun ha
      have h4 := low_pay hc hr p i hiq hi
      have h5 := cutsT_adm ok hs hrun ha k _ _ (low_ok hc hr) (by omega) (by omega : 0 ≤ tot + (cutT t (facts x) costs).2) (by omega)
      omega
end

theorem costs_first {t : Tsk} (ok : t.Ok) : CostsOk t (costsV t) := ⟨costsV_len t, costsV_low ok⟩
theorem payL_cost {t : Tsk} : ∀ p : List Nat, payL (costsV t) p = costN (wordsOf t.ops) p
  | [] => rfl
  | a :: r => by
    have ih := payL_cost (t := t) r
    unfold payL at ih ⊢
    rw [List.map_cons, List.sum_cons, ih, costN]
    congr 1
    unfold getV costsV wordsOf
    rw [List.getD_eq_getElem?_getD, Int.toNat_natCast, List.getElem?_map, List.getElem?_map, Option.map_map]
    rfl
theorem payL_few {t : Tsk} (ok : t.Ok) : payL (costsV t) (List.range (costsV t).length) ≤ 4000 := by
  have h := (costN_bound (ops_cost ok) (List.range (costsV t).length)).2
  rw [payL_cost]
  have h2 := ok.few
  rw [List.length_range, costsV_len] at h
  rw [costsV_len]; omega
theorem cuts_adm {t : Tsk} (ok : t.Ok) (L : List Nat) (hL : ∀ x ∈ L, Good t.n x) : Adm (wordsOf t.ops) L (goalB (wd t.goal)) (cutsH t) := by
  have hf := payL_few ok
  have hc := costs_first ok
  have h0 := payL_low (fun c h => (hc.low c h).1) (List.range (costsV t).length)
  have hk : payL (costsV t) (List.range (costsV t).length) < (fuelC (costsV t) : Nat) := by unfold fuelC; omega
  refine ⟨fun x hx => cutsT_low ok (isSet_iff.1 (hL x hx).1).1 _ _ 0 hc hk (Int.le_refl _) (by omega), fun x hx p y hr ha => ?_⟩
  obtain ⟨h1, h2⟩ := cutsT_adm ok (isSet_iff.1 (hL x hx).1).1 hr ha (fuelC (costsV t)) (costsV t) 0 hc hk (Int.le_refl _) (by omega)
  rw [payL_cost] at h1
  exact ⟨by unfold cutsH; omega, h2⟩

end Go.Proofs.YtdokakhgflljgaaGreat

namespace Go.Proofs.YtdokakhgflljgaaGreat
open Go.RowKit Go.Shelf

/-- The struct of a search: the task, the state, the costs and the values. -/
structure SrchC (W : World) (X n : Nat) (vi vg vo vs vc vv : Value) : Prop where
  c0 : W.cell? ⟨X, 0, none⟩ = some (.int .i64 (n : Int))
  c1 : W.cell? ⟨X, 1, none⟩ = some vi
  c2 : W.cell? ⟨X, 2, none⟩ = some vg
  c3 : W.cell? ⟨X, 3, none⟩ = some vo
  c4 : W.cell? ⟨X, 4, none⟩ = some vs
  c5 : W.cell? ⟨X, 5, none⟩ = some vc
  c6 : W.cell? ⟨X, 6, none⟩ = some vv
theorem SrchC.keeps {S : Nat → Prop} {W W' : World} {X n : Nat} {vi vg vo vs vc vv : Value} (h : SrchC W X n vi vg vo vs vc vv) (hk : Keeps S W W') (hs : ¬ S X) : SrchC W' X n vi vg vo vs vc vv :=
  ⟨hk.cell h.c0 hs, hk.cell h.c1 hs, hk.cell h.c2 hs, hk.cell h.c3 hs, hk.cell h.c4 hs, hk.cell h.c5 hs, hk.cell h.c6 hs⟩
theorem SrchC.keeps0 {W W' : World} {X n : Nat} {vi vg vo vs vc vv : Value} (h : SrchC W X n vi vg vo vs vc vv) (hk : Keeps (fun _ => False) W W') : SrchC W' X n vi vg vo vs vc vv := h.keeps hk (fun h => h)
theorem SrchC.lt {W : World} {X n : Nat} {vi vg vo vs vc vv : Value} (h : SrchC W X n vi vg vo vs vc vv) : X < W.heap.size := World.block_lt_of_cell? W _ h.c0

theorem getV_at {v : List Int} {p : Nat} (h : p < v.length) : v[p]? = some (getV v (p : Int)) := by
  unfold getV; rw [List.getD_eq_getElem?_getD, Int.toNat_natCast, List.getElem?_eq_getElem h]; rfl

set_option maxRecDepth 100000 in
set_option maxHeartbeats 4000000 in
theorem hardest_any (w : World) (X n : Nat) (vi vg vo vs vc vv vp : Value) (v ps : List Int) (hX : SrchC w X n vi vg vo vs vc vv) (hv : Ints w vv v) (hl : v.length = n + 1) (hp : Ints w vp ps) (hb : ∀ p ∈ ps, 0 ≤ p ∧ p < (n : Int)) :
    Calls Tryz.prog 132 #[.pointer (some ⟨X, 0, none⟩), vp] w fun e w' => e = .returned (.int .i64 (hardI (n : Int) v ps)) ∧ Keeps (fun _ => False) w w' := by
  obtain ⟨av, cv, hvv, mv⟩ := hv.form
  obtain ⟨ap, cp, hvp, mp⟩ := hp.form
  subst hvv hvp
  have HX := Lib.hid hX; have HV := Lib.hid hv; have HP := Lib.hid hp; have HB := Lib.hid hb; have HL := Lib.hid hl
  have hxl := hX.lt
  have d0 := hX.c0
  clear hX hv hp hb hl
  go_enter Tryz.func132, Tryz.ntmps132
  go_wp2_with fail
  clear d0
  go_loopw [5, 15] (fun v5 v15 wr => ∃ k : Nat, v15 = .int .i64 (k : Int) ∧ k ≤ ps.length ∧ v5 = .int .i64 (hardI (n : Int) v (ps.take k)) ∧ Keeps (fun _ => False) w wr) (fun _ v15 _ => ps.length - (intOf v15).toNat)
  case atStart => exact ⟨0, rfl, Nat.zero_le _, rfl, Keeps.refl _ _⟩
  case round =>
    obtain ⟨k, rfl, hk, rfl, hkw⟩ := hrel
    by_cases hlt : k < ps.length
    · have HW := Lib.hid hkw
      have HR := Lib.hid (HX.out.keeps0 hkw)
      obtain ⟨bp, op, rfl, hcp⟩ := (HP.out.keeps0 hkw).cell rfl (by omega)
      obtain ⟨p, hpk⟩ : ∃ p, ps[k]? = some p := ⟨_, List.getElem?_eq_getElem hlt⟩
      have hpb := HB.out p (List.mem_of_getElem? hpk)
      obtain ⟨p, rfl⟩ := Int.eq_ofNat_of_zero_le hpb.1
      obtain ⟨bv, ov, rfl, hcv⟩ := (HV.out.keeps0 hkw).cell rfl (by have := HL.out; omega)
      have hc1 := hcp k _ hpk
      have hc2 := hcv p _ (getV_at (by have := HL.out; omega))
      have hin := hard_in (n := (n : Int)) (v := v) (ps := ps.take k) (by omega) (fun q hq => HB.out q (List.mem_of_mem_take hq))
      have HS := Lib.hid (show hardI (n : Int) v (ps.take (k + 1)) = if hardI (n : Int) v (ps.take k) = n ∨ getV v (hardI (n : Int) v (ps.take k)) < getV v (p : Int) then (p : Int) else hardI (n : Int) v (ps.take k) by rw [take_getS hpk, hardI_snoc])
      generalize hardI (n : Int) v (ps.take k) = b at hin HS ⊢
      obtain ⟨b, rfl⟩ := Int.eq_ofNat_of_zero_le hin.1
      have hc3 := hcv b _ (getV_at (by have := HL.out; omega))
      obtain ⟨d0, _, _, _, _, _, d6⟩ := HR.out
      have hxr := HR.out.lt
      have hpi : (p : Int) < (v.length : Int) := by have := HL.out; omega
      have hbi : (b : Int) < (v.length : Int) := by have := HL.out; omega
      clear hcp hcv hpk hpb hkw
      by_cases hbn : b = n
      · subst hbn
        have HN := Lib.hid (show hardI (b : Int) v (ps.take (k + 1)) = p by rw [HS.out, if_pos (.inl rfl)])
        have KD : ∀ nd, Keeps (fun _ => False) w (wr.drewN nd) := fun nd => HW.out.drewN nd
        have KD := Lib.hid KD
        clear HS hin
        go_wp2_with fail
        go_quiet (fail)
        go_wp2_with fail
        go_roundw
        case rel => exact ⟨k + 1, by go_num, by omega, by rw [HN.out], KD.out _⟩
        case measure => simp [intOf]; omega
      · have h1 : ((b : Int) == (n : Int)) = false := by simp; omega
        have h2 : decide ((b : Int) = (n : Int)) = false := by simp; omega
        have KD := Lib.hid (fun nd => HW.out.drewN nd)
        by_cases hlt2 : getV v (b : Int) < getV v (p : Int)
        · have HN := Lib.hid (show hardI (n : Int) v (ps.take (k + 1)) = p by rw [HS.out, if_pos (.inr hlt2)])
          have h3 : decide (getV v (b : Int) < getV v (p : Int)) = true := by simpa using hlt2
          clear HS hin hlt2 hbn
          generalize getV v (b : Int) = y1 at hc3 h3
          generalize getV v (p : Int) = y2 at hc2 h3
          go_wp2_with fail
          go_quiet (fail)
          go_wp2_with fail
          go_roundw
          case rel => exact ⟨k + 1, by go_num, by omega, by rw [HN.out], KD.out _⟩
          case measure => simp [intOf]; omega
        · have HN := Lib.hid (show hardI (n : Int) v (ps.take (k + 1)) = b by rw [HS.out, if_neg (by rintro (h | h); omega; exact hlt2 h)])
          have h3 : decide (getV v (b : Int) < getV v (p : Int)) = false := by simpa using hlt2
          clear HS hin hlt2 hbn
          generalize getV v (b : Int) = y1 at hc3 h3
          generalize getV v (p : Int) = y2 at hc2 h3
          go_wp2_with fail
          go_quiet (fail)
          go_wp2_with fail
          go_roundw
          case rel => exact ⟨k + 1, by go_num, by omega, by rw [HN.out], KD.out _⟩
          case measure => simp [intOf]; omega
    · have hr := Lib.hid (show hardI (n : Int) v ps = hardI (n : Int) v (ps.take k) by rw [List.take_of_length_le (by omega)])
      go_wp2_with fail
      go_ret
      exact ⟨congrArg (fun x => Ending.returned (Value.int .i64 x)) hr.out.symm, hkw⟩

end Go.Proofs.YtdokakhgflljgaaGreat

namespace Go.Proofs.YtdokakhgflljgaaGreat
open Go.RowKit Go.Shelf

theorem BArr.get {W : World} {g : Nat} {z : List Bool} (h : BArr W g z) {j : Nat} (hj : j < z.length) : W.cell? ⟨g, j, none⟩ = some (.bool (getB z (j : Int))) := by
  refine h.cell ?_
  unfold getB; rw [List.getD_eq_getElem?_getD, Int.toNat_natCast, List.getElem?_eq_getElem hj]; rfl
theorem set_again (z : List Bool) (f : Nat) : (z.set f true).set f true = z.set f true := by rw [List.set_set]

section
variable (w3 : World) (g n : Nat) (v goal : List Int) (os : List (Opr × Int)) (z0 z : List Bool)
def ZHead (k : Nat) (v4 : Value) (wr : World) : Prop :=
  ∃ (z : List Bool) (ch : Bool), v4 = .bool ch ∧ ZoneI (n : Int) v (greatL v goal) z ∧ BArr wr g z ∧ Keeps (fun b => b = g) w3 wr ∧ fixG (zoneR (n : Int) v os) (n + 1) z = fixG (zoneR (n : Int) v os) (n + 1) z0 ∧ (ch = false → zoneR (n : Int) v os z = z) ∧ k = 2 * offs z + (if ch = true then 1 else 0)
def ZMid (j : Nat) (v4 : Value) (wr : World) : Prop := ∃ ch : Bool, v4 = .bool ch ∧ BArr wr g (zoneR (n : Int) v (os.take j) z) ∧ Keeps (fun b => b = g) w3 wr ∧ Flag offs z (zoneR (n : Int) v (os.take j) z) ch
def ZAdd (zj : List Bool) (ch : Bool) (f : Nat) (ps : List Int) (v4 : Value) (wr : World) : Prop := v4 = .bool (ps.any (getB zj) || ch) ∧ BArr wr g (if ps.any (getB zj) = true then zj.set f true else zj) ∧ Keeps (fun b => b = g) w3 wr
end
theorem zoneOp_flag {n : Nat} {v : List Int} {os : List (Opr × Int)} (C : CutIn (n : Int) v os) {o : Opr × Int} (ho : o ∈ os) {z : List Bool} (hl : z.length = n + 1) (hc : ¬ 0 < o.2) (hf : getB z (hardI (n : Int) v o.1.pre) = false) :
    zoneOp (n : Int) v o z = (if o.1.add.any (getB z) = true then z.set (hardI (n : Int) v o.1.pre).toNat true else z) ∧ Flag offs z (zoneOp (n : Int) v o z) (o.1.add.any (getB z)) := by
  have e : zoneOp (n : Int) v o z = (if o.1.add.any (getB z) = true then z.set (hardI (n : Int) v o.1.pre).toNat true else z) := by
    unfold zoneOp; rw [if_neg (by rintro (h | h); exact hc h; rw [hf] at h; cases h)]
  refine ⟨e, ?_⟩
  rw [e]
  have hin := hard_in (v := v) C.n0 (C.pre o ho)
  cases h : o.1.add.any (getB z) with
  | false => exact .inl ⟨rfl, by simp⟩
  | true => exact .inr ⟨rfl, by simp only [if_true]; exact offs_set z _ (getB_false (by omega) hf)⟩

set_option maxRecDepth 100000 in
set_option maxHeartbeats 8000000 in
theorem zone_any (w : World) (X : Nat) (vi vg vo vs vc vv : Value) (t : Tsk) (n : Nat) (v costs : List Int) (hn : t.n = (n : Int)) (hX : SrchC w X n vi vg vo vs vc vv) (h : TaskAt w vi vg vo t) (ok : t.Ok) (hv : Ints w vv v) (hl : v.length = n + 1)
    (hcs : Ints w vc costs) (hcl : costs.length = t.ops.length) (C : CutIn (n : Int) v (t.ops.zip costs)) :
    Calls Tryz.prog 130 #[.pointer (some ⟨X, 0, none⟩)] w fun e w' => ∃ g, e = .returned (.slice (some ⟨g, 0, none⟩) (n + 1) (n + 1)) ∧ BArr w' g (zoneV (n : Int) v (t.ops.zip costs) t.goal) ∧ w.heap.size ≤ g ∧ Keeps (fun _ => False) w w' := by
  obtain ⟨ai, ci, h1, _⟩ := h.init.form
  obtain ⟨ag, cg, h2, _⟩ := h.goal.form
  obtain ⟨ao, co, h3, hmo⟩ := h.ops.form
  obtain ⟨ac, cc, h4, hmc⟩ := hcs.form
  subst h1 h2 h3 h4
  have hn24 : n ≤ 24 := by have := ok.n1; omega
  have HX := Lib.hid hX; have HT := Lib.hid h; have OK := Lib.hid ok; have HV := Lib.hid hv; have HL := Lib.hid hl; have HCS := Lib.hid hcs; have HCL := Lib.hid hcl; have HC := Lib.hid C
  have HGB := Lib.hid (show ∀ p ∈ t.goal, 0 ≤ p ∧ p < (n : Int) by have := (isSet_iff.1 ok.goal).1; rw [hn] at this; exact this)
  obtain ⟨d0, d1, d2, d3, d4, d5, d6⟩ := hX
  have hxl := HX.out.lt
  have hmk := run_make_bools w ((n : Int) + 1) (n + 1) (by omega) (by omega)
  clear h ok hv hl hcs hcl C hn
  go_enter Tryz.func130, Tryz.ntmps130
  go_upto_region 2 with fail
  have KM := (Keeps.refl (fun _ => False) w).alloc (.cells (Array.replicate (n + 1) (Value.bool false)) 4)
  have HA := Lib.hid (BArr.falses w (n + 1))
  have HK1 := Lib.hid KM
  obtain ⟨g, hg⟩ : ∃ g, w.heap.size = g := ⟨_, rfl⟩
  have HG := Lib.hid hg
  rw [hg] at HA ⊢
  generalize (w.alloc (.cells (Array.replicate (n + 1) (Value.bool false)) 4)) = w1 at HA HK1 ⊢
  clear d0 d1 d2 d3 d4 d5 d6 hxl hmk KM hg
  have hxl := (HX.out.keeps0 HK1.out).lt
  obtain ⟨d0, d1, d2, d3, d4, d5, d6⟩ := HX.out.keeps0 HK1.out
  go_wp2_with fail
  refine (hardest_any w1 X n _ _ _ _ _ vv _ v t.goal (HX.out.keeps0 HK1.out) (HV.out.keeps0 HK1.out) HL.out (HT.out.goal.keeps0 HK1.out) HGB.out).mono ?_
  rintro e w2 ⟨rfl, hk2⟩
  have HK2 := Lib.hid (HK1.out.trans hk2)
  have HA2 := Lib.hid (HA.out.keeps hk2 (fun h => h))
  have hin := hard_in (n := (n : Int)) (v := v) (ps := t.goal) (by omega) HGB.out
  have HZ0 := Lib.hid (zone0_ok HC.out HGB.out)
  have HZV := Lib.hid (show zoneV (n : Int) v (t.ops.zip costs) t.goal = fixG (zoneR (n : Int) v (t.ops.zip costs)) (n + 1) (zone0 (n : Int) v t.goal) by unfold zoneV; rw [Int.toNat_natCast])
  have HZE := Lib.hid (show zone0 (n : Int) v t.goal = (List.replicate (n + 1) false).set (hardI (n : Int) v t.goal).toNat true by unfold zone0; rw [Int.toNat_natCast])
  obtain ⟨j, hj⟩ : ∃ j : Nat, hardI (n : Int) v t.goal = (j : Int) := ⟨(hardI (n : Int) v t.goal).toNat, by omega⟩
  rw [hj] at HZE hin ⊢
  have hja := HA2.out.get (j := j) (by rw [List.length_replicate]; omega)
  have hjf := HA2.out.frozen j
  have hjl := HA2.out.lt
  have hji : (j : Int) < ((n : Int) + 1) := by omega
  have hji2 : (j : Int) < ((n + 1 : Nat) : Int) := by omega
  have HA3 := Lib.hid (show BArr (w2.setCell ⟨g, j, none⟩ (.bool true)) g (zone0 (n : Int) v t.goal) by rw [HZE.out, Int.toNat_natCast]; exact HA2.out.set j true)
  have HK3 := Lib.hid (show Keeps (fun _ => False) w (w2.setCell ⟨g, j, none⟩ (.bool true)) from HK2.out.trans' (keeps_set w2 g j _) (fun i hi => .inr (by have := HG.out; omega)))
  clear d0 d1 d2 d3 d4 d5 d6 hk2 hin hj hxl
  go_upto_region 3 with fail
  generalize w2.setCell ⟨g, j, none⟩ (.bool true) = w3 at HA3 HK3 ⊢
  clear hja hjf hjl hji hji2
  generalize zone0 (n : Int) v t.goal = z0 at HZ0 HZV HA3
  go_wp2_with fail
  have HKW : ∀ wq : World, Keeps (fun b => b = g) w3 wq → Keeps (fun _ => False) w wq := fun wq hk => HK3.out.trans' hk (fun i hi => .inr (by have := HG.out; omega))
  replace HKW := Lib.hid HKW
  have HOK := Lib.hid (zoneR_ok (g := greatL v t.goal) HC.out (fun o ho => ho))
  have HXG := Lib.hid (show ¬ X = g from fun e => by have := HX.out.lt; have := HG.out; omega)
  go_loopg [4] (2 * offs z0 + 1) (fun k v4 wr => ZHead w3 g n v t.goal (t.ops.zip costs) z0 k v4 wr)
  case atStart => exact ⟨z0, true, rfl, HZ0.out.1, HA3.out, Keeps.refl _ _, rfl, (fun h => by cases h), by rw [if_pos rfl]⟩
  case round =>
    obtain ⟨z, ch, rfl, hzi, hza, hkp, hfx, hst, hgk⟩ := hrel
    have HZI := Lib.hid hzi; have HZA := Lib.hid hza; have HKP := Lib.hid hkp; have HFX := Lib.hid hfx; have HST := Lib.hid hst; have HGK := Lib.hid hgk
    have HKR := Lib.hid (HKW.out wr hkp)
    clear hzi hza hkp hfx hst hgk
    cases ch with
    | false =>
      go_wp2_with fail
      go_ret
      refine ⟨g, rfl, ?_, by have := HG.out; omega, HKR.out⟩
      have e : zoneV (n : Int) v (t.ops.zip costs) t.goal = z := by
        rw [HZV.out, ← HFX.out]
        exact fixG_done (HST.out (by first | rfl | trivial)) _
      rw [e]; exact HZA.out
    | true =>
      obtain ⟨d0, d1, d2, d3, d4, d5, d6⟩ := HX.out.keeps0 HKR.out
      have hxl := (HX.out.keeps0 HKR.out).lt
      go_wp2_with fail
      clear d0 d1 d2 d3 d4 d5 d6 hxl
      go_loopw [4, 33] (fun v4 v33 wr' => ∃ j : Nat, v33 = .int .i64 (j : Int) ∧ j ≤ t.ops.length ∧ ZMid w3 g n v (t.ops.zip costs) z j v4 wr') (fun _ v33 _ => t.ops.length - (intOf v33).toNat)
      case atStart => exact ⟨0, rfl, Nat.zero_le _, false, rfl, HZA.out, HKP.out, .inl ⟨rfl, rfl⟩⟩
      case round =>
        obtain ⟨j, rfl, hj, ch, rfl, hma, hmk, hms⟩ := hrel
        by_cases hjl : j < t.ops.length
        · have HMA := Lib.hid hma; have HMK := Lib.hid hmk; have HMS := Lib.hid hms
          have KW2 := Lib.hid (HKW.out wr hmk)
          clear hma hmk hms
          obtain ⟨bo, oo, rfl, hcell⟩ := HT.out.ops.cell rfl (by omega)
          obtain ⟨o, ho⟩ : ∃ o, t.ops[j]? = some o := ⟨_, List.getElem?_eq_getElem hjl⟩
          obtain ⟨va, vb, vd, p0', p1', p2', p3', i1, i2, i3⟩ := hcell j o ho
          have p0 := KW2.out.cell p0' (fun h => h); have p1 := KW2.out.cell p1' (fun h => h); have p2 := KW2.out.cell p2' (fun h => h); have p3 := KW2.out.cell p3' (fun h => h)
          clear p0' p1' p2' p3'
          obtain ⟨a1, k1, f1, _⟩ := i1.form
          obtain ⟨a2, k3, f2, _⟩ := i2.form
          obtain ⟨a3, k4, f3, _⟩ := i3.form
          subst f1 f2 f3
          have I1 := Lib.hid i1; have I2 := Lib.hid i2
          obtain ⟨c, hcj⟩ : ∃ c, costs[j]? = some c := ⟨_, List.getElem?_eq_getElem (by rw [HCL.out]; exact hjl)⟩
          have HZJ := Lib.hid (show (t.ops.zip costs)[j]? = some (o, c) by rw [List.getElem?_zip_eq_some]; exact ⟨ho, hcj⟩)
          have HMO := Lib.hid (List.mem_of_getElem? HZJ.out)
          have HCJ := Lib.hid hcj
          have HNX := Lib.hid (show zoneR (n : Int) v ((t.ops.zip costs).take (j + 1)) z = zoneOp (n : Int) v (o, c) (zoneR (n : Int) v ((t.ops.zip costs).take j) z) by rw [take_getS HZJ.out, zoneR_snoc])
          have HLJ := Lib.hid (show (zoneR (n : Int) v ((t.ops.zip costs).take j) z).length = n + 1 by
            have h := (zoneR_ok (g := greatL v t.goal) HC.out (xs := (t.ops.zip costs).take j) (fun o ho => List.mem_of_mem_take ho) z HZI.out).1.1
            rw [Int.toNat_natCast] at h; exact h)
          have K4 := (Keeps.refl (fun _ => False) wr).alloc (.cells #[.slice a1 o.pre.length k1, .slice a2 o.add.length k3, .slice a3 o.del.length k4, .int .i64 o.cost] 80)
          have HO4 := Lib.hid (Four.new wr (.slice a1 o.pre.length k1) (.slice a2 o.add.length k3) (.slice a3 o.del.length k4) (.int .i64 o.cost) 80)
          have HMA4 := Lib.hid (HMA.out.keeps K4 (fun h => h)); have HMK4 := Lib.hid (HMK.out.trans (K4.mono (fun _ _ h => h.elim))); have KW4 := Lib.hid (KW2.out.trans K4)
          have hgl : g < wr.heap.size := HMA.out.lt
          clear hcell ho i1 i2 i3 K4 HMA HMK hcj
          go_upto_region 9 with fail
          generalize hw4 : (wr.alloc (.cells #[.slice a1 o.pre.length k1, .slice a2 o.add.length k3, .slice a3 o.del.length k4, .int .i64 o.cost] 80)) = w4 at HMA4 HMK4 HO4 KW4 ⊢
          clear p0 p1 p2 p3 hw4
          obtain ⟨b4, hb4⟩ : ∃ b4, wr.heap.size = b4 := ⟨_, rfl⟩
          rw [hb4] at HO4 hgl ⊢
          have HB4 := Lib.hid (show ¬ b4 = g by omega)
          clear hb4 hgl
          generalize zoneR (n : Int) v ((t.ops.zip costs).take j) z = zj at HMA4 HMS HNX HLJ ⊢
          obtain ⟨q0, q1, q2, q3⟩ := HO4.out
          have hq4 := HO4.out.lt
          go_wp2_with fail
          refine (hardest_any w4 X n _ _ _ _ _ vv _ v o.pre (HX.out.keeps0 KW4.out) (HV.out.keeps0 KW4.out) HL.out (I1.out.keeps0 KW4.out) (HC.out.pre _ HMO.out)).mono ?_
          rintro e w5 ⟨rfl, hk5⟩
          have KW5 := Lib.hid (KW4.out.trans hk5)
          have HMA5 := Lib.hid (HMA4.out.keeps hk5 (fun h => h)); have HMK5 := Lib.hid (HMK4.out.trans (hk5.mono (fun _ _ h => h.elim))); have HO5 := Lib.hid (HO4.out.keeps0 hk5)
          have hin := hard_in (n := (n : Int)) (v := v) (ps := o.pre) (by omega) (HC.out.pre _ HMO.out)
          obtain ⟨f, hf⟩ : ∃ f : Nat, hardI (n : Int) v o.pre = (f : Int) := ⟨(hardI (n : Int) v o.pre).toNat, by omega⟩
          have HF := Lib.hid hf
          rw [hf] at hin ⊢
          have hfn : f < n + 1 := by omega
          clear hf hk5 HMA4 HMK4 HO4 q0 q1 q2 q3 hq4
          obtain ⟨d0, d1, d2, d3, d4, d5, d6⟩ := HX.out.keeps0 KW5.out
          have hxl := (HX.out.keeps0 KW5.out).lt
          obtain ⟨bc, oc, rfl, hccell⟩ := (HCS.out.keeps0 KW5.out).cell rfl (by rw [HCL.out]; omega)
          have hc1 := hccell j c HCJ.out
          have hji : (j : Int) < (costs.length : Int) := by rw [HCL.out]; omega
          have hfi : (f : Int) < ((n + 1 : Nat) : Int) := by omega
          have hg1 := HMA5.out.get (j := f) (by rw [HLJ.out]; omega)
          have hgl5 := HMA5.out.lt
          clear hccell hin
          by_cases hpos : 0 < c
          · have hd : decide (0 < c) = true := by simpa using hpos
            have HNE := Lib.hid (show zoneR (n : Int) v ((t.ops.zip costs).take (j + 1)) z = zj by rw [HNX.out]; unfold zoneOp; rw [if_pos (.inl hpos)])
            clear hpos
            go_wp2_with fail
            go_roundw
            case rel => exact ⟨j + 1, by go_num, by omega, ch, rfl, by rw [HNE.out]; exact HMA5.out, HMK5.out, by rw [HNE.out]; exact HMS.out⟩
            case measure => simp [intOf]; omega
          · have hd : decide (0 < c) = false := by simpa using hpos
            have HPOS := Lib.hid hpos
            clear hpos
            cases hb : getB zj (f : Int) with
            | true =>
              rw [hb] at hg1
              have HNE := Lib.hid (show zoneR (n : Int) v ((t.ops.zip costs).take (j + 1)) z = zj by rw [HNX.out]; unfold zoneOp; rw [if_pos (.inr (by rw [HF.out]; exact hb))])
              clear hb
              go_wp2_with fail
              go_roundw
              case rel => exact ⟨j + 1, by go_num, by omega, ch, rfl, by rw [HNE.out]; exact HMA5.out, HMK5.out, by rw [HNE.out]; exact HMS.out⟩
              case measure => simp [intOf]; omega
            | false =>
              rw [hb] at hg1
              obtain ⟨u1, u2⟩ := zoneOp_flag HC.out HMO.out (z := zj) HLJ.out HPOS.out (by rw [HF.out]; exact hb)
              rw [← HNX.out, HF.out, Int.toNat_natCast] at u1
              rw [← HNX.out] at u2
              have HU1 := Lib.hid u1; have HU2 := Lib.hid u2
              obtain ⟨q0, q1, q2, q3⟩ := HO5.out
              have hq5 := HO5.out.lt
              clear u1 u2 hb
              go_wp2_with fail
              clear q0 q1 q2 q3 hq5 d0 d1 d2 d3 d4 d5 d6 hxl hc1 hg1 hgl5
              go_loopw [4, 59] (fun v4 v59 wr' => ∃ i : Nat, v59 = .int .i64 (i : Int) ∧ i ≤ o.add.length ∧ ZAdd w3 g zj ch f (o.add.take i) v4 wr') (fun _ v59 _ => o.add.length - (intOf v59).toNat)
              case atStart => exact ⟨0, rfl, Nat.zero_le _, rfl, HMA5.out, HMK5.out⟩
              case round =>
                obtain ⟨i, rfl, hi, rfl, hba, hbk⟩ := hrel
                have KW6 := Lib.hid (HKW.out wr hbk)
                have HBK := Lib.hid hbk
                by_cases hil : i < o.add.length
                · obtain ⟨b2, o2, rfl, hca⟩ := (I2.out.keeps0 KW6.out).cell rfl (by omega)
                  obtain ⟨p, hp⟩ : ∃ p, o.add[i]? = some p := ⟨_, List.getElem?_eq_getElem hil⟩
                  have hpb := HC.out.add _ HMO.out p (List.mem_of_getElem? hp)
                  obtain ⟨p, rfl⟩ := Int.eq_ofNat_of_zero_le hpb.1
                  have hc2 := hca i _ hp
                  have hpi : (p : Int) < ((n + 1 : Nat) : Int) := by omega
                  have HTK := Lib.hid (show (o.add.take (i + 1)).any (getB zj) = ((o.add.take i).any (getB zj) || getB zj (p : Int)) by rw [take_getS hp, List.any_append]; simp)
                  have hlt := hba.lt
                  have hff := hba.frozen f
                  clear hca hp hpb hbk
                  generalize (o.add.take i).any (getB zj) = bb at hba HTK ⊢
                  cases bb with
                  | false =>
                    have hba' : BArr wr g zj := by simpa using hba
                    have hg2 := hba'.get (j := p) (by rw [HLJ.out]; omega)
                    have hg3 := hba'.get (j := f) (by rw [HLJ.out]; omega)
                    have HBA := Lib.hid hba'
                    clear hba hba'
                    cases hz : getB zj (p : Int) with
                    | true =>
                      rw [hz] at hg2
                      rw [hz] at HTK
                      clear hz
                      generalize getB zj (f : Int) = bf at hg3
                      go_wp2_with fail
                      go_roundw
                      case rel => exact ⟨i + 1, by go_num, by omega, by rw [HTK.out] <;> rfl, by rw [HTK.out]; exact HBA.out.set f true, HBK.out.trans (keeps_set _ _ _ _)⟩
                      case measure => simp [intOf]; omega
                    | false =>
                      rw [hz] at hg2
                      rw [hz] at HTK
                      clear hz
                      go_wp2_with fail
                      go_roundw
                      case rel => exact ⟨i + 1, by go_num, by omega, by rw [HTK.out] <;> rfl, by rw [HTK.out]; exact HBA.out, HBK.out⟩
                      case measure => simp [intOf]; omega
                  | true =>
                    have hba' : BArr wr g (zj.set f true) := by simpa using hba
                    have hg2 := hba'.get (j := p) (by rw [List.length_set, HLJ.out]; omega)
                    have hg3 := hba'.get (j := f) (by rw [List.length_set, HLJ.out]; omega)
                    have HBA := Lib.hid hba'
                    clear hba hba'
                    have HTK' := Lib.hid (show (o.add.take (i + 1)).any (getB zj) = true by rw [HTK.out]; rfl)
                    cases hz : getB (zj.set f true) (p : Int) with
                    | true =>
                      rw [hz] at hg2
                      clear hz
                      generalize getB (zj.set f true) (f : Int) = bf at hg3
                      go_wp2_with fail
                      go_roundw
                      case rel => exact ⟨i + 1, by go_num, by omega, by rw [HTK'.out] <;> rfl, by rw [HTK'.out]; have h := HBA.out.set f true; rw [set_again] at h; exact h, HBK.out.trans (keeps_set _ _ _ _)⟩
                      case measure => simp [intOf]; omega
                    | false =>
                      rw [hz] at hg2
                      clear hz
                      go_wp2_with fail
                      go_roundw
                      case rel => exact ⟨i + 1, by go_num, by omega, by rw [HTK'.out] <;> rfl, by rw [HTK'.out]; exact HBA.out, HBK.out⟩
                      case measure => simp [intOf]; omega
                · rw [List.take_of_length_le (by omega)] at hba ⊢
                  have HBA := Lib.hid hba
                  clear hba hbk
                  go_wp2_with fail
                  go_roundw
                  case rel => exact ⟨j + 1, by go_num, by omega, (o.add.any (getB zj) || ch), rfl, by rw [HU1.out]; exact HBA.out, HBK.out, HMS.out.more HU2.out⟩
                  case measure => simp [intOf]; omega
        · have hzl : (t.ops.zip costs).length = t.ops.length := by rw [List.length_zip, HCL.out]; omega
          rw [List.take_of_length_le (by omega)] at hma hms
          have HMA := Lib.hid hma; have HMK := Lib.hid hmk; have HMS := Lib.hid hms
          have HFS := Lib.hid (fixG_step HOK.out (n + 1) z HZI.out (by have := offs_le z; have := HZI.out.1; rw [Int.toNat_natCast] at this; omega))
          have HS1 := Lib.hid (HOK.out z HZI.out).1
          clear hma hmk hms
          go_wp2_with fail
          rcases HMS.out with ⟨rfl, he⟩ | ⟨rfl, hlt⟩
          · have HE := Lib.hid he
            clear he
            go_roundg (2 * offs z)
            case rel => exact ⟨zoneR (n : Int) v (t.ops.zip costs) z, false, rfl, HS1.out, HMA.out, HMK.out, by rw [HFS.out]; exact HFX.out, fun _ => by rw [HE.out]; exact HE.out, by rw [HE.out]; simp⟩
            case measure => rw [HGK.out]; simp
          · have HE := Lib.hid hlt
            clear hlt
            go_roundg (2 * offs (zoneR (n : Int) v (t.ops.zip costs) z) + 1)
            case rel => exact ⟨zoneR (n : Int) v (t.ops.zip costs) z, true, rfl, HS1.out, HMA.out, HMK.out, by rw [HFS.out]; exact HFX.out, (fun h => by cases h), by simp⟩
            case measure => rw [HGK.out]; have := HE.out; simp; omega

end Go.Proofs.YtdokakhgflljgaaGreat

namespace Go.Proofs.YtdokakhgflljgaaGreat
open Go.RowKit Go.Shelf

section
variable (w3 : World) (g n : Nat) (v : List Int) (z : List Bool) (ops : List Opr) (b0 b : List Bool)
def BHead (k : Nat) (v8 : Value) (wr : World) : Prop :=
  ∃ (b : List Bool) (ch : Bool), v8 = .bool ch ∧ BefI (n : Int) z b ∧ BArr wr g b ∧ Keeps (fun b => b = g) w3 wr ∧ fixG (befR (n : Int) v z ops) (n + 1) b = fixG (befR (n : Int) v z ops) (n + 1) b0 ∧ (ch = false → befR (n : Int) v z ops b = b) ∧ k = 2 * offs b + (if ch = true then 1 else 0)
def BMid (b' : List Bool) (v8 : Value) (wr : World) : Prop := ∃ ch : Bool, v8 = .bool ch ∧ BArr wr g b' ∧ Keeps (fun b => b = g) w3 wr ∧ Flag offs b b' ch
end

set_option maxRecDepth 100000 in
set_option maxHeartbeats 8000000 in
theorem before_any (w : World) (X gz : Nat) (vi vg vo vs vc vv : Value) (t : Tsk) (n : Nat) (v s : List Int) (z : List Bool) (hn : t.n = (n : Int)) (hX : SrchC w X n vi vg vo vs vc vv) (h : TaskAt w vi vg vo t) (ok : t.Ok) (hv : Ints w vv v) (hl : v.length = n + 1)
    (hs : Ints w vs s) (hsb : ∀ p ∈ s, 0 ≤ p ∧ p < (n : Int)) (hz : BArr w gz z) (hzl : z.length = n + 1) (h0 : BefI (n : Int) z (bef0 (n : Int) s)) :
    Calls Tryz.prog 131 #[.pointer (some ⟨X, 0, none⟩), .slice (some ⟨gz, 0, none⟩) (n + 1) (n + 1)] w fun e w' => ∃ g, e = .returned (.slice (some ⟨g, 0, none⟩) (n + 1) (n + 1)) ∧ BArr w' g (befV (n : Int) v z t.ops s) ∧ w.heap.size ≤ g ∧ Keeps (fun _ => False) w w' := by
  obtain ⟨ai, ci, h1, _⟩ := h.init.form
  obtain ⟨ag, cg, h2, _⟩ := h.goal.form
  obtain ⟨ao, co, h3, hmo⟩ := h.ops.form
  obtain ⟨as', cs, h4, hms⟩ := hs.form
  subst h1 h2 h3 h4
  have hn24 : n ≤ 24 := by have := ok.n1; omega
  have HX := Lib.hid hX; have HT := Lib.hid h; have OK := Lib.hid ok; have HV := Lib.hid hv; have HL := Lib.hid hl; have HS := Lib.hid hs; have HSB := Lib.hid hsb; have HZ := Lib.hid hz; have HZL := Lib.hid hzl; have H0 := Lib.hid h0
  have HPRE := Lib.hid (show ∀ o ∈ t.ops, ∀ p ∈ o.pre, 0 ≤ p ∧ p < (n : Int) from fun o ho => by have := (isSet_iff.1 (ok.ops o ho).pre).1; rw [hn] at this; exact this)
  have HADD := Lib.hid (show ∀ o ∈ t.ops, ∀ p ∈ o.add, 0 ≤ p ∧ p < (n : Int) from fun o ho => by have := (isSet_iff.1 (ok.ops o ho).add).1; rw [hn] at this; exact this)
  obtain ⟨d0, d1, d2, d3, d4, d5, d6⟩ := hX
  have hxl := HX.out.lt
  have hmk := run_make_bools w ((n : Int) + 1) (n + 1) (by omega) (by omega)
  have HB0 := Lib.hid (show bef0 (n : Int) s = onB ((List.replicate (n + 1) false).set n true) s by unfold bef0; rw [Int.toNat_natCast])
  clear h ok hv hl hs hsb hz hzl h0 hn
  go_enter Tryz.func131, Tryz.ntmps131
  go_upto_region 2 with fail
  have KM := (Keeps.refl (fun _ => False) w).alloc (.cells (Array.replicate (n + 1) (Value.bool false)) 4)
  have HA := Lib.hid (BArr.falses w (n + 1))
  have HK1 := Lib.hid KM
  obtain ⟨g, hg⟩ : ∃ g, w.heap.size = g := ⟨_, rfl⟩
  have HG := Lib.hid hg
  rw [hg] at HA ⊢
  generalize (w.alloc (.cells (Array.replicate (n + 1) (Value.bool false)) 4)) = w1 at HA HK1 ⊢
  clear d0 d1 d2 d3 d4 d5 d6 hxl hmk KM hg
  have hxl := (HX.out.keeps0 HK1.out).lt
  obtain ⟨d0, d1, d2, d3, d4, d5, d6⟩ := HX.out.keeps0 HK1.out
  have hja := HA.out.get (j := n) (by rw [List.length_replicate]; omega)
  have hjf := HA.out.frozen n
  have hjl := HA.out.lt
  have hji : (n : Int) < ((n + 1 : Nat) : Int) := by omega
  have HA3 := Lib.hid (HA.out.set n true)
  have HK3 := Lib.hid (show Keeps (fun _ => False) w (w1.setCell ⟨g, n, none⟩ (.bool true)) from HK1.out.trans' (keeps_set w1 g n _) (fun i hi => .inr (by have := HG.out; omega)))
  go_upto_region 3 with fail
  generalize w1.setCell ⟨g, n, none⟩ (.bool true) = w3 at HA3 HK3 ⊢
  clear hja hjf hjl hji d0 d1 d2 d3 d4 d5 d6 hxl
  have HKW : ∀ wq : World, Keeps (fun b => b = g) w3 wq → Keeps (fun _ => False) w wq := fun wq hk => HK3.out.trans' hk (fun i hi => .inr (by have := HG.out; omega))
  replace HKW := Lib.hid HKW
  have HZG := Lib.hid (show ¬ gz = g from fun e => by have := HZ.out.lt; have := HG.out; omega)
  obtain ⟨d0, d1, d2, d3, d4, d5, d6⟩ := HX.out.keeps0 HK3.out
  have hxl := (HX.out.keeps0 HK3.out).lt
  go_wp2_with fail
  clear d0 d1 d2 d3 d4 d5 d6 hxl
  go_loopw [32] (fun v32 wr => ∃ k : Nat, v32 = .int .i64 (k : Int) ∧ k ≤ s.length ∧ BArr wr g (onB ((List.replicate (n + 1) false).set n true) (s.take k)) ∧ Keeps (fun b => b = g) w3 wr) (fun v32 _ => s.length - (intOf v32).toNat)
  case atStart => exact ⟨0, rfl, Nat.zero_le _, HA3.out, Keeps.refl _ _⟩
  case round =>
    obtain ⟨k, rfl, hk, hba, hbk⟩ := hrel
    by_cases hlt : k < s.length
    · have KW := Lib.hid (HKW.out wr hbk)
      obtain ⟨bs, ofs, rfl, hcs⟩ := (HS.out.keeps0 KW.out).cell rfl (by omega)
      obtain ⟨p, hp⟩ : ∃ p, s[k]? = some p := ⟨_, List.getElem?_eq_getElem hlt⟩
      have hpb := HSB.out p (List.mem_of_getElem? hp)
      obtain ⟨p, rfl⟩ := Int.eq_ofNat_of_zero_le hpb.1
      have hc1 := hcs k _ hp
      have hol := (onB_spec (s.take k) ((List.replicate (n + 1) false).set n true) (fun q hq => by have := HSB.out q (List.mem_of_mem_take hq); simp; omega)).1
      simp only [List.length_set, List.length_replicate] at hol
      have hg2 := hba.get (j := p) (by omega)
      have hgf := hba.frozen p
      have hgl := hba.lt
      have hpi : (p : Int) < ((n + 1 : Nat) : Int) := by omega
      have HN := Lib.hid (show BArr (wr.setCell ⟨g, p, none⟩ (.bool true)) g (onB ((List.replicate (n + 1) false).set n true) (s.take (k + 1))) ∧ Keeps (fun b => b = g) w3 (wr.setCell ⟨g, p, none⟩ (.bool true)) from
        ⟨by rw [take_getS hp, onB_snoc]; exact hba.set p true, hbk.trans (keeps_set _ _ _ _)⟩)
      generalize getB (onB ((List.replicate (n + 1) false).set n true) (s.take k)) (p : Int) = bb at hg2
      clear hcs hp hpb hba hbk hol
      go_wp2_with fail
      go_roundw
      case rel => exact ⟨k + 1, by go_num, by omega, HN.out.1, HN.out.2⟩
      case measure => simp [intOf]; omega
    · rw [List.take_of_length_le (by omega), ← HB0.out] at hba
      have HBA := Lib.hid hba; have HBK := Lib.hid hbk
      clear hba hbk
      have HBV := Lib.hid (show befV (n : Int) v z t.ops s = fixG (befR (n : Int) v z t.ops) (n + 1) (bef0 (n : Int) s) by unfold befV; rw [Int.toNat_natCast])
      generalize bef0 (n : Int) s = b0 at HBA HBV H0
      have HOK := Lib.hid (show Okf (BefI (n : Int) z) offs LeB (befR (n : Int) v z t.ops) from befR_ok HADD.out)
      go_wp2_with fail
      go_loopg [8] (2 * offs b0 + 1) (fun k v8 wr => BHead w3 g n v z t.ops b0 k v8 wr)
      case atStart => exact ⟨b0, true, rfl, H0.out, HBA.out, HBK.out, rfl, (fun h => by cases h), by rw [if_pos rfl]⟩
      case round =>
        obtain ⟨b, ch, rfl, hbi, hba, hkp, hfx, hst, hgk⟩ := hrel
        have HBI := Lib.hid hbi; have HBA := Lib.hid hba; have HKP := Lib.hid hkp; have HFX := Lib.hid hfx; have HST := Lib.hid hst; have HGK := Lib.hid hgk
        have HKR := Lib.hid (HKW.out wr hkp)
        clear hbi hba hkp hfx hst hgk
        cases ch with
        | false =>
          go_wp2_with fail
          go_ret
          refine ⟨g, rfl, ?_, by have := HG.out; omega, HKR.out⟩
          have e : befV (n : Int) v z t.ops s = b := by
            rw [HBV.out, ← HFX.out]
            exact fixG_done (HST.out (by first | rfl | trivial)) _
          rw [e]; exact HBA.out
        | true =>
          obtain ⟨d0, d1, d2, d3, d4, d5, d6⟩ := HX.out.keeps0 HKR.out
          have hxl := (HX.out.keeps0 HKR.out).lt
          go_wp2_with fail
          clear d0 d1 d2 d3 d4 d5 d6 hxl
          go_loopw [8, 47] (fun v8 v47 wr' => ∃ j : Nat, v47 = .int .i64 (j : Int) ∧ j ≤ t.ops.length ∧ BMid w3 g b (befR (n : Int) v z (t.ops.take j) b) v8 wr') (fun _ v47 _ => t.ops.length - (intOf v47).toNat)
          case atStart => exact ⟨0, rfl, Nat.zero_le _, false, rfl, HBA.out, HKP.out, .inl ⟨rfl, rfl⟩⟩
          case round =>
            obtain ⟨j, rfl, hj, ch, rfl, hma, hmk, hms⟩ := hrel
            by_cases hjl : j < t.ops.length
            · have HMA := Lib.hid hma; have HMK := Lib.hid hmk; have HMS := Lib.hid hms
              have KW2 := Lib.hid (HKW.out wr hmk)
              clear hma hmk hms
              obtain ⟨bo, oo, rfl, hcell⟩ := HT.out.ops.cell rfl (by omega)
              obtain ⟨o, ho⟩ : ∃ o, t.ops[j]? = some o := ⟨_, List.getElem?_eq_getElem hjl⟩
              obtain ⟨va, vb, vd, p0', p1', p2', p3', i1, i2, i3⟩ := hcell j o ho
              have p0 := KW2.out.cell p0' (fun h => h); have p1 := KW2.out.cell p1' (fun h => h); have p2 := KW2.out.cell p2' (fun h => h); have p3 := KW2.out.cell p3' (fun h => h)
              clear p0' p1' p2' p3'
              obtain ⟨a1, k1, f1, _⟩ := i1.form
              obtain ⟨a2, k3, f2, _⟩ := i2.form
              obtain ⟨a3, k4, f3, _⟩ := i3.form
              subst f1 f2 f3
              have I1 := Lib.hid i1; have I2 := Lib.hid i2
              have HPO := Lib.hid (HPRE.out o (List.mem_of_getElem? ho)); have HAO := Lib.hid (HADD.out o (List.mem_of_getElem? ho))
              have HNX := Lib.hid (show befR (n : Int) v z (t.ops.take (j + 1)) b = befOp (n : Int) v z o (befR (n : Int) v z (t.ops.take j) b) by rw [take_getS ho, befR_snoc])
              have HIJ := Lib.hid (show BefI (n : Int) z (befR (n : Int) v z (t.ops.take j) b) from (befR_ok (v := v) (fun o ho => HADD.out o (List.mem_of_mem_take ho)) b HBI.out).1)
              have K4 := (Keeps.refl (fun _ => False) wr).alloc (.cells #[.slice a1 o.pre.length k1, .slice a2 o.add.length k3, .slice a3 o.del.length k4, .int .i64 o.cost] 80)
              have HO4 := Lib.hid (Four.new wr (.slice a1 o.pre.length k1) (.slice a2 o.add.length k3) (.slice a3 o.del.length k4) (.int .i64 o.cost) 80)
              have HMA4 := Lib.hid (HMA.out.keeps K4 (fun h => h)); have HMK4 := Lib.hid (HMK.out.trans (K4.mono (fun _ _ h => h.elim))); have KW4 := Lib.hid (KW2.out.trans K4)
              clear hcell ho i1 i2 i3 K4 HMA HMK
              go_upto_region 14 with fail
              generalize hw4 : (wr.alloc (.cells #[.slice a1 o.pre.length k1, .slice a2 o.add.length k3, .slice a3 o.del.length k4, .int .i64 o.cost] 80)) = w4 at HMA4 HMK4 HO4 KW4 ⊢
              clear p0 p1 p2 p3 hw4
              obtain ⟨b4, hb4⟩ : ∃ b4, wr.heap.size = b4 := ⟨_, rfl⟩
              rw [hb4] at HO4 ⊢
              clear hb4
              generalize befR (n : Int) v z (t.ops.take j) b = bj at HMA4 HMS HNX HIJ ⊢
              obtain ⟨q0, q1, q2, q3⟩ := HO4.out
              have hq4 := HO4.out.lt
              go_wp2_with fail
              refine (hardest_any w4 X n _ _ _ _ _ vv _ v o.pre (HX.out.keeps0 KW4.out) (HV.out.keeps0 KW4.out) HL.out (I1.out.keeps0 KW4.out) HPO.out).mono ?_
              rintro e w5 ⟨rfl, hk5⟩
              have KW5 := Lib.hid (KW4.out.trans hk5)
              have HMA5 := Lib.hid (HMA4.out.keeps hk5 (fun h => h)); have HMK5 := Lib.hid (HMK4.out.trans (hk5.mono (fun _ _ h => h.elim))); have HO5 := Lib.hid (HO4.out.keeps0 hk5)
              have hin := hard_in (n := (n : Int)) (v := v) (ps := o.pre) (by omega) HPO.out
              obtain ⟨f, hf⟩ : ∃ f : Nat, hardI (n : Int) v o.pre = (f : Int) := ⟨(hardI (n : Int) v o.pre).toNat, by omega⟩
              have HF := Lib.hid hf
              rw [hf] at hin ⊢
              have hfi : (f : Int) < ((n + 1 : Nat) : Int) := by omega
              have hbl : bj.length = n + 1 := by have := HIJ.out.1; rw [Int.toNat_natCast] at this; exact this
              have hg1 := HMA5.out.get (j := f) (by omega)
              have hgl5 := HMA5.out.lt
              have HBL := Lib.hid hbl
              clear hf hk5 HMA4 HMK4 HO4 q0 q1 q2 q3 hq4 hin hbl
              cases hb : getB bj (f : Int) with
              | false =>
                rw [hb] at hg1
                have HNE := Lib.hid (show befR (n : Int) v z (t.ops.take (j + 1)) b = bj by rw [HNX.out]; unfold befOp; rw [HF.out, hb]; rfl)
                clear hb
                go_wp2_with fail
                go_roundw
                case rel => exact ⟨j + 1, by go_num, by omega, ch, rfl, by rw [HNE.out]; exact HMA5.out, HMK5.out, by rw [HNE.out]; exact HMS.out⟩
                case measure => simp [intOf]; omega
              | true =>
                rw [hb] at hg1
                have HNE := Lib.hid (show befR (n : Int) v z (t.ops.take (j + 1)) b = befAdd z bj o.add by rw [HNX.out]; unfold befOp; rw [HF.out, hb]; rfl)
                obtain ⟨q0, q1, q2, q3⟩ := HO5.out
                have hq5 := HO5.out.lt
                clear hb
                go_wp2_with fail
                clear q0 q1 q2 q3 hq5 hg1 hgl5
                go_loopw [8, 62] (fun v8 v62 wr' => ∃ i : Nat, v62 = .int .i64 (i : Int) ∧ i ≤ o.add.length ∧ BMid w3 g b (befAdd z bj (o.add.take i)) v8 wr') (fun _ v62 _ => o.add.length - (intOf v62).toNat)
                case atStart => exact ⟨0, rfl, Nat.zero_le _, ch, rfl, HMA5.out, HMK5.out, HMS.out⟩
                case round =>
                  obtain ⟨i, rfl, hi, ch2, rfl, hba, hbk, hbf⟩ := hrel
                  have KW6 := Lib.hid (HKW.out wr hbk)
                  have HBA := Lib.hid hba; have HBK := Lib.hid hbk; have HBF := Lib.hid hbf
                  clear hba hbk hbf
                  by_cases hil : i < o.add.length
                  · obtain ⟨b2, o2, rfl, hca⟩ := (I2.out.keeps0 KW6.out).cell rfl (by omega)
                    obtain ⟨p, hp⟩ : ∃ p, o.add[i]? = some p := ⟨_, List.getElem?_eq_getElem hil⟩
                    have hpb := HAO.out p (List.mem_of_getElem? hp)
                    obtain ⟨p, rfl⟩ := Int.eq_ofNat_of_zero_le hpb.1
                    have hc2 := hca i _ hp
                    have hpi : (p : Int) < ((n + 1 : Nat) : Int) := by omega
                    have HTK := Lib.hid (show befAdd z bj (o.add.take (i + 1)) = if getB (befAdd z bj (o.add.take i)) (p : Int) = true ∨ getB z (p : Int) = true then befAdd z bj (o.add.take i) else (befAdd z bj (o.add.take i)).set p true by rw [take_getS hp, befAdd_snoc, Int.toNat_natCast])
                    have hlen : (befAdd z bj (o.add.take i)).length = n + 1 := by
                      have h := (befAdd_ok (z := z) (n := (n : Int)) (ps := o.add.take i) (fun p hp => HAO.out p (List.mem_of_mem_take hp)) bj HIJ.out).1.1
                      rw [Int.toNat_natCast] at h; exact h
                    generalize befAdd z bj (o.add.take i) = bc at HBA HBF HTK hlen
                    have hg2 := HBA.out.get (j := p) (by omega)
                    have hgf := HBA.out.frozen p
                    have hlt5 := HBA.out.lt
                    have hz2 := (HZ.out.keeps KW6.out (fun h => h)).get (j := p) (by have := HZL.out; omega)
                    have hzl2 := (HZ.out.keeps KW6.out (fun h => h)).lt
                    have HLEN := Lib.hid hlen
                    clear hca hp hpb hlen
                    cases hb1 : getB bc (p : Int) with
                    | true =>
                      rw [hb1] at hg2
                      have HN := Lib.hid (show befAdd z bj (o.add.take (i + 1)) = bc by rw [HTK.out, if_pos (.inl hb1)])
                      clear hb1
                      generalize getB z (p : Int) = bz at hz2
                      go_wp2_with fail
                      go_roundw
                      case rel => exact ⟨i + 1, by go_num, by omega, ch2, rfl, by rw [HN.out]; exact HBA.out, HBK.out, by rw [HN.out]; exact HBF.out⟩
                      case measure => simp [intOf]; omega
                    | false =>
                      rw [hb1] at hg2
                      cases hb2 : getB z (p : Int) with
                      | true =>
                        rw [hb2] at hz2
                        have HN := Lib.hid (show befAdd z bj (o.add.take (i + 1)) = bc by rw [HTK.out, if_pos (.inr hb2)])
                        clear hb1 hb2
                        go_wp2_with fail
                        go_roundw
                        case rel => exact ⟨i + 1, by go_num, by omega, ch2, rfl, by rw [HN.out]; exact HBA.out, HBK.out, by rw [HN.out]; exact HBF.out⟩
                        case measure => simp [intOf]; omega
                      | false =>
                        rw [hb2] at hz2
                        have HN := Lib.hid (show befAdd z bj (o.add.take (i + 1)) = bc.set p true by rw [HTK.out, if_neg (by rintro (h | h); rw [hb1] at h; cases h; rw [hb2] at h; cases h)])
                        have HFL := Lib.hid (show Flag offs b (bc.set p true) (true || ch2) from HBF.out.more (.inr ⟨rfl, offs_set bc p (by
                          have h := getB_false (z := bc) (q := (p : Int)) (by have := HLEN.out; omega) hb1
                          rw [Int.toNat_natCast] at h; exact h)⟩))
                        clear hb1 hb2
                        go_wp2_with fail
                        go_roundw
                        case rel => exact ⟨i + 1, by go_num, by omega, true, rfl, by rw [HN.out]; exact HBA.out.set p true, HBK.out.trans (keeps_set _ _ _ _), by rw [HN.out]; exact HFL.out⟩
                        case measure => simp [intOf]; omega
                  · rw [List.take_of_length_le (by omega), ← HNE.out] at HBA HBF
                    go_wp2_with fail
                    go_roundw
                    case rel => exact ⟨j + 1, by go_num, by omega, ch2, rfl, HBA.out, HBK.out, HBF.out⟩
                    case measure => simp [intOf]; omega
            · rw [List.take_of_length_le (by omega)] at hma hms
              have HMA := Lib.hid hma; have HMK := Lib.hid hmk; have HMS := Lib.hid hms
              have HFS := Lib.hid (fixG_step HOK.out (n + 1) b HBI.out (by have := offs_le b; have := HBI.out.1; rw [Int.toNat_natCast] at this; omega))
              have HS1 := Lib.hid (HOK.out b HBI.out).1
              clear hma hmk hms
              go_wp2_with fail
              rcases HMS.out with ⟨rfl, he⟩ | ⟨rfl, hlt⟩
              · have HE := Lib.hid he
                clear he
                go_roundg (2 * offs b)
                case rel => exact ⟨befR (n : Int) v z t.ops b, false, rfl, HS1.out, HMA.out, HMK.out, by rw [HFS.out]; exact HFX.out, fun _ => by rw [HE.out]; exact HE.out, by rw [HE.out]; simp⟩
                case measure => rw [HGK.out]; simp
              · have HE := Lib.hid hlt
                clear hlt
                go_roundg (2 * offs (befR (n : Int) v z t.ops b) + 1)
                case rel => exact ⟨befR (n : Int) v z t.ops b, true, rfl, HS1.out, HMA.out, HMK.out, by rw [HFS.out]; exact HFX.out, (fun h => by cases h), by simp⟩
                case measure => rw [HGK.out]; have := HE.out; simp; omega

end Go.Proofs.YtdokakhgflljgaaGreat
