/- A search from both ends, in plain Lean: the arcs of both sides. The queue's First: the least key, and whether there is one. astar: what a best-first search with an admissible heuristic finds, in plain Lean. bothends: the rows of arcs of both sides, as they grow; the cells of a row of arcs. bothends: both sides in memory, apart from each other, and what one call of advance leaves of them. bothends: both sides in memory as meet has made them. astar: what a best-first search has in memory, and a heuristic as a function value. astar.Best: what the search has in memory between its steps. No condition beyond what each theorem says. -/
import Derived.Test.YtdokakhgflljgaaGreatM6

namespace Go.Proofs.YtdokakhgflljgaaGreat

def arcOf (e : Stp) : SArc := ⟨e.op, 4096 * e.cost + 1, e.to⟩
/-- The arcs from the states of a list. -/
def nextG (ops : List Wop) (ss : List Nat) (x : Nat) : List SArc := if x ∈ ss then (wsteps ops x).map arcOf else []
section
variable {ops : List Wop} {L : List Nat}
theorem nextG_all : ∀ x o (i : Nat), x ∈ L → ops[i]? = some o → o.can x = true → (⟨i, 4096 * o.cost + 1, o.next x⟩ : SArc) ∈ nextG ops L x := fun x o i hx ho hc => by
 unfold nextG
 rw [if_pos hx]
 exact List.mem_map.2 ⟨⟨i, o.cost, o.next x⟩, wsteps_mem.2 ⟨o, ho, hc, rfl, rfl⟩, rfl⟩
theorem nextG_only : ∀ y, ∀ b ∈ nextG ops L y, ∃ o, ops[b.op]? = some o ∧ o.can y = true ∧ b.to = o.next y ∧ b.price = 4096 * o.cost + 1 := fun y b hb => by
 unfold nextG at hb
 split at hb
 ·obtain ⟨e, he, rfl⟩ := List.mem_map.1 hb
  obtain ⟨o, h1, h2, h3, h4⟩ := wsteps_mem.1 he
  exact ⟨o, h1, h2, h4, by unfold arcOf; simp only; rw [h3]⟩
 ·simp at hb
theorem nextG_in (hsh : Shut ops L) : ∀ y, ∀ b ∈ nextG ops L y, b.to ∈ L := fun y b hb => by
 obtain ⟨o, h1, h2, h3, _⟩ := nextG_only y b hb
 unfold nextG at hb
 split at hb
 ·rename_i hy; rw [h3]; exact hsh.2 y hy o (List.mem_of_getElem? h1) h2
 ·simp at hb
theorem nextG_price (h0 : ∀ o ∈ ops, 0 ≤ o.cost ∧ o.cost ≤ 100) : ∀ y, ∀ b ∈ nextG ops L y, 1 ≤ b.price ∧ b.price ≤ 409601 := fun y b hb => by
 obtain ⟨o, h1, _, _, h4⟩ := nextG_only y b hb
 have := h0 o (List.mem_of_getElem? h1); omega
end

end Go.Proofs.YtdokakhgflljgaaGreat

namespace Go.Proofs.YtdokakhgflljgaaGreat.U
open Go.RowKit

theorem firstMin_least {A : List (Int × Int)} : ∀ {p : Int × Int}, firstMin A = some p → ∀ a ∈ A, p.2 ≤ a.2 := by
 induction A with
 | nil => intro p h; cases h
 | cons q r ih =>
  intro p h a ha
  simp only [firstMin] at h
  split at h
  ·rename_i hr
   simp at h; subst h
   rw [firstMin_none.1 hr] at ha
   simp at ha; subst ha; exact Int.le_refl _
  ·rename_i q' hq'
   have hi := ih hq'
   split at h
   ·simp at h; subst h
    rcases List.mem_cons.1 ha with rfl | h2
    ·omega
    ·exact hi a h2
   ·simp at h; subst h
    rcases List.mem_cons.1 ha with rfl | h2
    ·exact Int.le_refl _
    ·have := hi a h2; omega

end Go.Proofs.YtdokakhgflljgaaGreat.U

namespace Go.Proofs.YtdokakhgflljgaaGreat

/-- A heuristic that never says more than a way to a goal costs, and says 'infinite' only where there is none. -/
structure Adm (ops : List Wop) (L : List Nat) (acc : Nat → Bool) (H : Nat → Int) : Prop where
 lo : ∀ x ∈ L, 0 ≤ H x ∧ H x ≤ 1000000000
 low : ∀ x ∈ L, ∀ p y, runOps ops x p = some y → acc y = true → H x ≤ costN ops p ∧ H x < 1000000000

/-- The same, but it may say f times what a way costs. -/
structure AdmF (f : Int) (ops : List Wop) (L : List Nat) (acc : Nat → Bool) (H : Nat → Int) : Prop where
 lo : ∀ x ∈ L, 0 ≤ H x
 low : ∀ x ∈ L, ∀ p y, runOps ops x p = some y → acc y = true → H x ≤ f * costN ops p ∧ H x < 1000000000
theorem Adm.one {ops : List Wop} {L : List Nat} {acc : Nat → Bool} {H : Nat → Int} (h : Adm ops L acc H) : AdmF 1 ops L acc H :=
 ⟨fun x hx => (h.lo x hx).1, fun x hx p y h1 h2 => by rw [Int.one_mul]; exact h.low x hx p y h1 h2⟩
/-- What a plan found with such a heuristic may cost. -/
def wayK (f : Int) (ops : List Wop) (q : List Nat) : Int := 4096 * (f * costN ops q) + (q.length : Int)
theorem wayK_one (ops : List Wop) (q : List Nat) : wayK 1 ops q = wayN 4096 1 ops q := by rw [wayN_split]; unfold wayK; omega

/-- The arcs that do not lead to a state without a plan. -/
def liveG (H : Nat → Int) (G : Nat → List SArc) : Nat → List SArc := fun x => (G x).filter fun a => decide (H a.to < 1000000000)
/-- The queue's keys: price and heuristic. -/
def liftA (H : Nat → Int) (A : List (Int × Int)) : List (Int × Int) := A.map fun z => (z.1, z.2 + 4096 * H z.1.toNat)

theorem liftA_drop (H : Nat → Int) (A : List (Int × Int)) (x : Int) : liftA H (A.filter fun z => z.1 != x) = (liftA H A).filter fun z => z.1 != x := by
 unfold liftA
 rw [List.filter_map]
 rfl
theorem liftA_put (H : Nat → Int) (A : List (Int × Int)) (x : Nat) (k : Int) : liftA H (putA A (x : Int) k) = putA (liftA H A) (x : Int) (k + 4096 * H x) := by
 unfold putA
 rw [← liftA_drop]
 unfold liftA
 rw [List.map_append]
 simp
theorem liftA_len (H : Nat → Int) (A : List (Int × Int)) : (liftA H A).length = A.length := by unfold liftA; rw [List.length_map]
theorem liftA_mem {H : Nat → Int} {A : List (Int × Int)} {x : Nat} {p : Int} (h : ((x : Int), p) ∈ A) : ((x : Int), p + 4096 * H x) ∈ liftA H A := by
 unfold liftA
 exact List.mem_map.2 ⟨_, h, by simp⟩

/-- What stays of a search while the arcs of the state s are looked at: the arcs in R are still to do; a goal state with a price waits. -/
structure AstI (f : Int) (ops : List Wop) (L : List Nat) (st : Nat) (acc : Nat → Bool) (H : Nat → Int) (P : Nat → Option Int) (par : Nat → Option SArc) (A : List (Int × Int)) (s : Nat) (R : List SArc) (dn : Nat → Option Unit) : Prop where
 i : SideI (liveG H (nextG ops L)) (fun x => x ∈ [st]) L 409601 P par A s R
 g : ∀ x p, P x = some p → acc x = true → ((x : Int), p) ∈ A
 dIn : ∀ x u, dn x = some u → x ∈ L
 way : ∀ x u, dn x = some u → ∃ r, runOps ops st r = some x ∧ ∀ q y, runOps ops st q = some y → acc y = true → wayN 4096 1 ops r + 4096 * H x ≤ wayK f ops q
 seen : ∀ x q, P x = some q → ((x : Int), q) ∈ A ∨ ∃ u, dn x = some u

section
variable {f : Int} {ops : List Wop} {L : List Nat} {st : Nat} {acc : Nat → Bool} {H : Nat → Int} {P : Nat → Option Int} {par : Nat → Option SArc} {A : List (Int × Int)} {s : Nat} {R : List SArc} {dn : Nat → Option Unit}
theorem live_only : ∀ y, ∀ b ∈ liveG H (nextG ops L) y, ∃ o, ops[b.op]? = some o ∧ o.can y = true ∧ b.to = o.next y ∧ b.price = 4096 * o.cost + 1 := fun y b hb => nextG_only y b (List.mem_filter.1 hb).1
theorem live_price (h0 : ∀ o ∈ ops, 0 ≤ o.cost ∧ o.cost ≤ 100) : ∀ y, ∀ b ∈ liveG H (nextG ops L) y, 1 ≤ b.price ∧ b.price ≤ 409601 := fun y b hb => nextG_price h0 y b (List.mem_filter.1 hb).1
theorem live_in (hsh : Shut ops L) : ∀ y, ∀ b ∈ liveG H (nextG ops L) y, b.to ∈ L := fun y b hb => nextG_in hsh y b (List.mem_filter.1 hb).1

theorem AstI.start (hst : st ∈ L) (acc : Nat → Bool) : AstI f ops L st acc H (startP [st]) (fun _ => none) (startA [st]) 0 [] (fun _ => none) := by
 have hi := SideI.init (G := liveG H (nextG ops L)) (L := L) (S := [st]) (C := 409601) (by decide) (fun x hx => by rw [List.mem_singleton] at hx; subst hx; exact hst) 0
 have hs : ∀ x p, startP [st] x = some p → ((x : Int), p) ∈ startA [st] := fun x p hp => by
  refine (startA_mem [st] _).2 ?_
  unfold startP at hp
  split at hp
  ·rename_i hm; cases hp; exact ⟨x, hm, rfl⟩
  ·cases hp
 exact ⟨hi, fun x p hp _ => hs x p hp, (fun x u h => by cases h), (fun x u h => by cases h), fun x q h => .inl (hs x q h)⟩

theorem AstI.skip {a : SArc} (h : AstI f ops L st acc H P par A s (a :: R) dn) {p q : Int} (hp : P s = some p) (hq : P a.to = some q) (hle : q ≤ p + a.price) : AstI f ops L st acc H P par A s R dn := ⟨h.i.skip hp hq hle, h.g, h.dIn, h.way, h.seen⟩
theorem AstI.fall {a : SArc} (h : AstI f ops L st acc H P par A s (a :: R) dn) (hn : L.Nodup) (hsh : Shut ops L) (h0 : ∀ o ∈ ops, 0 ≤ o.cost ∧ o.cost ≤ 100) (ha : a ∈ liveG H (nextG ops L) s) {p : Int} (hp : P s = some p) (hlt : ∀ q, P a.to = some q → p + a.price < q) :
  AstI f ops L st acc H (putP P a.to (p + a.price)) (putP par a.to ⟨a.op, a.price, s⟩) (putA A (a.to : Int) (p + a.price)) s R dn :=
 ⟨h.i.fall hn (live_price h0) (live_in hsh _ _ ha) ha hp hlt, fun y q hq hy => mem_putA.2 (by
  by_cases hya : y = a.to
  ·subst hya
   rw [putP_same] at hq; cases hq
   exact .inr rfl
  ·rw [putP_other _ _ hya] at hq
   exact .inl ⟨h.g y q hq hy, by simp; omega⟩), h.dIn, h.way, fun y q hq => by
  by_cases hya : y = a.to
  ·subst hya
   rw [putP_same] at hq; cases hq
   exact .inl (mem_putA.2 (.inr rfl))
  ·rw [putP_other _ _ hya] at hq
   rcases h.seen y q hq with h1 | h1
   ·exact .inl (mem_putA.2 (.inl ⟨h1, by simp; omega⟩))
   ·exact .inr h1⟩
theorem AstI.anyS {s' : Nat} (h : AstI f ops L st acc H P par A s [] dn) : AstI f ops L st acc H P par A s' [] dn := ⟨h.i.anyS, h.g, h.dIn, h.way, h.seen⟩

/-- On the way to a goal state: a state waits, or the goal state has its price. -/
theorem frontH (hsh : Shut ops L) (ad : AdmF f ops L acc H) (h : AstI f ops L st acc H P par A s [] dn) : ∀ {p : List Nat} {x y : Nat} {q c : Int}, P x = some q → q ≤ c → runOps ops x p = some y → acc y = true →
  (∃ p1 p2 z k, p = p1 ++ p2 ∧ runOps ops z p2 = some y ∧ z ∈ L ∧ ((z : Int), k) ∈ A ∧ k ≤ c + wayN 4096 1 ops p1) ∨ (∃ k, P y = some k ∧ k ≤ c + wayN 4096 1 ops p)
 | [], x, y, q, c, hq, hc, hr, _ => by cases hr; exact .inr ⟨q, hq, by rw [wayN_nil]; omega⟩
 | a :: p, x, y, q, c, hq, hc, hr, hy => by
  have hxL := h.i.dom x q hq
  rcases h.i.pend x q hq with h1 | h1
  ·exact .inl ⟨[], a :: p, x, q, rfl, hr, hxL, h1, by rw [wayN_nil]; omega⟩
  ·rw [runOps] at hr
   cases ho : ops[a]? with
   | none => rw [ho] at hr; cases hr
   | some o =>
    rw [ho] at hr; simp only at hr
    by_cases hcan : o.can x = true
    ·rw [if_pos hcan] at hr
     have hnL := hsh.2 x hxL o (List.mem_of_getElem? ho) hcan
     have hlive := (ad.low _ hnL p y hr hy).2
     rcases h1 _ (List.mem_filter.2 ⟨nextG_all x o a hxL ho hcan, by simpa using hlive⟩) with ⟨q', hq', hle⟩ | ⟨_, h2⟩
     ·have e1 : ∀ r, wayN 4096 1 ops (a :: r) = (4096 * o.cost + 1) + wayN 4096 1 ops r := fun r => by
       rw [show a :: r = [a] ++ r from rfl, wayN_append, wayN_one ho]
      simp only at hq' hle
      rcases frontH hsh ad h (c := c + (4096 * o.cost + 1)) hq' (by omega) hr hy with ⟨p1, p2, z, k, e, g1, g2, g3, g4⟩ | ⟨k, g1, g2⟩
      ·exact .inl ⟨a :: p1, p2, z, k, by rw [e]; rfl, g1, g2, g3, by rw [e1]; omega⟩
      ·exact .inr ⟨k, g1, by rw [e1]; omega⟩
     ·simp at h2
    ·rw [if_neg hcan] at hr; cases hr

/-- What is taken is worth no more than any plan. -/
theorem min_key (hsh : Shut ops L) (h0 : ∀ o ∈ ops, 0 ≤ o.cost ∧ o.cost ≤ 100) (hf : 1 ≤ f) (ad : AdmF f ops L acc H) (h : AstI f ops L st acc H P par A s [] dn) {x : Nat} {k : Int} (hx : U.firstMin (liftA H A) = some ((x : Int), k)) : ∀ q y, runOps ops st q = some y → acc y = true → k ≤ wayK f ops q := fun q y hr hy => by
 have hleast := U.firstMin_least hx
 simp only at hleast
 rcases frontH hsh ad h (h.i.start st (List.mem_singleton.2 rfl)).1 (Int.le_refl _) hr hy with ⟨p1, p2, z, k', e, g1, g2, g3, g4⟩ | ⟨k', g1, g2⟩
 ·have h1 := hleast _ (liftA_mem (H := H) g3)
  simp only at h1
  have h2 := (ad.low z g2 p2 y g1 hy).1
  have h3 := wayN_split ops p1
  have h5 : 1 * costN ops p1 ≤ f * costN ops p1 := Int.mul_le_mul_of_nonneg_right hf (costN_bound h0 p1).1
  rw [e]
  unfold wayK
  rw [costN_append, List.length_append, Int.mul_add f]
  omega
 ·have h1 := hleast _ (liftA_mem (H := H) (h.g y k' g1 hy))
  simp only at h1
  have h2 := (ad.low y (h.i.dom _ _ g1) [] y rfl hy).1
  rw [show costN ops [] = 0 from rfl, Int.mul_zero] at h2
  have h3 := wayN_split ops q
  have h5 : 1 * costN ops q ≤ f * costN ops q := Int.mul_le_mul_of_nonneg_right hf (costN_bound h0 q).1
  unfold wayK
  omega
theorem AstI.take (hsh : Shut ops L) (h0 : ∀ o ∈ ops, 0 ≤ o.cost ∧ o.cost ≤ 100) (hf : 1 ≤ f) (ad : AdmF f ops L acc H) (h : AstI f ops L st acc H P par A s [] dn) {x : Nat} {p : Int} (hx : U.firstMin (liftA H A) = some ((x : Int), p + 4096 * H x)) (hp : P x = some p) (ha : acc x = false) :
  AstI f ops L st acc H P par (A.filter fun z => z.1 != (x : Int)) x (liveG H (nextG ops L) x) (putP dn x ()) := by
 have hne : ∀ y, y ≠ x → ∀ q, ((y : Int), q) ∈ A → ((y : Int), q) ∈ A.filter fun z => z.1 != (x : Int) := fun y hy q hq => List.mem_filter.2 ⟨hq, by simp; omega⟩
 refine ⟨h.i.take hp, fun y q hq hy => hne y (fun e => by subst e; rw [ha] at hy; cases hy) q (h.g y q hq hy), fun y u hy => ?_, fun y u hy => ?_, fun y q hq => ?_⟩
 ·by_cases e : y = x
  ·rw [e]; exact h.i.dom x p hp
  ·rw [putP_other _ _ e] at hy; exact h.dIn y u hy
 ·by_cases e : y = x
  ·subst e
   have cf : ∀ y, ∀ b ∈ liveG H (nextG ops L) y, 1 ≤ b.price := fun y b hb => (live_price h0 y b hb).1
   obtain ⟨out, e, hc, hes, hl⟩ := h.i.back cf hp
   rw [List.mem_singleton] at hes
   subst hes
   obtain ⟨r1, w1⟩ := h.i.chainF live_only hc hp
   exact ⟨_, r1, fun q z hr hz => by have := min_key hsh h0 hf ad h hx q z hr hz; omega⟩
  ·rw [putP_other _ _ e] at hy; exact h.way y u hy
 ·by_cases e : y = x
  ·exact .inr ⟨(), by rw [e, putP_same]⟩
  ·rcases h.seen y q hq with h1 | ⟨u, h1⟩
   ·exact .inl (hne y e q h1)
   ·exact .inr ⟨u, by rw [putP_other _ _ e]; exact h1⟩

/-- What the expanded states D of a search must be, when a plan of price p is found: none is worth more, and those on cheaper ways are all there. -/
def ExpOk (ops : List Wop) (L : List Nat) (st : Nat) (H : Nat → Int) (p : Int) (D : Nat → Bool) : Prop :=
 (∀ x ∈ L, D x = true → ∃ r, runOps ops st r = some x ∧ wayN 4096 1 ops r + 4096 * H x ≤ p) ∧
 (∀ r x, runOps ops st r = some x → (∀ k y, k ≤ r.length → runOps ops st (r.take k) = some y → wayN 4096 1 ops (r.take k) + 4096 * H y < p) → D x = true)

/-- Nothing waits any more: there is no plan. -/
theorem ast_none (hsh : Shut ops L) (ad : AdmF f ops L acc H) (h : AstI f ops L st acc H P par [] s [] dn) : LeastOf 4096 1 ops st acc (-1) := by
 refine .inl ⟨rfl, fun p y hr => ?_⟩
 cases hy : acc y with
 | false => rfl
 | true =>
  have h0 := (h.i.start st (List.mem_singleton.2 rfl)).1
  rcases frontH hsh ad h h0 (Int.le_refl _) hr hy with ⟨_, _, _, _, _, _, _, h1, _⟩ | ⟨k, hk, _⟩
  ·simp at h1
  ·have := h.g y k hk hy; simp at this
/-- The start is without a plan. -/
theorem ast_dead (ad : AdmF f ops L acc H) (hst : st ∈ L) (h : 1000000000 ≤ H st) : LeastOf 4096 1 ops st acc (-1) := by
 refine .inl ⟨rfl, fun p y hr => ?_⟩
 cases hy : acc y with
 | false => rfl
 | true => have := (ad.low st hst p y hr hy).2; omega

/-- A goal state is first: the way to it costs no more than a plan may. -/
theorem ast_found (hsh : Shut ops L) (h0 : ∀ o ∈ ops, 0 ≤ o.cost ∧ o.cost ≤ 100) (hf : 1 ≤ f) (ad : AdmF f ops L acc H) (h : AstI f ops L st acc H P par A s [] dn) {x : Nat} {k : Int} (hx : U.firstMin (liftA H A) = some ((x : Int), k)) (ha : acc x = true) :
  ∃ p out, P x = some p ∧ Chain par x out st ∧ out.length ≤ L.length ∧ runOps ops st out.reverse = some x ∧ wayN 4096 1 ops out.reverse ≤ p ∧ ∀ q y, runOps ops st q = some y → acc y = true → p ≤ wayK f ops q := by
 have hm := U.firstMin_mem hx
 unfold liftA at hm
 obtain ⟨⟨x', p⟩, hxp, he⟩ := List.mem_map.1 hm
 simp only [Prod.mk.injEq] at he
 obtain ⟨rfl, hk⟩ := he
 obtain ⟨x1, hx1, hP⟩ := h.i.key _ hxp
 have hx2 : x1 = x := by simp only at hx1; omega
 subst hx2
 simp only at hP
 have hlx := ad.lo x1 (h.i.dom _ _ hP)
 rw [Int.toNat_natCast] at hk
 have cf : ∀ y, ∀ b ∈ liveG H (nextG ops L) y, 1 ≤ b.price := fun y b hb => (live_price h0 y b hb).1
 obtain ⟨out, e, hc, hes, hl⟩ := h.i.back cf hP
 rw [List.mem_singleton] at hes
 subst hes
 obtain ⟨r1, w1⟩ := h.i.chainF live_only hc hP
 exact ⟨p, out, hP, hc, hl, r1, w1, fun q y hr hy => by have := min_key hsh h0 hf ad h hx q y hr hy; omega⟩
/-- With the factor 1 it is best. -/
theorem least_one {q : List Nat} {x : Nat} (h0 : ∀ o ∈ ops, 0 ≤ o.cost ∧ o.cost ≤ 100) (hr : runOps ops st q = some x) (ha : acc x = true) (h : ∀ r y, runOps ops st r = some y → acc y = true → wayN 4096 1 ops q ≤ wayK 1 ops r) : 0 ≤ wayN 4096 1 ops q ∧ LeastOf 4096 1 ops st acc (wayN 4096 1 ops q) := by
 have hp := wayN_low (k := 4096) (st := 1) (by omega) (by omega) h0 q
 exact ⟨hp, .inr ⟨hp, ⟨_, _, hr, ha, rfl⟩, fun r y h1 h2 => by have := h r y h1 h2; rw [wayK_one] at this; exact this⟩⟩
/-- The expanded states when a goal state is first. -/
theorem exp_found (hsh : Shut ops L) (h0 : ∀ o ∈ ops, 0 ≤ o.cost ∧ o.cost ≤ 100) (ad : AdmF 1 ops L acc H) (h : AstI 1 ops L st acc H P par A s [] dn) {x : Nat} {k p : Int} (hx : U.firstMin (liftA H A) = some ((x : Int), k)) (ha : acc x = true) (hp : P x = some p) (hbig : p ≤ 4096000000000) {q : List Nat} {y : Nat} (hr : runOps ops st q = some y) (hy : acc y = true) (hw : wayN 4096 1 ops q = p) :
  ExpOk ops L st H p (fun z => (dn z).isSome) := by
 refine ⟨fun z _ hz => ?_, fun r z hrz hpre => ?_⟩
 ·obtain ⟨u, hu⟩ := Option.isSome_iff_exists.1 hz
  obtain ⟨r, h1, h2⟩ := h.way z u hu
  exact ⟨r, h1, by have := h2 q y hr hy; rw [wayK_one] at this; omega⟩
 ·have hm := U.firstMin_mem hx
  unfold liftA at hm
  obtain ⟨⟨x', p'⟩, hxp, he⟩ := List.mem_map.1 hm
  simp only [Prod.mk.injEq] at he
  obtain ⟨rfl, hk⟩ := he
  obtain ⟨x1, hx1, hP⟩ := h.i.key _ hxp
  have hx2 : x1 = x := by simp only at hx1; omega
  subst hx2
  simp only at hP
  rw [hp] at hP; cases hP
  have hHx : H x1 = 0 := by
   have h1 := (ad.low x1 (h.i.dom _ _ hp) [] x1 rfl ha).1
   have h2 := ad.lo x1 (h.i.dom _ _ hp)
   have h3 : costN ops [] = 0 := rfl
   omega
  rw [Int.toNat_natCast, hHx] at hk
  have hleast := U.firstMin_least hx
  simp only at hleast
  have out : ∀ y1 q1, P y1 = some q1 → q1 + 4096 * H y1 < p → ((y1 : Int), q1) ∉ A := fun y1 q1 _ hlt hm => by
   have := hleast _ (liftA_mem (H := H) hm)
   simp only at this; omega
  have key : ∀ n, n ≤ r.length → ∀ y1, runOps ops st (r.take n) = some y1 → ∃ q1, P y1 = some q1 ∧ q1 ≤ wayN 4096 1 ops (r.take n) := by
   intro n
   induction n with
   | zero =>
    intro _ y1 h1
    rw [List.take_zero] at h1
    cases h1
    exact ⟨0, (h.i.start st (List.mem_singleton.2 rfl)).1, by rw [List.take_zero, wayN_nil]; omega⟩
   | succ n ih =>
    intro hn y1 h1
    obtain ⟨a, hra⟩ : ∃ a, r[n]? = some a := ⟨_, List.getElem?_eq_getElem (by omega)⟩
    have het : r.take (n + 1) = r.take n ++ [a] := by
     rw [List.take_add_one, hra]; rfl
    have hcond := hpre (n + 1) y1 hn h1
    rw [het] at h1
    obtain ⟨y0, o, g1, g2, g3, g4⟩ := runOps_snoc h1
    obtain ⟨q0, hq0, hle0⟩ := ih (by omega) y0 g1
    have hc0 := hpre n y0 (by omega) g1
    have hL0 := h.i.dom y0 q0 hq0
    have hnL := hsh.2 y0 hL0 o (List.mem_of_getElem? g2) g3
    have hw1 : wayN 4096 1 ops (r.take (n + 1)) = wayN 4096 1 ops (r.take n) + (4096 * o.cost + 1) := by rw [het, wayN_append, wayN_one g2]
    have hc := h0 o (List.mem_of_getElem? g2)
    have hHn := ad.lo _ hnL
    have hlow := (h.i.lo y0 q0 hq0).1
    rcases h.i.pend y0 q0 hq0 with h2 | h2
    ·exact absurd h2 (out y0 q0 hq0 (by omega))
    ·subst g4
     rcases h2 _ (List.mem_filter.2 ⟨nextG_all y0 o a hL0 g2 g3, by
       have : H (o.next y0) < 1000000000 := by omega
       simpa using this⟩) with ⟨q', hq', hle⟩ | ⟨_, h3⟩
     ·simp only at hq' hle
      exact ⟨q', hq', by omega⟩
     ·simp at h3
  rw [← List.take_length (l := r)] at hrz
  obtain ⟨q1, hq1, hle1⟩ := key r.length (Nat.le_refl _) z hrz
  have hcz := hpre r.length z (Nat.le_refl _) hrz
  rcases h.seen z q1 hq1 with h2 | ⟨u, h2⟩
  ·exact absurd h2 (out z q1 hq1 (by omega))
  ·show (dn z).isSome = true
   rw [h2]; rfl
end

end Go.Proofs.YtdokakhgflljgaaGreat

namespace Go.Proofs.YtdokakhgflljgaaGreat
open Go.RowKit

theorem SideI.few {G : Nat → List SArc} {S0 : Nat → Prop} {L : List Nat} {C : Int} {P : Nat → Option Int} {par : Nat → Option SArc} {A : List (Int × Int)} {s : Nat} {R : List SArc} (h : SideI G S0 L C P par A s R) (hn : (A.map Prod.fst).Nodup) : A.length ≤ L.length := by
 have h1 : (A.map fun p => p.1.toNat).Nodup := by
  unfold List.Nodup at hn ⊢
  rw [List.pairwise_map] at hn ⊢
  refine hn.imp_of_mem (fun {a b} ha hb hab e => hab ?_)
  obtain ⟨x, hx, _⟩ := h.key a ha
  obtain ⟨y, hy, _⟩ := h.key b hb
  rw [hx, hy] at e ⊢
  have e' : x = y := by simpa using e
  rw [e']
 have h2 := nodup_sub_length h1 (b := L) (fun x hx => by
  obtain ⟨p, hp, rfl⟩ := List.mem_map.1 hx
  obtain ⟨y, hy, hP⟩ := h.key p hp
  rw [hy]
  exact h.dom _ _ hP)
 simpa using h2

end Go.Proofs.YtdokakhgflljgaaGreat

namespace Go.Proofs.YtdokakhgflljgaaGreat
open Go.RowKit Go.Shelf

theorem FMap.not_deferred {α : Type} {w : World} {b : Nat} {enc : α → Value} {f : Nat → Option α} (h : FMap w b enc f) : w.heap[b]? ≠ some (.deferred (some [])) := by
 obtain ⟨es, c, hb⟩ := h.map_block
 rw [hb]; intro e; cases e

section
variable {fl : Bool} {B bf bb bfo bbe bat : Nat} {W W1 : World} {b m0 mp mr md q : Nat} {G : Nat → List SArc} {FG : Nat → Prop} {P : Nat → Option Int} {par : Nat → Option SArc} {dn : Nat → Option Unit} {A : List (Int × Int)} {t : Int} {F : Nat → Prop}
  {b' m0' mp' mr' md' q' : Nat} {G' : Nat → List SArc} {FG' : Nat → Prop} {P' : Nat → Option Int} {par' : Nat → Option SArc} {dn' : Nat → Option Unit} {A' : List (Int × Int)} {t' : Int} {F' : Nat → Prop} {found : Bool} {best : Int} {at_ : Nat}
end

end Go.Proofs.YtdokakhgflljgaaGreat

namespace Go.Proofs.YtdokakhgflljgaaGreat
open Go.RowKit Go.Shelf

theorem startW (L gs : List Nat) (m : Nat) : weightB L m (startP gs) ≤ L.length * m := by
 unfold weightB
 induction L with
 | nil => simp
 | cons x r ih =>
  rw [List.map_cons, List.sum_cons, List.length_cons, Nat.add_mul, Nat.one_mul, Nat.add_comm]
  refine Nat.add_le_add ih ?_
  unfold startP
  by_cases h : x ∈ gs
  ·rw [if_pos h]; exact Nat.zero_le _
  ·rw [if_neg h]; exact Nat.le_refl _
end Go.Proofs.YtdokakhgflljgaaGreat

namespace Go.Proofs.YtdokakhgflljgaaGreat
open Go.RowKit

/-- The three maps and the queue of a search, each apart from the others. -/
structure AstM (w : World) (base mp mr md q : Nat) (P : Nat → Option Int) (fp : Nat → Option SArc) (dn : Nat → Option Unit) (A : List (Int × Int)) (t : Int) (F : Nat → Prop) : Prop where
 price : FMap w mp intV P
 par_ : FMap w mr backV fp
 done : FMap w md unitV dn
 q : U.QRep w q A t F
 lF : ∀ k, F k → base ≤ k ∧ k < w.heap.size ∧ k ≠ mp ∧ k ≠ mr ∧ k ≠ md
 lp : base ≤ mp
 lr : base ≤ mr
 ld : base ≤ md
 n1 : mp ≠ mr
 n2 : mp ≠ md
 n3 : mr ≠ md

section
variable {w w' : World} {base mp mr md q : Nat} {P P' : Nat → Option Int} {fp fp' : Nat → Option SArc} {dn dn' : Nat → Option Unit} {A A' : List (Int × Int)} {t t' : Int} {F F' : Nat → Prop}
theorem AstM.priced (h : AstM w base mp mr md q P fp dn A t F) (hk : Keeps (fun k => k = mp) w w') (hp : FMap w' mp intV P') : AstM w' base mp mr md q P' fp dn A t F :=
 ⟨hp, h.par_.keeps hk (fun e => h.n1 e.symm), h.done.keeps hk (fun e => h.n2 e.symm), h.q.keeps hk (fun k hF e => (h.lF k hF).2.2.1 e),
   fun k hF => ⟨(h.lF k hF).1, Nat.lt_of_lt_of_le (h.lF k hF).2.1 hk.size, (h.lF k hF).2.2⟩, h.lp, h.lr, h.ld, h.n1, h.n2, h.n3⟩
theorem AstM.pard (h : AstM w base mp mr md q P fp dn A t F) (hk : Keeps (fun k => k = mr) w w') (hp : FMap w' mr backV fp') : AstM w' base mp mr md q P fp' dn A t F :=
 ⟨h.price.keeps hk (fun e => h.n1 e), hp, h.done.keeps hk (fun e => h.n3 e.symm), h.q.keeps hk (fun k hF e => (h.lF k hF).2.2.2.1 e),
   fun k hF => ⟨(h.lF k hF).1, Nat.lt_of_lt_of_le (h.lF k hF).2.1 hk.size, (h.lF k hF).2.2⟩, h.lp, h.lr, h.ld, h.n1, h.n2, h.n3⟩
theorem AstM.doned (h : AstM w base mp mr md q P fp dn A t F) (hk : Keeps (fun k => k = md) w w') (hp : FMap w' md unitV dn') : AstM w' base mp mr md q P fp dn' A t F :=
 ⟨h.price.keeps hk (fun e => h.n2 e), h.par_.keeps hk (fun e => h.n3 e), hp, h.q.keeps hk (fun k hF e => (h.lF k hF).2.2.2.2 e),
   fun k hF => ⟨(h.lF k hF).1, Nat.lt_of_lt_of_le (h.lF k hF).2.1 hk.size, (h.lF k hF).2.2⟩, h.lp, h.lr, h.ld, h.n1, h.n2, h.n3⟩
theorem AstM.queued (h : AstM w base mp mr md q P fp dn A t F) (hk : Keeps F w w') (hq : U.QRep w' q A' t' F') (hF : ∀ k, F' k → F k ∨ w.heap.size ≤ k) (hb : base ≤ w.heap.size) : AstM w' base mp mr md q P fp dn A' t' (fun k => F' k ∧ k < w'.heap.size) := by
 have lp := h.price.lt
 have lr := h.par_.lt
 have ld := h.done.lt
 refine ⟨h.price.keeps hk (fun e => (h.lF mp e).2.2.1 rfl), h.par_.keeps hk (fun e => (h.lF mr e).2.2.2.1 rfl), h.done.keeps hk (fun e => (h.lF md e).2.2.2.2 rfl),
  U.QRep.mono hq (fun k hk' hF' => ⟨hF', hk'⟩), fun k hF' => ?_, h.lp, h.lr, h.ld, h.n1, h.n2, h.n3⟩
 rcases hF k hF'.1 with h1 | h1
 ·exact ⟨(h.lF k h1).1, hF'.2, (h.lF k h1).2.2⟩
 ·exact ⟨by omega, hF'.2, by omega, by omega, by omega⟩
theorem AstM.keeps {S : Nat → Prop} (h : AstM w base mp mr md q P fp dn A t F) (hk : Keeps S w w') (h1 : ¬ S mp) (h2 : ¬ S mr) (h3 : ¬ S md) (hF : ∀ k, F k → ¬ S k) : AstM w' base mp mr md q P fp dn A t F :=
 ⟨h.price.keeps hk h1, h.par_.keeps hk h2, h.done.keeps hk h3, h.q.keeps hk hF, fun k hF => ⟨(h.lF k hF).1, Nat.lt_of_lt_of_le (h.lF k hF).2.1 hk.size, (h.lF k hF).2.2⟩, h.lp, h.lr, h.ld, h.n1, h.n2, h.n3⟩
theorem AstM.low {S : Nat → Prop} (h : AstM w base mp mr md q P fp dn A t F) (hk : Keeps S w w') (hS : ∀ k, S k → k < base) : AstM w' base mp mr md q P fp dn A t F :=
 h.keeps hk (fun e => by have := hS _ e; have := h.lp; omega) (fun e => by have := hS _ e; have := h.lr; omega) (fun e => by have := hS _ e; have := h.ld; omega) (fun k hF e => by have := hS _ e; have := (h.lF k hF).1; omega)
theorem AstM.live (h : AstM w base mp mr md q P fp dn A t F) : AstM w base mp mr md q P fp dn A t (fun k => F k ∧ k < w.heap.size ∧ w.heap[k]? ≠ some (.deferred (some []))) :=
 { h with q := h.q.live, lF := fun k hk => h.lF k hk.1 }
end

/-- A heuristic as a function value: H is what it says of the states of L; it keeps its own memory between n0 and B, of which it changes the blocks FH. -/
structure Heur (g : Nat) (pa cb : Array Value) (L : List Nat) (H : Nat → Int) (n0 B : Nat) (FH : Nat → Prop) (I : World → Prop) : Prop where
 enters : ∀ args w, (callFunc g args).run Tryz.prog w = .ok (.enter g args) w
 answers : ∀ W x, I W → x ∈ L → Calls Tryz.prog g (pa.push (.int .u32 (x : Int)) ++ cb) W fun e W' => e = .returned (.int .i64 (H x)) ∧ I W' ∧ Keeps FH W W'
 steady : ∀ {S : Nat → Prop} {W W' : World}, I W → Keeps S W W' → (∀ k, S k → B ≤ k) → I W'
 nd : ∀ {W : World} {k : Nat}, I W → FH k → W.heap[k]? ≠ some (.deferred (some []))
 lo : ∀ k, FH k → n0 ≤ k ∧ k < B

/-- The map of the parents: the start has itself, the others what the search says. -/
def parF (st : Nat) (par : Nat → Option SArc) : Nat → Option SArc := fun x => if x = st then some ⟨0, 0, st⟩ else par x
theorem parF_put {st : Nat} {par : Nat → Option SArc} {x : Nat} {a : SArc} (h : x ≠ st) : putP (parF st par) x a = parF st (putP par x a) := by
 funext y
 unfold putP parF
 by_cases h1 : y = x
 ·subst h1; simp [h]
 ·simp [h1]
theorem parF_of {st : Nat} {par : Nat → Option SArc} (h0 : par st = none) : ∀ y a, par y = some a → parF st par y = some a := fun y a h => by
 unfold parF
 rw [if_neg (fun e => by subst e; rw [h0] at h; cases h)]
 exact h
theorem parF_start (st : Nat) : putP (fun _ => none) st (⟨0, 0, st⟩ : SArc) = parF st (fun _ => none) := by
 funext y
 unfold putP parF
 rfl

end Go.Proofs.YtdokakhgflljgaaGreat

namespace Go.Proofs.YtdokakhgflljgaaGreat
open Go.RowKit Go.Shelf

theorem method_Goal (a : Addr) (w : World) : (method 337 60 (.pointer (some a)) "Goal").run Tryz.prog w = .ok (33, .pointer (some a)) w := by kernel_rfl

theorem FMap.len {α : Type} {w : World} {b : Nat} {enc : α → Value} {f : Nat → Option α} (h : FMap w b enc f) {L : List Nat} (hL : ∀ x v, f x = some v → x ∈ L) {P : Program} {t k e : TypeId} (ht : P.underlying t = some (.map k e)) (ty : TypeId) :
  ∃ n : Nat, n ≤ L.length ∧ (Builtin.len_ #[t] ty #[.map (some b)]).run P w = .ok (.int .i64 (n : Int)) w := by
 obtain ⟨l, h1, h2, h3⟩ := h
 refine ⟨l.length, ?_, by have := h1.run_len (P := P) ht ty; rwa [List.length_map] at this⟩
 have := nodup_sub_length (b := L) h2 (fun x hx => by
  obtain ⟨p, hp, rfl⟩ := List.mem_map.1 hx
  exact hL p.1 p.2 ((h3 _ _).2 hp))
 rwa [List.length_map] at this

theorem FMap.lenN {w : World} {b : Nat} {f : Nat → Option Unit} (h : FMap w b unitV f) {L : List Nat} (hn : L.Nodup) (hL : ∀ x v, f x = some v → x ∈ L) {P : Program} {t k e : TypeId} (ht : P.underlying t = some (.map k e)) (ty : TypeId) :
  (Builtin.len_ #[t] ty #[.map (some b)]).run P w = .ok (.int .i64 (((L.filter fun x => (f x).isSome).length : Nat) : Int)) w := by
 obtain ⟨l, h1, h2, h3⟩ := h
 have hr := h1.run_len (P := P) ht ty
 rw [List.length_map] at hr
 have e1 := nodup_sub_length (b := L.filter fun x => (f x).isSome) h2 (fun x hx => by
  obtain ⟨p, hp, rfl⟩ := List.mem_map.1 hx
  have h4 := (h3 _ _).2 hp
  exact List.mem_filter.2 ⟨hL p.1 p.2 h4, by rw [h4]; rfl⟩)
 have e2 := nodup_sub_length (b := l.map Prod.fst) (hn.filter fun x => (f x).isSome) (fun x hx => by
  obtain ⟨_, h5⟩ := List.mem_filter.1 hx
  obtain ⟨u, hu⟩ := Option.isSome_iff_exists.1 h5
  exact List.mem_map.2 ⟨(x, u), (h3 _ _).1 hu, rfl⟩)
 rw [List.length_map] at e1 e2
 rw [show (L.filter fun x => (f x).isSome).length = l.length by omega]
 exact hr
theorem WordsAt.past {w00 W : World} {base b s g : Nat} {v : Value} {ops : List Wop} (h : WordsAt w00 base b s g v ops) (hk : Keeps (fun _ => False) w00 W) : WordsAt W base b s g v ops := h.keeps0 hk

/-- A block that is neither one of deferred calls nor a step's. -/
def Clean (W : World) (k : Nat) : Prop := W.heap[k]? ≠ some (.deferred (some [])) ∧ ∀ cs fr, W.heap[k]? ≠ some (.cells cs 107 fr)
theorem Clean.keeps {S : Nat → Prop} {W W' : World} {k : Nat} (h : Clean W k) (hk : Keeps S W W') (hl : k < W.heap.size) (hs : ¬ S k) : Clean W' k := by
 have e := hk.block k hl hs
 exact ⟨by rw [e]; exact h.1, fun cs fr => by rw [e]; exact h.2 cs fr⟩
theorem U.QRep.clean {w : World} {Q : Nat} {A : List (Int × Int)} {t : Int} {F : Nat → Prop} (h : U.QRep w Q A t F) : U.QRep w Q A t (fun b => F b ∧ b < w.heap.size ∧ Clean w b) := by
 obtain ⟨v, Mb, l, L, E, h⟩ := h
 refine ⟨v, Mb, l, L, E, { h with fQ := ⟨h.fQ, h.lt.1, cells_not_deferred h.q, fun cs fr e => ?_⟩, fM := ⟨h.fM, h.lt.2.1, map_not_deferred h.mp, fun cs fr e => ?_⟩, fH := fun b hb => ⟨h.fH b hb, h.lt.2.2 b hb, ?_⟩ }⟩
 ·have hq := h.q
  unfold U.QBlk at hq
  rw [hq] at e; simp at e
 ·obtain ⟨es, c, hb, _⟩ := h.mp
  rw [hb] at e; cases e
 ·rcases hb with hb | ⟨e, he, rfl⟩
  ·refine ⟨row_not_deferred h.rep.row b hb, fun cs fr e => ?_⟩
   rcases h.rep.row.2 with ⟨hv, _⟩ | ⟨g, cap, cur, hv, _, hg, _⟩
   ·rw [hv] at hb; simp [Value.ownBlock] at hb
   ·rw [hv] at hb; simp [Value.ownBlock] at hb
    subst hb; rw [hg] at e; simp at e
  ·obtain ⟨j, hj⟩ := List.mem_iff_getElem?.1 he
   refine ⟨cells_not_deferred (h.rep.ent j e hj), fun cs fr e' => ?_⟩
   rw [h.rep.ent j e hj] at e'; simp at e'

/-- What Best holds: the heuristic's own memory, the three maps and the queue, and the boxes of the variables that the loop's body names. -/
structure BestM (w : World) (FH : Nat → Prop) (I : World → Prop) (fn : Value) (b3 b8 b9 b10 mp mr md q : Nat) (P : Nat → Option Int) (fp : Nat → Option SArc) (dn : Nat → Option Unit) (A : List (Int × Int)) (t : Int) (F : Nat → Prop) (W : World) : Prop where
 keep : Keeps FH w W
 hI : I W
 m : AstM W w.heap.size mp mr md q P fp dn A t F
 x3 : Boxed W b3 67 fn
 x8 : Boxed W b8 88 (.map (some mp))
 x9 : Boxed W b9 95 (.map (some mr))
 x10 : Boxed W b10 96 (.pointer (some ⟨q, 0, none⟩))
 l3 : w.heap.size ≤ b3
 l8 : w.heap.size ≤ b8
 l9 : w.heap.size ≤ b9
 l10 : w.heap.size ≤ b10
 fb : ∀ k, F k → k ≠ b3 ∧ k ≠ b8 ∧ k ≠ b9 ∧ k ≠ b10

section
variable {w W W' : World} {L : List Nat} {H : Nat → Int} {gh n0 : Nat} {pa cb : Array Value} {FH : Nat → Prop} {I : World → Prop} {fn : Value} {b3 b8 b9 b10 mp mr md q : Nat} {P P' : Nat → Option Int} {fp fp' : Nat → Option SArc} {dn dn' : Nat → Option Unit} {A A' : List (Int × Int)} {t t' : Int} {F F' : Nat → Prop}
theorem BestM.by {S : Nat → Prop} (hh : Heur gh pa cb L H n0 w.heap.size FH I) (h : BestM w FH I fn b3 b8 b9 b10 mp mr md q P fp dn A t F W) (hk : Keeps S W W') (hS : ∀ k, S k → w.heap.size ≤ k) (c3 : ¬ S b3) (c8 : ¬ S b8) (c9 : ¬ S b9) (c10 : ¬ S b10) (e1 : ¬ S mp) (e2 : ¬ S mr) (e3 : ¬ S md) (e4 : ∀ k, F k → ¬ S k) :
  BestM w FH I fn b3 b8 b9 b10 mp mr md q P fp dn A t F W' :=
 ⟨h.keep.trans' hk (fun i hi => .inr (hS i hi)), hh.steady h.hI hk hS, h.m.keeps hk e1 e2 e3 e4, hk.heap h.x3 c3, hk.heap h.x8 c8, hk.heap h.x9 c9, hk.heap h.x10 c10, h.l3, h.l8, h.l9, h.l10, h.fb⟩
theorem BestM.keeps0 (hh : Heur gh pa cb L H n0 w.heap.size FH I) (h : BestM w FH I fn b3 b8 b9 b10 mp mr md q P fp dn A t F W) (hk : Keeps (fun _ => False) W W') : BestM w FH I fn b3 b8 b9 b10 mp mr md q P fp dn A t F W' :=
 h.by hh hk (fun _ h => h.elim) (fun h => h) (fun h => h) (fun h => h) (fun h => h) (fun h => h) (fun h => h) (fun h => h) (fun _ _ h => h)
/-- The heuristic has been asked. -/
theorem BestM.asked (hh : Heur gh pa cb L H n0 w.heap.size FH I) (h : BestM w FH I fn b3 b8 b9 b10 mp mr md q P fp dn A t F W) (hk : Keeps FH W W') (hI : I W') : BestM w FH I fn b3 b8 b9 b10 mp mr md q P fp dn A t F W' := by
 have no : ∀ k, w.heap.size ≤ k → ¬ FH k := fun k hk h => by have := (hh.lo k h).2; omega
 exact ⟨h.keep.trans hk, hI, h.m.low hk (fun k h => (hh.lo k h).2), hk.heap h.x3 (no _ h.l3), hk.heap h.x8 (no _ h.l8), hk.heap h.x9 (no _ h.l9), hk.heap h.x10 (no _ h.l10), h.l3, h.l8, h.l9, h.l10, h.fb⟩
theorem BestM.boxes (h : BestM w FH I fn b3 b8 b9 b10 mp mr md q P fp dn A t F W) {j : Nat} (hj : ∀ {g : Nat} {cs : Array Value} {T : TypeId} {fr : Nat × Nat}, W.heap[g]? = some (.cells cs T fr) → j ≠ g) : b3 ≠ j ∧ b8 ≠ j ∧ b9 ≠ j ∧ b10 ≠ j :=
 ⟨(hj h.x3).symm, (hj h.x8).symm, (hj h.x9).symm, (hj h.x10).symm⟩
theorem BestM.priced (hh : Heur gh pa cb L H n0 w.heap.size FH I) (h : BestM w FH I fn b3 b8 b9 b10 mp mr md q P fp dn A t F W) (hk : Keeps (fun k => k = mp) W W') (hp : FMap W' mp intV P') : BestM w FH I fn b3 b8 b9 b10 mp mr md q P' fp dn A t F W' := by
 have hb := h.boxes (fun hg => h.m.price.ne_cells hg)
 have lo : ∀ k, k = mp → w.heap.size ≤ k := fun k e => by rw [e]; exact h.m.lp
 exact ⟨h.keep.trans' hk (fun i hi => .inr (lo i hi)), hh.steady h.hI hk lo, h.m.priced hk hp, hk.heap h.x3 hb.1, hk.heap h.x8 hb.2.1, hk.heap h.x9 hb.2.2.1, hk.heap h.x10 hb.2.2.2, h.l3, h.l8, h.l9, h.l10, h.fb⟩
theorem BestM.pard (hh : Heur gh pa cb L H n0 w.heap.size FH I) (h : BestM w FH I fn b3 b8 b9 b10 mp mr md q P fp dn A t F W) (hk : Keeps (fun k => k = mr) W W') (hp : FMap W' mr backV fp') : BestM w FH I fn b3 b8 b9 b10 mp mr md q P fp' dn A t F W' := by
 have hb := h.boxes (fun hg => h.m.par_.ne_cells hg)
 have lo : ∀ k, k = mr → w.heap.size ≤ k := fun k e => by rw [e]; exact h.m.lr
 exact ⟨h.keep.trans' hk (fun i hi => .inr (lo i hi)), hh.steady h.hI hk lo, h.m.pard hk hp, hk.heap h.x3 hb.1, hk.heap h.x8 hb.2.1, hk.heap h.x9 hb.2.2.1, hk.heap h.x10 hb.2.2.2, h.l3, h.l8, h.l9, h.l10, h.fb⟩
theorem BestM.doned (hh : Heur gh pa cb L H n0 w.heap.size FH I) (h : BestM w FH I fn b3 b8 b9 b10 mp mr md q P fp dn A t F W) (hk : Keeps (fun k => k = md) W W') (hp : FMap W' md unitV dn') : BestM w FH I fn b3 b8 b9 b10 mp mr md q P fp dn' A t F W' := by
 have hb := h.boxes (fun hg => h.m.done.ne_cells hg)
 have lo : ∀ k, k = md → w.heap.size ≤ k := fun k e => by rw [e]; exact h.m.ld
 exact ⟨h.keep.trans' hk (fun i hi => .inr (lo i hi)), hh.steady h.hI hk lo, h.m.doned hk hp, hk.heap h.x3 hb.1, hk.heap h.x8 hb.2.1, hk.heap h.x9 hb.2.2.1, hk.heap h.x10 hb.2.2.2, h.l3, h.l8, h.l9, h.l10, h.fb⟩
theorem BestM.queued (hh : Heur gh pa cb L H n0 w.heap.size FH I) (h : BestM w FH I fn b3 b8 b9 b10 mp mr md q P fp dn A t F W) (hk : Keeps F W W') (hq : U.QRep W' q A' t' F') (hF : ∀ k, F' k → F k ∨ W.heap.size ≤ k) : BestM w FH I fn b3 b8 b9 b10 mp mr md q P fp dn A' t' (fun k => F' k ∧ k < W'.heap.size) W' := by
 have lo : ∀ k, F k → w.heap.size ≤ k := fun k e => (h.m.lF k e).1
 have z3 := h.x3.lt; have z8 := h.x8.lt; have z9 := h.x9.lt; have z10 := h.x10.lt
 refine ⟨h.keep.trans' hk (fun i hi => .inr (lo i hi)), hh.steady h.hI hk lo, h.m.queued hk hq hF h.keep.size, hk.heap h.x3 (fun e => (h.fb _ e).1 rfl), hk.heap h.x8 (fun e => (h.fb _ e).2.1 rfl), hk.heap h.x9 (fun e => (h.fb _ e).2.2.1 rfl), hk.heap h.x10 (fun e => (h.fb _ e).2.2.2 rfl), h.l3, h.l8, h.l9, h.l10, fun k hk' => ?_⟩
 rcases hF k hk'.1 with h1 | h1
 ·exact h.fb k h1
 ·omega
theorem BestM.live (h : BestM w FH I fn b3 b8 b9 b10 mp mr md q P fp dn A t F W) : BestM w FH I fn b3 b8 b9 b10 mp mr md q P fp dn A t (fun k => F k ∧ k < W.heap.size ∧ W.heap[k]? ≠ some (.deferred (some []))) W :=
 { h with m := h.m.live, fb := fun k hk => h.fb k hk.1 }
theorem BestM.clean (h : BestM w FH I fn b3 b8 b9 b10 mp mr md q P fp dn A t F W) : BestM w FH I fn b3 b8 b9 b10 mp mr md q P fp dn A t (fun k => F k ∧ k < W.heap.size ∧ Clean W k) W :=
 { h with m := { h.m with q := h.m.q.clean, lF := fun k hk => h.m.lF k hk.1 }, fb := fun k hk => h.fb k hk.1 }
theorem BestM.steady {row : Option Nat} {B : Nat} (hh : Heur gh pa cb L H n0 w.heap.size FH I) (h : BestM w FH I fn b3 b8 b9 b10 mp mr md q P fp dn A t F W) (hg : W.grownBy W' row) (hr : ∀ r, row = some r → B ≤ r ∧ ∃ o : Obj, W.heap[r]? = some o ∧ o.isCells = false) (hB : w.heap.size ≤ B) (m1 : mp < B) (m2 : mr < B) (m3 : md < B)
  (hF : ∀ k, F k → k < B ∨ ∃ cs T fr, W.heap[k]? = some (.cells cs T fr)) : BestM w FH I fn b3 b8 b9 b10 mp mr md q P fp dn A t F W' := by
 have cell : ∀ {k : Nat}, (∃ cs T fr, W.heap[k]? = some (.cells cs T fr)) → ¬ row = some k := fun hc e => by
  obtain ⟨cs, T, fr, hc⟩ := hc
  obtain ⟨_, o, ho, hn⟩ := hr _ e
  rw [hc] at ho; cases ho; cases hn
 have lt : ∀ {k : Nat}, k < B → ¬ row = some k := fun hk e => by have := (hr _ e).1; omega
 exact h.by hh (steady_keeps hg) (fun k e => by have := (hr k e).1; omega) (cell ⟨_, _, _, h.x3⟩) (cell ⟨_, _, _, h.x8⟩) (cell ⟨_, _, _, h.x9⟩) (cell ⟨_, _, _, h.x10⟩) (lt m1) (lt m2) (lt m3) (fun k hk => (hF k hk).elim lt cell)
/-- No block of it is one of deferred calls. -/
theorem BestM.nd (h : BestM w FH I fn b3 b8 b9 b10 mp mr md q P fp dn A t F W) : W.heap[mp]? ≠ some (.deferred (some [])) ∧ W.heap[mr]? ≠ some (.deferred (some [])) ∧ W.heap[md]? ≠ some (.deferred (some [])) :=
 ⟨h.m.price.not_deferred, h.m.par_.not_deferred, h.m.done.not_deferred⟩
end

/-- The same before the map of the expanded states is made. -/
structure PreM (w : World) (FH : Nat → Prop) (I : World → Prop) (fn : Value) (b3 b8 b9 b10 mp mr q : Nat) (P : Nat → Option Int) (fp : Nat → Option SArc) (A : List (Int × Int)) (t : Int) (F : Nat → Prop) (W : World) : Prop where
 keep : Keeps FH w W
 hI : I W
 price : FMap W mp intV P
 par_ : FMap W mr backV fp
 que : U.QRep W q A t F
 x3 : Boxed W b3 67 fn
 x8 : Boxed W b8 88 (.map (some mp))
 x9 : Boxed W b9 95 (.map (some mr))
 x10 : Boxed W b10 96 (.pointer (some ⟨q, 0, none⟩))
 lF : ∀ k, F k → w.heap.size ≤ k ∧ k < W.heap.size ∧ k ≠ mp ∧ k ≠ mr
 fb : ∀ k, F k → k ≠ b3 ∧ k ≠ b8 ∧ k ≠ b9 ∧ k ≠ b10
 l3 : w.heap.size ≤ b3
 l8 : w.heap.size ≤ b8
 l9 : w.heap.size ≤ b9
 l10 : w.heap.size ≤ b10
 lp : w.heap.size ≤ mp
 lr : w.heap.size ≤ mr
 n1 : mp ≠ mr
section
variable {w W W' : World} {L : List Nat} {H : Nat → Int} {gh n0 : Nat} {pa cb : Array Value} {FH : Nat → Prop} {I : World → Prop} {fn : Value} {b3 b8 b9 b10 mp mr q : Nat} {P : Nat → Option Int} {fp : Nat → Option SArc} {A A' : List (Int × Int)} {t t' : Int} {F F' : Nat → Prop}
theorem PreM.keeps0 (hh : Heur gh pa cb L H n0 w.heap.size FH I) (h : PreM w FH I fn b3 b8 b9 b10 mp mr q P fp A t F W) (hk : Keeps (fun _ => False) W W') : PreM w FH I fn b3 b8 b9 b10 mp mr q P fp A t F W' :=
 ⟨h.keep.trans (hk.mono (fun _ _ h => h.elim)), hh.steady h.hI hk (fun _ h => h.elim), h.price.keeps hk (fun h => h), h.par_.keeps hk (fun h => h), h.que.keeps hk (fun _ _ h => h), hk.heap h.x3 (fun h => h), hk.heap h.x8 (fun h => h), hk.heap h.x9 (fun h => h), hk.heap h.x10 (fun h => h),
   fun k hk' => ⟨(h.lF k hk').1, Nat.lt_of_lt_of_le (h.lF k hk').2.1 hk.size, (h.lF k hk').2.2⟩, h.fb, h.l3, h.l8, h.l9, h.l10, h.lp, h.lr, h.n1⟩
theorem PreM.asked (hh : Heur gh pa cb L H n0 w.heap.size FH I) (h : PreM w FH I fn b3 b8 b9 b10 mp mr q P fp A t F W) (hk : Keeps FH W W') (hI : I W') : PreM w FH I fn b3 b8 b9 b10 mp mr q P fp A t F W' := by
 have no : ∀ k, w.heap.size ≤ k → ¬ FH k := fun k hk h => by have := (hh.lo k h).2; omega
 exact ⟨h.keep.trans hk, hI, h.price.keeps hk (no _ h.lp), h.par_.keeps hk (no _ h.lr), h.que.keeps hk (fun k hF => no k (h.lF k hF).1), hk.heap h.x3 (no _ h.l3), hk.heap h.x8 (no _ h.l8), hk.heap h.x9 (no _ h.l9), hk.heap h.x10 (no _ h.l10),
   fun k hk' => ⟨(h.lF k hk').1, Nat.lt_of_lt_of_le (h.lF k hk').2.1 hk.size, (h.lF k hk').2.2⟩, h.fb, h.l3, h.l8, h.l9, h.l10, h.lp, h.lr, h.n1⟩
theorem PreM.queued (hh : Heur gh pa cb L H n0 w.heap.size FH I) (h : PreM w FH I fn b3 b8 b9 b10 mp mr q P fp A t F W) (hk : Keeps F W W') (hq : U.QRep W' q A' t' F') (hF : ∀ k, F' k → F k ∨ W.heap.size ≤ k) : PreM w FH I fn b3 b8 b9 b10 mp mr q P fp A' t' (fun k => F' k ∧ k < W'.heap.size) W' := by
 have lo : ∀ k, F k → w.heap.size ≤ k := fun k e => (h.lF k e).1
 have z3 := h.x3.lt; have z8 := h.x8.lt; have z9 := h.x9.lt; have z10 := h.x10.lt; have zp := h.price.lt; have zr := h.par_.lt; have zw := h.keep.size
 refine ⟨h.keep.trans' hk (fun i hi => .inr (lo i hi)), hh.steady h.hI hk lo, h.price.keeps hk (fun e => (h.lF _ e).2.2.1 rfl), h.par_.keeps hk (fun e => (h.lF _ e).2.2.2 rfl), U.QRep.mono hq (fun k hk' hF' => ⟨hF', hk'⟩), hk.heap h.x3 (fun e => (h.fb _ e).1 rfl), hk.heap h.x8 (fun e => (h.fb _ e).2.1 rfl), hk.heap h.x9 (fun e => (h.fb _ e).2.2.1 rfl), hk.heap h.x10 (fun e => (h.fb _ e).2.2.2 rfl), fun k hk' => ?_, fun k hk' => ?_, h.l3, h.l8, h.l9, h.l10, h.lp, h.lr, h.n1⟩
 ·rcases hF k hk'.1 with h1 | h1
  ·exact ⟨(h.lF k h1).1, hk'.2, (h.lF k h1).2.2⟩
  ·exact ⟨by omega, hk'.2, by omega, by omega⟩
 ·rcases hF k hk'.1 with h1 | h1
  ·exact h.fb k h1
  ·omega
theorem PreM.made (hh : Heur gh pa cb L H n0 w.heap.size FH I) (h : PreM w FH I fn b3 b8 b9 b10 mp mr q P fp A t F W) : BestM w FH I fn b3 b8 b9 b10 mp mr W.heap.size q P fp (fun _ => none) A t F (W.alloc (.map #[] 0)) := by
 have hk := (Keeps.refl (fun _ => False) W).alloc (.map #[] 0)
 have h' := h.keeps0 hh hk
 have zp := h.price.lt; have zr := h.par_.lt; have zw := h.keep.size
 exact ⟨h'.keep, h'.hI, ⟨h'.price, h'.par_, FMap.made W unitV, h'.que, fun k hF => ⟨(h'.lF k hF).1, (h'.lF k hF).2.1, (h'.lF k hF).2.2.1, (h'.lF k hF).2.2.2, by have := (h.lF k hF).2.1; omega⟩, h.lp, h.lr, zw, h.n1, by omega, by omega⟩,
  h'.x3, h'.x8, h'.x9, h'.x10, h.l3, h.l8, h.l9, h.l10, h.fb⟩
end

/-- What Best hands back. -/
def AstPost (ops : List Wop) (L : List Nat) (st : Nat) (acc : Nat → Bool) (H : Nat → Int) (w : World) (FH : Nat → Prop) (e : Ending) (w' : World) : Prop := Keeps FH w w' ∧ ∃ n : Nat, n ≤ L.length ∧
 ((LeastOf 4096 1 ops st acc (-1) ∧ e = .returned (.tuple #[.slice none 0 0, .int .i64 (n : Int), .bool false])) ∨
   (∃ (q : List Nat) (y : Nat) (p : Int) (v : Value), e = .returned (.tuple #[v, .int .i64 (n : Int), .bool true]) ∧ w'.ownsRow w.heap.size 3 1 v q.length ((intsP q).map (Value.int .i64)) ∧ q.length ≤ L.length ∧
   runOps ops st q = some y ∧ acc y = true ∧ wayN 4096 1 ops q = p ∧ 0 ≤ p ∧ LeastOf 4096 1 ops st acc p ∧ ∃ D : Nat → Bool, n = (L.filter D).length ∧ ExpOk ops L st H p D))

/-- The same, when the heuristic may say f times what a way costs. -/
def AstPostF (f : Int) (ops : List Wop) (L : List Nat) (st : Nat) (acc : Nat → Bool) (H : Nat → Int) (w : World) (FH : Nat → Prop) (I : World → Prop) (e : Ending) (w' : World) : Prop := Keeps FH w w' ∧ I w' ∧ ∃ n : Nat, n ≤ L.length ∧
 ((LeastOf 4096 1 ops st acc (-1) ∧ e = .returned (.tuple #[.slice none 0 0, .int .i64 (n : Int), .bool false])) ∨
   (∃ (q : List Nat) (y : Nat) (v : Value), e = .returned (.tuple #[v, .int .i64 (n : Int), .bool true]) ∧ w'.ownsRow w.heap.size 3 1 v q.length ((intsP q).map (Value.int .i64)) ∧ q.length ≤ L.length ∧
   runOps ops st q = some y ∧ acc y = true ∧ (∀ r z, runOps ops st r = some z → acc z = true → wayN 4096 1 ops q ≤ wayK f ops r) ∧ (f = 1 → ∃ D : Nat → Bool, n = (L.filter D).length ∧ ExpOk ops L st H (wayN 4096 1 ops q) D)))
theorem AstPostF.one {ops : List Wop} {L : List Nat} {st : Nat} {acc : Nat → Bool} {H : Nat → Int} {w : World} {FH : Nat → Prop} {I : World → Prop} {e : Ending} {w' : World} (h0 : ∀ o ∈ ops, 0 ≤ o.cost ∧ o.cost ≤ 100) (h : AstPostF 1 ops L st acc H w FH I e w') : AstPost ops L st acc H w FH e w' := by
 obtain ⟨h1, _, n, hn, h2⟩ := h
 refine ⟨h1, n, hn, h2.imp (fun h => h) ?_⟩
 rintro ⟨q, y, v, g1, g2, g3, g4, g5, g6, g7⟩
 obtain ⟨k1, k2⟩ := least_one h0 g4 g5 g6
 exact ⟨q, y, _, v, g1, g2, g3, g4, g5, rfl, k1, k2, g7 rfl⟩

/-- Arcs of s that have not come yet. -/
def ToDo (H : Nat → Int) (ops : List Wop) (s : Nat) (l : List Stp) (R : List SArc) : Prop := ∀ a ∈ R, H a.to < 1000000000 ∧ ∃ e ∈ wsteps ops s, a = arcOf e ∧ e ∉ l
theorem ToDo.start (H : Nat → Int) (ops : List Wop) (L : List Nat) (s : Nat) : ToDo H ops s [] (liveG H (nextG ops L) s) := fun a ha => by
 obtain ⟨h1, h2⟩ := List.mem_filter.1 ha
 refine ⟨by simpa using h2, ?_⟩
 unfold nextG at h1
 split at h1
 ·obtain ⟨e, he, rfl⟩ := List.mem_map.1 h1
  exact ⟨e, he, rfl, by simp⟩
 ·cases h1
theorem ToDo.done {H : Nat → Int} {ops : List Wop} {s : Nat} {R : List SArc} (h : ToDo H ops s (wsteps ops s) R) : R = [] := by
 cases R with
 | nil => rfl
 | cons a r => obtain ⟨_, e, h1, _, h2⟩ := h a (by simp); exact absurd h1 h2
theorem ToDo.dead {H : Nat → Int} {ops : List Wop} {s : Nat} {l : List Stp} {R : List SArc} (h : ToDo H ops s l R) {y : Stp} (hy : ¬ H y.to < 1000000000) : ToDo H ops s (l ++ [y]) R := fun a ha => by
 obtain ⟨h1, e, h2, h3, h4⟩ := h a ha
 refine ⟨h1, e, h2, h3, fun hm => ?_⟩
 rcases List.mem_append.1 hm with hm | hm
 ·exact h4 hm
 ·rw [List.mem_singleton] at hm; subst hm; rw [h3] at h1; exact hy h1
theorem SideI.more {G : Nat → List SArc} {S0 : Nat → Prop} {L : List Nat} {C : Int} {P : Nat → Option Int} {par : Nat → Option SArc} {A : List (Int × Int)} {s : Nat} {R R' : List SArc} (h : SideI G S0 L C P par A s R) (hR : ∀ b ∈ R, b ∈ R') : SideI G S0 L C P par A s R' :=
 ⟨h.dom, h.lo, h.start, h.from_, h.key, fun x p hp => (h.pend x p hp).imp (fun h => h) (fun h a ha => (h a ha).imp (fun h => h) (fun h => ⟨h.1, hR a h.2⟩))⟩
/-- The arc of y comes up. -/
theorem AstI.next {f : Int} {ops : List Wop} {L : List Nat} {st : Nat} {acc : Nat → Bool} {H : Nat → Int} {P : Nat → Option Int} {par : Nat → Option SArc} {A : List (Int × Int)} {s : Nat} {R : List SArc} {dn : Nat → Option Unit} (h : AstI f ops L st acc H P par A s R dn) {l : List Stp} (ht : ToDo H ops s l R) (y : Stp) :
  ∃ R', AstI f ops L st acc H P par A s (arcOf y :: R') dn ∧ ToDo H ops s (l ++ [y]) R' := by
 classical
 refine ⟨R.filter fun b => decide (b ≠ arcOf y), ⟨h.i.more (fun b hb => ?_), h.g, h.dIn, h.way, h.seen⟩, fun a ha => ?_⟩
 ·by_cases e : b = arcOf y
  ·rw [e]; simp
  ·exact List.mem_cons_of_mem _ (List.mem_filter.2 ⟨hb, by simpa using e⟩)
 ·obtain ⟨h1, h2⟩ := List.mem_filter.1 ha
  obtain ⟨g1, e, g2, g3, g4⟩ := ht a h1
  refine ⟨g1, e, g2, g3, fun hm => ?_⟩
  rcases List.mem_append.1 hm with hm | hm
  ·exact g4 hm
  ·rw [List.mem_singleton] at hm; subst hm
   have : a ≠ arcOf e := by simpa using h2
   exact this g3
theorem live_step {ops : List Wop} {L : List Nat} {H : Nat → Int} {s : Nat} (hs : s ∈ L) {y : Stp} (hy : y ∈ wsteps ops s) (h : H y.to < 1000000000) : arcOf y ∈ liveG H (nextG ops L) s := by
 unfold liveG nextG
 rw [if_pos hs]
 exact List.mem_filter.2 ⟨List.mem_map.2 ⟨y, hy, rfl⟩, decide_eq_true (show H (arcOf y).to < 1000000000 from h)⟩

/-- Within the loop over the steps of s, when the steps l have come; B: the heap's size ahead of the loop. -/
def AstBI (f : Int) (ops : List Wop) (L : List Nat) (st : Nat) (acc : Nat → Bool) (H : Nat → Int) (w : World) (FH : Nat → Prop) (I : World → Prop) (fn : Value) (b8 b9 b10 mp mr md q : Nat) (dn : Nat → Option Unit) (s : Nat) (ps T0 : Int) (M0 : Nat) (ds : List Deferred) (Bs b12 B : Nat) (l : List Stp) (W : World) : Prop :=
 ∃ (P : Nat → Option Int) (par : Nat → Option SArc) (A : List (Int × Int)) (t : Int) (F : Nat → Prop) (R : List SArc), BestM w FH I fn w.heap.size b8 b9 b10 mp mr md q P (parF st par) dn (liftA H A) t F W ∧ AstI f ops L st acc H P par A s R dn ∧ ToDo H ops s l R ∧ P s = some ps ∧
  0 ≤ t ∧ t + (weightB L 1000000000 P : Int) ≤ T0 ∧ 2 * weightB L 1000000000 P + A.length < M0 ∧ Marks ds W w.heap.size ∧ W.heap[Bs]? = some (.cells #[.int .u32 (s : Int)] 66 (0, 0)) ∧ W.heap[b12]? = some (.cells #[.int .u32 (s : Int)] 66 (0, 0)) ∧
  (∀ k, F k → (k < B ∨ ∃ cs T fr, W.heap[k]? = some (.cells cs T fr)) ∧ k ≠ Bs ∧ k ≠ b12 ∧ Clean W k)
theorem others_of {S : Nat → Prop} {W W' : World} {B : Nat} (hk : Keeps S W W') (hS : ∀ k, S k → k < B ∨ ∃ cs T fr, W.heap[k]? = some (.cells cs T fr)) : ∀ k o, B ≤ k → W.heap[k]? = some o → o.isCells = false → W'.heap[k]? = some o := fun k o hB h0 hc =>
 hk.heap h0 (fun hs => by
  rcases hS k hs with h | ⟨cs, T, fr, h⟩
  ·omega
  ·rw [h] at h0; cases h0; cases hc)
theorem close_of {S : Nat → Prop} {W W' : World} {B n0 Bs : Nat} (hk : Keeps S W W') (hS : ∀ k, S k → n0 ≤ k ∧ (k < B ∨ ∃ cs T fr, W.heap[k]? = some (.cells cs T fr)) ∧ k ≠ Bs) (hn : n0 ≤ W.heap.size) (hB : Bs < W.heap.size) : KeepsFrom B W W' ∧ KpS n0 Bs W W' :=
 ⟨⟨hk.size, others_of hk (fun k h => (hS k h).2.1)⟩, KpS.ofKeeps hk hn (fun k hlt hs => by have := (hS k hs).1; omega) hB (fun hs => (hS _ hs).2.2 rfl)⟩
theorem costLook {w : World} {mb : Nat} {P : Nat → Option Int} (hm : FMap w mb intV P) {x : Nat} {a : Int} (hx : P x = some a) : (Instr.lookup 88 (.map (some mb)) (.int .u32 (x : Int)) false).run Tryz.prog w = .ok (.int .i64 a) w :=
 (hm.look_some (P := Tryz.prog) Tryz.underlying88 Tryz.underlying66 hx).2
theorem costLookT {w : World} {mb : Nat} {P : Nat → Option Int} (hm : FMap w mb intV P) (x : Nat) : ∃ (a : Int) (b : Bool), (Instr.lookup 88 (.map (some mb)) (.int .u32 (x : Int)) true).run Tryz.prog w = .ok (.tuple #[.int .i64 a, .bool b]) w ∧ (b = true → P x = some a) ∧ (b = false → P x = none) := by
 cases hx : P x with
 | none => exact ⟨0, false, (hm.look_none (P := Tryz.prog) Tryz.underlying88 Tryz.underlying66 (show (zeroValue 3).run Tryz.prog w = .ok (.int .i64 0) w by kernel_rfl) hx).1, (fun h => by cases h), fun _ => rfl⟩
 | some a => exact ⟨a, true, (hm.look_some (P := Tryz.prog) Tryz.underlying88 Tryz.underlying66 hx).1, fun _ => rfl, fun h => by cases h⟩
theorem f8_keeps {F S : Nat → Prop} {W W' : World} {B Bs b12 : Nat} (h : ∀ k, F k → (k < B ∨ ∃ cs T fr, W.heap[k]? = some (.cells cs T fr)) ∧ k ≠ Bs ∧ k ≠ b12 ∧ Clean W k) (hk : Keeps S W W') (hs : ∀ k, F k → ¬ S k) (hl : ∀ k, F k → k < W.heap.size) :
  ∀ k, F k → (k < B ∨ ∃ cs T fr, W'.heap[k]? = some (.cells cs T fr)) ∧ k ≠ Bs ∧ k ≠ b12 ∧ Clean W' k := fun k hF =>
 ⟨(h k hF).1.imp (fun h => h) (fun ⟨cs, T, fr, hc⟩ => ⟨cs, T, fr, hk.heap hc (hs k hF)⟩), (h k hF).2.1, (h k hF).2.2.1, (h k hF).2.2.2.keeps hk (hl k hF) (hs k hF)⟩

end Go.Proofs.YtdokakhgflljgaaGreat
