/- The reference's Costs. -/
import Derived.Test.YtcfcmmajlkkabaaSmall
import Derived.Test.YtcfcmmajlkkabaaPrice
namespace Go.Proofs.Ytcfcmmajlkkabaa
open Go.RowKit

/-! ### plain -/
def bigC : Int := 1000000000
inductive Down (A : List Arc) (acc : List Bool) : Nat → Int → Prop
  | nil {i : Nat} : acc[i]? = some true → Down A acc i 0
  | cons {a : Arc} {c : Int} : a ∈ A → Down A acc a.to c → Down A acc a.frm (a.cost + c)

structure CostInv (A : List Arc) (acc : List Bool) (d : List Int) : Prop where
  len : d.length = acc.length
  lo : ∀ x ∈ d, 0 ≤ x ∧ x ≤ bigC
  zero : ∀ i : Nat, acc[i]? = some true → d[i]? = some 0
  real : ∀ (i : Nat) (x : Int), d[i]? = some x → x < bigC → Down A acc i x
def stableC (d : List Int) (a : Arc) : Prop := ∀ y, d[a.to]? = some y → y < bigC → ∃ x, d[a.frm]? = some x ∧ x ≤ y + a.cost
structure CostOk (A : List Arc) (acc : List Bool) (d : List Int) : Prop extends CostInv A acc d where
  relax : ∀ a ∈ A, stableC d a

def weightC (d : List Int) : Nat := (d.map Int.toNat).sum
theorem weightC_set {d : List Int} {i : Nat} {x z : Int} (hi : d[i]? = some x) (hz : 0 ≤ z) (hx : z < x) : weightC (d.set i z) < weightC d := by
  induction d generalizing i with
  | nil => simp at hi
  | cons y r ih =>
    cases i with
    | zero => simp at hi; subst hi; unfold weightC; simp only [List.set_cons_zero, List.map_cons, List.sum_cons]; omega
    | succ i =>
      simp only [List.getElem?_cons_succ] at hi
      have := ih hi
      unfold weightC at this ⊢
      simp only [List.set_cons_succ, List.map_cons, List.sum_cons]; omega
theorem CostInv.step {A : List Arc} {acc : List Bool} {d : List Int} (h : CostInv A acc d) {a : Arc} (ha : a ∈ A) (hc : 0 ≤ a.cost) {x y : Int} (hx : d[a.frm]? = some x) (hy : d[a.to]? = some y) (hyb : y < bigC) (hxy : y + a.cost < x) :
    CostInv A acc (d.set a.frm (y + a.cost)) ∧ weightC (d.set a.frm (y + a.cost)) < weightC d := by
  have hfl := (List.getElem?_eq_some_iff.1 hx).1
  have hy0 := (h.lo y (List.mem_of_getElem? hy)).1
  have hxb := (h.lo x (List.mem_of_getElem? hx)).2
  refine ⟨⟨by rw [List.length_set]; exact h.len, fun z hz => ?_, fun i hi => ?_, fun i z hz hzb => ?_⟩, weightC_set hx (by omega) hxy⟩
  · rcases List.mem_or_eq_of_mem_set hz with hz | rfl
    · exact h.lo z hz
    · omega
  · rw [getElem?_setS]
    by_cases he : a.frm = i
    · have h0 := h.zero i hi
      rw [← he, hx] at h0
      simp only [Option.some.injEq] at h0; omega
    · rw [if_neg (by simp [he])]; exact h.zero i hi
  · rw [getElem?_setS] at hz
    by_cases he : a.frm = i
    · subst he
      rw [if_pos ⟨rfl, hfl⟩] at hz
      simp only [Option.some.injEq] at hz
      rw [← hz, Int.add_comm]
      exact .cons ha (h.real a.to y hy hyb)
    · rw [if_neg (by simp [he])] at hz; exact h.real i z hz hzb
def costStart (acc : List Bool) : List Int := acc.map fun b => if b = true then 0 else bigC
theorem CostInv.start (A : List Arc) (acc : List Bool) : CostInv A acc (costStart acc) := by
  unfold costStart
  refine ⟨by simp, fun x hx => ?_, fun i hi => by rw [List.getElem?_map, hi]; rfl, fun i x hx hb => ?_⟩
  · obtain ⟨b, _, rfl⟩ := List.mem_map.1 hx
    unfold bigC
    cases b <;> simp
  · rw [List.getElem?_map] at hx
    cases hb2 : acc[i]? with
    | none => rw [hb2] at hx; cases hx
    | some b =>
      rw [hb2] at hx
      cases b
      · simp at hx; omega
      · simp at hx; subst hx; exact .nil hb2

/-! ### several rows of ints -/
structure Rws (B : Nat) (W : World) (rs : List (Value × List Value)) : Prop where
  own : ∀ r ∈ rs, W.ownsRow B 3 1 r.1 r.2.length r.2
  apart : rs.Pairwise fun r s => ∀ k, r.1.ownBlock = some k → s.1.ownBlock ≠ some k

theorem Rws.keeps0 {B : Nat} {W W' : World} {rs : List (Value × List Value)} (h : Rws B W rs) (hk : Keeps (fun _ => False) W W') : Rws B W' rs := ⟨fun r hr => hk.ownsRow (h.own r hr) (fun _ _ h => h), h.apart⟩
theorem Rws.other {B : Nat} {W : World} {rs : List (Value × List Value)} (h : Rws B W rs) {i j : Nat} {r s : Value × List Value} (hi : rs[i]? = some r) (hj : rs[j]? = some s) (hne : i ≠ j) : ∀ k, r.1.ownBlock = some k → s.1.ownBlock ≠ some k := by
  obtain ⟨l1, rfl⟩ := List.getElem?_eq_some_iff.1 hi
  obtain ⟨l2, rfl⟩ := List.getElem?_eq_some_iff.1 hj
  intro k hk
  rcases Nat.lt_or_ge i j with hij | hij
  · exact List.pairwise_iff_getElem.1 h.apart i j l1 l2 hij k hk
  · intro e
    exact List.pairwise_iff_getElem.1 h.apart j i l2 l1 (by omega) k e hk
theorem Rws.push {B : Nat} {W Wa W' : World} {rs : List (Value × List Value)} (h : Rws B W rs) {i : Nat} {v v' : Value} {xs xs' : List Value} (hi : rs[i]? = some (v, xs)) (ka : Keeps (fun _ => False) W Wa) (hg : Wa.grownBy W' v.ownBlock)
    (hown : W'.ownsRow B 3 1 v' xs'.length xs') (hat : ∀ k, v'.ownBlock = some k → v.ownBlock = some k ∨ W.heap.size ≤ k) : Rws B W' (rs.set i (v', xs')) := by
  have hk : Keeps (fun k => v.ownBlock = some k) W W' := (ka.mono (fun _ _ h => h.elim)).grown hg (fun k hk => .inl hk)
  have hil := (List.getElem?_eq_some_iff.1 hi).1
  refine ⟨fun r hr => ?_, ?_⟩
  · obtain ⟨j, hj⟩ := List.mem_iff_getElem?.1 hr
    rw [getElem?_setS] at hj
    by_cases hij : i = j
    · rw [if_pos ⟨hij, hil⟩] at hj; cases hj; exact hown
    · rw [if_neg (by simp [hij])] at hj
      exact hk.ownsRow (h.own r (List.mem_of_getElem? hj)) (fun k hk1 hk2 => h.other hi hj hij k hk2 hk1)
  · rw [List.pairwise_iff_getElem]
    intro p q lp lq hpq k hk1 hk2
    have gp : (rs.set i (v', xs'))[p]? = some ((rs.set i (v', xs'))[p]) := List.getElem?_eq_getElem lp
    have gq : (rs.set i (v', xs'))[q]? = some ((rs.set i (v', xs'))[q]) := List.getElem?_eq_getElem lq
    rw [getElem?_setS] at gp gq
    generalize (rs.set i (v', xs'))[p] = r at gp hk1
    generalize (rs.set i (v', xs'))[q] = s at gq hk2
    by_cases hip : i = p
    · rw [if_pos ⟨hip, hil⟩] at gp; cases gp
      rw [if_neg (by omega)] at gq
      rcases hat k hk1 with h1 | h1
      · exact h.other hi gq (by omega) k h1 hk2
      · have := (World.ownsRow.lt (h.own s (List.mem_of_getElem? gq)) k hk2).2; omega
    · rw [if_neg (by simp [hip])] at gp
      by_cases hiq : i = q
      · rw [if_pos ⟨hiq, hil⟩] at gq; cases gq
        rcases hat k hk2 with h1 | h1
        · exact h.other gp hi (by omega) k hk1 h1
        · have := (World.ownsRow.lt (h.own r (List.mem_of_getElem? gp)) k hk1).2; omega
      · rw [if_neg (by simp [hiq])] at gq
        exact h.other gp gq (by omega) k hk1 hk2

end Go.Proofs.Ytcfcmmajlkkabaa
