/- pairs: the values of pairs of facts as a function, in plain Lean. relaxed: Plus, Greatest, Sum. Arrays that are made at once and stored into. pairs: the table in memory, and the walks of value and set. relaxed.Values, Costs. relaxed.Costs, Max, Add. The values of facts and of pairs of facts are admissible, in plain Lean. No condition beyond what each theorem says. -/
import Derived.Test.YtdokakhgflljgaaGreatM9
import Derived.Test.YtdokakhgflljgaaGreatM6
import Derived.Test.YtdokakhgflljgaaGreatM1
import Derived.Test.YtdokakhgflljgaaGreatM2
import Derived.Test.YtdokakhgflljgaaGreatM8

namespace Go.Proofs.YtdokakhgflljgaaGreat

def getT (v : List (List Int)) (p q : Nat) : Int := (v.getD p []).getD q 0
def setT (v : List (List Int)) (p q : Nat) (x : Int) : List (List Int) := v.set p ((v.getD p []).set q x)
/-- The value of a pair is lowered. -/
def lowT (v : List (List Int)) (p q : Nat) (x : Int) : List (List Int) := if x < getT v p q then setT (setT v p q x) q p x else v
def weightT (v : List (List Int)) : Nat := (v.map weightC).sum

structure Tbl (n : Nat) (v : List (List Int)) : Prop where
 len : v.length = n
 row : ∀ (p : Nat) (r : List Int), v[p]? = some r → r.length = n
 low : ∀ p q, 0 ≤ getT v p q ∧ getT v p q ≤ 1000000000
 sym : ∀ p q, getT v p q = getT v q p

theorem getT_at {n : Nat} {v : List (List Int)} (hl : v.length = n) (hr : ∀ (p : Nat) (r : List Int), v[p]? = some r → r.length = n) {p q : Nat} (hp : p < n) (hq : q < n) : ∃ r, v[p]? = some r ∧ r.length = n ∧ r[q]? = some (getT v p q) := by
 obtain ⟨r, h⟩ : ∃ r, v[p]? = some r := ⟨_, List.getElem?_eq_getElem (by omega)⟩
 have h2 := hr p r h
 refine ⟨r, h, h2, ?_⟩
 unfold getT
 rw [List.getD_eq_getElem?_getD, List.getD_eq_getElem?_getD, h]
 simp only [Option.getD_some]
 rw [List.getElem?_eq_getElem (by omega)]; rfl
theorem getT_setT {n : Nat} {v : List (List Int)} (hl : v.length = n) (hr : ∀ (p : Nat) (r : List Int), v[p]? = some r → r.length = n) {p q : Nat} (hp : p < n) (hq : q < n) (x : Int) (a b : Nat) : getT (setT v p q x) a b = if a = p ∧ b = q then x else getT v a b := by
 obtain ⟨r, h1, h2, h3⟩ := getT_at hl hr hp hq
 have hd : v.getD p [] = r := by rw [List.getD_eq_getElem?_getD, h1]; rfl
 unfold setT getT
 rw [hd]
 by_cases ha : a = p
 ·subst ha
  rw [show (v.set a (r.set q x)).getD a [] = r.set q x by rw [List.getD_eq_getElem?_getD, List.getElem?_set_self (by omega)]; rfl, hd]
  by_cases hb : b = q
  ·subst hb
   rw [if_pos ⟨rfl, rfl⟩, List.getD_eq_getElem?_getD, List.getElem?_set_self (by omega)]; rfl
  ·rw [if_neg (fun h => hb h.2), List.getD_eq_getElem?_getD, List.getD_eq_getElem?_getD, List.getElem?_set_ne (fun h => hb h.symm)]
 ·rw [if_neg (fun h => ha h.1), show (v.set p (r.set q x)).getD a [] = v.getD a [] by rw [List.getD_eq_getElem?_getD, List.getElem?_set_ne (fun h => ha h.symm), ← List.getD_eq_getElem?_getD]]
theorem setT_len (v : List (List Int)) (p q : Nat) (x : Int) : (setT v p q x).length = v.length := by unfold setT; rw [List.length_set]
theorem setT_row {n : Nat} {v : List (List Int)} (hl : v.length = n) (hr : ∀ (p : Nat) (r : List Int), v[p]? = some r → r.length = n) {p q : Nat} (hp : p < n) (x : Int) : ∀ (a : Nat) (r : List Int), (setT v p q x)[a]? = some r → r.length = n := by
 intro a r h
 unfold setT at h
 rw [List.getElem?_set] at h
 split at h
 ·rw [if_pos (by omega)] at h
  cases h
  obtain ⟨r', h'⟩ : ∃ r, v[p]? = some r := ⟨_, List.getElem?_eq_getElem (by omega)⟩
  rw [List.length_set, List.getD_eq_getElem?_getD, h']
  exact hr p r' h'
 ·exact hr a r h
theorem weightC_put : ∀ (d : List Int) (i : Nat) (y z : Int), d[i]? = some y → weightC (d.set i z) + y.toNat = weightC d + z.toNat
 | [], i, y, z, h => by simp at h
 | a :: r, 0, y, z, h => by simp at h; subst h; simp [weightC]; omega
 | a :: r, i + 1, y, z, h => by
  have ih := weightC_put r i y z (by simpa using h)
  simp only [List.set_cons_succ]
  unfold weightC at ih ⊢
  simp only [List.map_cons, List.sum_cons]; omega
theorem weightT_put : ∀ (v : List (List Int)) (i : Nat) (r s : List Int), v[i]? = some r → weightT (v.set i s) + weightC r = weightT v + weightC s
 | [], i, y, z, h => by simp at h
 | a :: r, 0, y, z, h => by simp at h; subst h; simp [weightT]; omega
 | a :: r, i + 1, y, z, h => by
  have ih := weightT_put r i y z (by simpa using h)
  simp only [List.set_cons_succ]
  unfold weightT at ih ⊢
  simp only [List.map_cons, List.sum_cons]; omega
theorem weightT_setT {n : Nat} {v : List (List Int)} (hl : v.length = n) (hr : ∀ (p : Nat) (r : List Int), v[p]? = some r → r.length = n) {p q : Nat} (hp : p < n) (hq : q < n) (x : Int) : weightT (setT v p q x) + (getT v p q).toNat = weightT v + x.toNat := by
 obtain ⟨r, h1, h2, h3⟩ := getT_at hl hr hp hq
 have hd : v.getD p [] = r := by rw [List.getD_eq_getElem?_getD, h1]; rfl
 have e1 := weightC_put r q _ x h3
 have e2 := weightT_put v p r (r.set q x) h1
 unfold setT
 rw [hd]
 omega

/-- Nothing rises. -/
def LeT (v v' : List (List Int)) : Prop := ∀ p q, getT v' p q ≤ getT v p q
theorem LeT.rfl' (v : List (List Int)) : LeT v v := fun _ _ => Int.le_refl _
theorem LeT.tr (a b c : List (List Int)) (h : LeT a b) (h' : LeT b c) : LeT a c := fun p q => Int.le_trans (h' p q) (h p q)

theorem lowT_ok {n p q : Nat} {x : Int} (hp : p < n) (hq : q < n) (hx : 0 ≤ x ∧ x ≤ 1000000000) : Okf (Tbl n) weightT LeT (fun v => lowT v p q x) := by
 intro v hv
 simp only
 unfold lowT
 by_cases h : x < getT v p q
 ·rw [if_pos h]
  have l1 : (setT v p q x).length = n := by rw [setT_len, hv.len]
  have r1 := setT_row hv.len hv.row (p := p) (q := q) hp x
  have g : ∀ a b, getT (setT (setT v p q x) q p x) a b = if a = q ∧ b = p then x else if a = p ∧ b = q then x else getT v a b := fun a b => by
   rw [getT_setT l1 r1 hq hp, getT_setT hv.len hv.row hp hq]
  refine ⟨⟨by rw [setT_len, setT_len, hv.len], setT_row l1 r1 hq x, fun a b => ?_, fun a b => ?_⟩, fun a b => ?_, .inr ?_⟩
  ·rw [g]
   split
   ·exact hx
   ·split
    ·exact hx
    ·exact hv.low a b
  ·rw [g, g]
   by_cases h1 : a = q ∧ b = p
   ·rw [if_pos h1]
    by_cases h2 : b = q ∧ a = p
    ·rw [if_pos h2]
    ·rw [if_neg h2, if_pos ⟨h1.2, h1.1⟩]
   ·rw [if_neg h1]
    by_cases h2 : a = p ∧ b = q
    ·rw [if_pos h2, if_pos ⟨h2.2, h2.1⟩]
    ·rw [if_neg h2, if_neg (fun h => h2 ⟨h.2, h.1⟩), if_neg (fun h => h1 ⟨h.2, h.1⟩), hv.sym]
  ·rw [g]
   split
   ·rename_i e; rw [e.1, e.2, hv.sym]; omega
   ·split
    ·rename_i e; rw [e.1, e.2]; omega
    ·exact Int.le_refl _
  ·have w1 := weightT_setT hv.len hv.row hp hq x
   have w2 := weightT_setT l1 r1 hq hp x
   have e : getT (setT v p q x) q p = if q = p ∧ p = q then x else getT v q p := getT_setT hv.len hv.row hp hq x q p
   have hs := hv.sym p q
   have h0 := (hv.low p q).1
   rw [e] at w2
   split at w2
   ·omega
   ·omega
 ·rw [if_neg h]
  exact ⟨hv, LeT.rfl' v, .inl rfl⟩
theorem lowT_done {v : List (List Int)} {n p q : Nat} {x : Int} (hv : Tbl n v) (hp : p < n) (hq : q < n) (hx : 0 ≤ x ∧ x ≤ 1000000000) (h : lowT v p q x = v) : getT v p q ≤ x := by
 by_cases hlt : x < getT v p q
 ·exfalso
  have l1 : (setT v p q x).length = n := by rw [setT_len, hv.len]
  have r1 := setT_row hv.len hv.row (p := p) (q := q) hp x
  have w1 := weightT_setT hv.len hv.row hp hq x
  have w2 := weightT_setT l1 r1 hq hp x
  have e : getT (setT v p q x) q p = if q = p ∧ p = q then x else getT v q p := getT_setT hv.len hv.row hp hq x q p
  have hs := hv.sym p q
  have h0 := (hv.low p q).1
  unfold lowT at h
  rw [if_pos hlt] at h
  rw [h, e] at w2
  split at w2
  ·omega
  ·omega
 ·omega

/-- The greatest value of two facts of a set. -/
def rowP (v : List (List Int)) (set : List Int) (p : Int) (m : Int) (i : Nat) : Int := (set.take i).foldl (fun m q => max m (getT v p.toNat q.toNat)) m
def valK (v : List (List Int)) (set : List Int) (k : Nat) : Int := (List.range k).foldl (fun m i => rowP v set (set.getD i 0) m (i + 1)) 0
def valueP (v : List (List Int)) (set : List Int) : Int := valK v set set.length
theorem rowP_snoc {v : List (List Int)} {set : List Int} {p m q : Int} {i : Nat} (h : set[i]? = some q) : rowP v set p m (i + 1) = max (rowP v set p m i) (getT v p.toNat q.toNat) := by
 unfold rowP
 rw [take_getS h, List.foldl_append]; rfl
theorem valK_snoc {v : List (List Int)} {set : List Int} {p : Int} {k : Nat} (h : set[k]? = some p) : valK v set (k + 1) = rowP v set p (valK v set k) (k + 1) := by
 unfold valK
 rw [List.range_succ, List.foldl_append]
 simp only [List.foldl_cons, List.foldl_nil]
 rw [List.getD_eq_getElem?_getD, h]; rfl

theorem rowP_from (v : List (List Int)) (set : List Int) (p : Int) : ∀ (i : Nat) (m : Int), m ≤ rowP v set p m i ∧ (∀ q ∈ set.take i, getT v p.toNat q.toNat ≤ rowP v set p m i) ∧ ∀ c, m ≤ c → (∀ q ∈ set.take i, getT v p.toNat q.toNat ≤ c) → rowP v set p m i ≤ c := by
 intro i m
 unfold rowP
 generalize set.take i = l
 induction l generalizing m with
 | nil => exact ⟨Int.le_refl _, fun _ h => (List.not_mem_nil h).elim, fun c h _ => h⟩
 | cons q r ih =>
  obtain ⟨h1, h2, h3⟩ := ih (max m (getT v p.toNat q.toNat))
  simp only [List.foldl_cons]
  refine ⟨by omega, fun a ha => ?_, fun c hm hc => h3 c (by have := hc q (by simp); omega) (fun a ha => hc a (by simp [ha]))⟩
  rcases List.mem_cons.1 ha with rfl | ha
  ·omega
  ·exact h2 a ha
theorem valK_from (v : List (List Int)) (set : List Int) : ∀ k, k ≤ set.length → 0 ≤ valK v set k ∧ (∀ (i j : Nat) (p q : Int), i < k → j ≤ i → set[i]? = some p → set[j]? = some q → getT v p.toNat q.toNat ≤ valK v set k) ∧
  ∀ c, 0 ≤ c → (∀ p ∈ set, ∀ q ∈ set, getT v p.toNat q.toNat ≤ c) → valK v set k ≤ c
 | 0, _ => ⟨Int.le_refl _, fun _ _ _ _ h => absurd h (by omega), fun c h _ => h⟩
 | k + 1, hk => by
  obtain ⟨h1, h2, h3⟩ := valK_from v set k (by omega)
  obtain ⟨p, hp⟩ : ∃ p, set[k]? = some p := ⟨_, List.getElem?_eq_getElem (by omega)⟩
  obtain ⟨g1, g2, g3⟩ := rowP_from v set p (k + 1) (valK v set k)
  rw [valK_snoc hp]
  refine ⟨by omega, fun i j p' q' hi hj hp' hq' => ?_, fun c h0 hc => g3 c (h3 c h0 hc) (fun q hq => hc p (List.mem_of_getElem? hp) q (List.mem_of_mem_take hq))⟩
  by_cases hik : i < k
  ·have := h2 i j p' q' hik hj hp' hq'; omega
  ·have hi' : i = k := by omega
   subst hi'
   rw [hp] at hp'; cases hp'
   exact g2 q' (List.mem_iff_getElem?.2 ⟨j, by rw [List.getElem?_take_of_lt (by omega)]; exact hq'⟩)
theorem valueP_low (v : List (List Int)) (set : List Int) : 0 ≤ valueP v set := (valK_from v set _ (Nat.le_refl _)).1
theorem valueP_le {v : List (List Int)} {set : List Int} {c : Int} (h0 : 0 ≤ c) (h : ∀ p ∈ set, ∀ q ∈ set, getT v p.toNat q.toNat ≤ c) : valueP v set ≤ c := (valK_from v set _ (Nat.le_refl _)).2.2 c h0 h
theorem valK_bound {n : Nat} {v : List (List Int)} (hv : Tbl n v) (set : List Int) {k : Nat} (hk : k ≤ set.length) : 0 ≤ valK v set k ∧ valK v set k ≤ 1000000000 :=
 ⟨(valK_from v set k hk).1, (valK_from v set k hk).2.2 _ (by decide) (fun p _ q _ => (hv.low _ _).2)⟩
theorem valueP_bound {n : Nat} {v : List (List Int)} (hv : Tbl n v) (set : List Int) : 0 ≤ valueP v set ∧ valueP v set ≤ 1000000000 := valK_bound hv set (Nat.le_refl _)

/-- All pairs of a fact with the facts of a row. -/
def addAll (v : List (List Int)) (ps : List Int) (p x : Int) : List (List Int) := ps.foldl (fun v q => lowT v p.toNat q.toNat x) v
/-- The union of a set with one fact. -/
def withF (a : List Int) (q : Int) : List Int := updL a [q] []
/-- All pairs of a fact with what an operator leaves. -/
def otherP (v : List (List Int)) (o : Opr) (p : Int) (k : Nat) : List (List Int) :=
 (List.range k).foldl (fun v (q : Nat) => if (q : Int) ∈ o.add ∨ (q : Int) ∈ o.del then v else lowT v p.toNat q (plusI (valueP v (withF o.pre q)) o.cost)) v
def usePK (v : List (List Int)) (o : Opr) (n : Nat) (c : Int) (ps : List Int) : List (List Int) := ps.foldl (fun v p => otherP (addAll v o.add p c) o p n) v
def useP (v : List (List Int)) (o : Opr) (n : Nat) : List (List Int) := usePK v o n (plusI (valueP v o.pre) o.cost) o.add
def opsP (n : Nat) (os : List Opr) (v : List (List Int)) : List (List Int) := os.foldl (fun v o => useP v o n) v

theorem addAll_ok {n : Nat} {ps : List Int} {p x : Int} (hp : 0 ≤ p ∧ p < n) (hps : ∀ q ∈ ps, 0 ≤ q ∧ q < n) (hx : 0 ≤ x ∧ x ≤ 1000000000) : Okf (Tbl n) weightT LeT (fun v => addAll v ps p x) :=
 okf_fold (f := fun (q : Int) v => lowT v p.toNat q.toNat x) LeT.rfl' LeT.tr ps (fun q hq => lowT_ok (by omega) (by have := hps q hq; omega) hx)
theorem otherStep_ok {n : Nat} {o : Opr} {p : Int} {q : Nat} (hp : 0 ≤ p ∧ p < n) (hq : q < n) (hc : 0 ≤ o.cost) :
  Okf (Tbl n) weightT LeT (fun v => if (q : Int) ∈ o.add ∨ (q : Int) ∈ o.del then v else lowT v p.toNat q (plusI (valueP v (withF o.pre q)) o.cost)) := fun v hv => by
 simp only
 split
 ·exact ⟨hv, LeT.rfl' v, .inl rfl⟩
 ·exact lowT_ok (by omega) hq (plusI_low (valueP_bound hv _).1 hc) v hv
theorem otherP_ok {n : Nat} {o : Opr} {p : Int} {k : Nat} (hp : 0 ≤ p ∧ p < n) (hk : k ≤ n) (hc : 0 ≤ o.cost) : Okf (Tbl n) weightT LeT (fun v => otherP v o p k) :=
 okf_fold (f := fun (q : Nat) v => if (q : Int) ∈ o.add ∨ (q : Int) ∈ o.del then v else lowT v p.toNat q (plusI (valueP v (withF o.pre q)) o.cost)) LeT.rfl' LeT.tr (List.range k) (fun q hq => otherStep_ok hp (by have := List.mem_range.1 hq; omega) hc)
theorem usePK_ok {n : Nat} {o : Opr} {c : Int} {ps : List Int} (ha : ∀ p ∈ o.add, 0 ≤ p ∧ p < n) (hps : ∀ p ∈ ps, 0 ≤ p ∧ p < n) (hc : 0 ≤ o.cost) (hx : 0 ≤ c ∧ c ≤ 1000000000) : Okf (Tbl n) weightT LeT (fun v => usePK v o n c ps) :=
 okf_fold (f := fun (p : Int) v => otherP (addAll v o.add p c) o p n) LeT.rfl' LeT.tr ps (fun p hp => okf_comp LeT.tr (addAll_ok (hps p hp) ha hx) (otherP_ok (hps p hp) (Nat.le_refl _) hc))
theorem useP_ok {n : Nat} {o : Opr} (ha : ∀ p ∈ o.add, 0 ≤ p ∧ p < n) (hc : 0 ≤ o.cost) : Okf (Tbl n) weightT LeT (fun v => useP v o n) := fun v hv =>
 usePK_ok ha ha hc (plusI_low (valueP_bound hv _).1 hc) v hv
theorem opsP_ok {n : Nat} {os : List Opr} (h : ∀ o ∈ os, (∀ p ∈ o.add, 0 ≤ p ∧ p < n) ∧ 0 ≤ o.cost) : Okf (Tbl n) weightT LeT (opsP n os) :=
 okf_fold (f := fun (o : Opr) v => useP v o n) LeT.rfl' LeT.tr os (fun o ho => useP_ok (h o ho).1 (h o ho).2)

/-- Where no operator changes anything. -/
theorem opsP_done {n : Nat} {os : List Opr} (h : ∀ o ∈ os, (∀ p ∈ o.add, 0 ≤ p ∧ p < n) ∧ 0 ≤ o.cost) {v : List (List Int)} (hv : Tbl n v) (he : opsP n os v = v) {o : Opr} (ho : o ∈ os) {p : Int} (hp : p ∈ o.add) :
  (∀ q ∈ o.add, getT v p.toNat q.toNat ≤ plusI (valueP v o.pre) o.cost) ∧ ∀ q : Nat, q < n → (q : Int) ∉ o.add → (q : Int) ∉ o.del → getT v p.toNat q ≤ plusI (valueP v (withF o.pre q)) o.cost := by
 obtain ⟨ha, hc⟩ := h o ho
 have e1 := fold_done (f := fun (o : Opr) v => useP v o n) LeT.rfl' LeT.tr os (fun o ho => useP_ok (h o ho).1 (h o ho).2) v hv he o ho
 have hx := plusI_low (valueP_bound hv o.pre).1 hc
 unfold useP usePK at e1
 generalize plusI (valueP v o.pre) o.cost = c at e1 hx ⊢
 have hst : ∀ p ∈ o.add, Okf (Tbl n) weightT LeT (fun v => otherP (addAll v o.add p c) o p n) := fun p hp => okf_comp LeT.tr (addAll_ok (ha p hp) ha hx) (otherP_ok (ha p hp) (Nat.le_refl _) hc)
 have e2 := fold_done (f := fun (p : Int) v => otherP (addAll v o.add p c) o p n) LeT.rfl' LeT.tr o.add hst v hv e1 p hp
 obtain ⟨e3, e4⟩ := comp_done (g := fun v => addAll v o.add p c) (h := fun v => otherP v o p n) (addAll_ok (ha p hp) ha hx) (otherP_ok (ha p hp) (Nat.le_refl _) hc) hv e2
 have hp' := ha p hp
 refine ⟨fun q hq => ?_, fun q hq h1 h2 => ?_⟩
 ·have hq' := ha q hq
  have e5 := fold_done (f := fun (q : Int) v => lowT v p.toNat q.toNat c) LeT.rfl' LeT.tr o.add (fun q hq => lowT_ok (by omega) (by have := ha q hq; omega) hx) v hv e3 q hq
  exact lowT_done hv (by omega) (by omega) hx e5
 ·have e5 := fold_done (f := fun (q : Nat) v => if (q : Int) ∈ o.add ∨ (q : Int) ∈ o.del then v else lowT v p.toNat q (plusI (valueP v (withF o.pre q)) o.cost)) LeT.rfl' LeT.tr (List.range n) (fun q hq => otherStep_ok hp' (List.mem_range.1 hq) hc) v hv e4 q (List.mem_range.2 hq)
  rw [if_neg (fun h => h.elim h1 h2)] at e5
  exact lowT_done hv (by omega) hq (plusI_low (valueP_bound hv _).1 hc) e5

/-- The values at the start. -/
def startT (n : Nat) (s : List Int) : List (List Int) := (List.range n).map fun p : Nat => (List.range n).map fun q : Nat => if (p : Int) ∈ s ∧ (q : Int) ∈ s then 0 else 1000000000
def pairsV (t : Tsk) (s : List Int) : List (List Int) := fixG (opsP t.n.toNat t.ops) (weightT (startT t.n.toNat s)) (startT t.n.toNat s)
theorem startT_get {n : Nat} (s : List Int) {p q : Nat} (hp : p < n) (hq : q < n) : getT (startT n s) p q = if (p : Int) ∈ s ∧ (q : Int) ∈ s then 0 else 1000000000 := by
 unfold getT startT
 rw [List.getD_eq_getElem?_getD, List.getD_eq_getElem?_getD, List.getElem?_map, List.getElem?_range hp]
 simp only [Option.map_some, Option.getD_some]
 rw [List.getElem?_map, List.getElem?_range hq]; rfl
theorem startT_out {n : Nat} (s : List Int) {p q : Nat} (h : ¬ (p < n ∧ q < n)) : getT (startT n s) p q = 0 := by
 unfold getT startT
 rw [List.getD_eq_getElem?_getD, List.getD_eq_getElem?_getD, List.getElem?_map]
 by_cases hp : p < n
 ·rw [List.getElem?_range hp]
  simp only [Option.map_some, Option.getD_some]
  rw [List.getElem?_map, List.getElem?_eq_none (by rw [List.length_range]; omega)]; rfl
 ·rw [List.getElem?_eq_none (l := List.range n) (by rw [List.length_range]; omega)]; rfl
theorem startT_ok (n : Nat) (s : List Int) : Tbl n (startT n s) := by
 refine ⟨by unfold startT; simp, fun p r h => ?_, fun p q => ?_, fun p q => ?_⟩
 ·unfold startT at h
  rw [List.getElem?_map] at h
  cases hp : (List.range n)[p]? with
  | none => rw [hp] at h; cases h
  | some a => rw [hp] at h; cases h; simp
 ·by_cases h : p < n ∧ q < n
  ·rw [startT_get s h.1 h.2]; split <;> decide
  ·rw [startT_out s h]; decide
 ·by_cases h : p < n ∧ q < n
  ·rw [startT_get s h.1 h.2, startT_get s h.2 h.1]
   by_cases h1 : (p : Int) ∈ s ∧ (q : Int) ∈ s
   ·rw [if_pos h1, if_pos ⟨h1.2, h1.1⟩]
   ·rw [if_neg h1, if_neg (fun h => h1 ⟨h.2, h.1⟩)]
  ·rw [startT_out s h, startT_out s (fun h' => h ⟨h'.2, h'.1⟩)]
theorem pairs_need {t : Tsk} (ok : t.Ok) : ∀ o ∈ t.ops, (∀ p ∈ o.add, 0 ≤ p ∧ p < (t.n.toNat : Int)) ∧ 0 ≤ o.cost := fun o ho => by
 have h := ok.ops o ho
 have h0 := ok.n0
 exact ⟨fun p hp => by have := (isSet_iff.1 h.add).1 p hp; omega, h.cost0⟩
theorem pairsV_spec {t : Tsk} (ok : t.Ok) (s : List Int) : Tbl t.n.toNat (pairsV t s) ∧ LeT (startT t.n.toNat s) (pairsV t s) ∧ opsP t.n.toNat t.ops (pairsV t s) = pairsV t s :=
 fixG_spec (opsP_ok (pairs_need ok)) LeT.rfl' LeT.tr _ _ (startT_ok _ s) (Nat.le_refl _)
/-- What pairs.Goal says of a state. -/
def pairsH (t : Tsk) (x : Nat) : Int := valueP (pairsV t (facts x)) t.goal

end Go.Proofs.YtdokakhgflljgaaGreat

namespace Go.Proofs.YtdokakhgflljgaaGreat
open Go.RowKit Go.Shelf

set_option maxHeartbeats 1000000 in
theorem plus_any (w : World) (a b : Int) (ha : 0 ≤ a ∧ a ≤ 1000000000) (hb : 0 ≤ b ∧ b ≤ 1000000000) :
  Calls Tryz.prog 117 #[.int .i64 a, .int .i64 b] w fun e w' => e = .returned (.int .i64 (plusI a b)) ∧ w = w' := by
 by_cases h1 : a = 1000000000
 ·have hr : Hid (plusI a b = 1000000000) := by unfold Hid plusI; rw [if_pos (.inl h1)]
  subst h1
  go_enter Tryz.func117, Tryz.ntmps117
  go_wp2_with fail
  go_ret
  exact ⟨congrArg (fun x => Ending.returned (Value.int .i64 x)) hr.out.symm, rfl⟩
 ·have h1' : (a == 1000000000) = false := by simp [h1]
  by_cases h2 : b = 1000000000
  ·have hr : Hid (plusI a b = 1000000000) := by unfold Hid plusI; rw [if_pos (.inr h2)]
   subst h2
   go_enter Tryz.func117, Tryz.ntmps117
   go_wp2_with fail
   go_ret
   exact ⟨congrArg (fun x => Ending.returned (Value.int .i64 x)) hr.out.symm, rfl⟩
  ·have h2' : (b == 1000000000) = false := by simp [h2]
   have hr : Hid (plusI a b = min (a + b) 999999999) := by unfold Hid plusI; rw [if_neg (by omega)]
   have hs : 0 ≤ a + b ∧ a + b ≤ 2000000000 := by omega
   have hw : IntKind.i64.wrap (a + b) = a + b := IntWalk.i64_in _ (by omega)
   clear h1 h2
   go_enter Tryz.func117, Tryz.ntmps117
   go_wp2_with fail
   skip
   go_ret
   exact ⟨congrArg (fun x => Ending.returned (Value.int .i64 x)) hr.out.symm, rfl⟩

theorem getV_cell {w : World} {b off : Nat} {v : List Int} (h : ∀ (j : Nat) (x : Int), v[j]? = some x → w.cell? ⟨b, off + j, none⟩ = some (.int .i64 x)) {p : Int} (hp : 0 ≤ p ∧ p < v.length) : ∃ k : Nat, p = (k : Int) ∧ k < v.length ∧ w.cell? ⟨b, off + k, none⟩ = some (.int .i64 (getV v p)) := by
 obtain ⟨k, rfl⟩ := Int.eq_ofNat_of_zero_le hp.1
 have hk : k < v.length := by omega
 refine ⟨k, rfl, hk, h k _ ?_⟩
 unfold getV
 rw [List.getD_eq_getElem?_getD, Int.toNat_natCast, List.getElem?_eq_getElem hk]; rfl

theorem greatL_snoc (v ps : List Int) (p : Int) : greatL v (ps ++ [p]) = max (greatL v ps) (getV v p) := by unfold greatL; rw [List.foldl_append]; rfl
theorem sumL_snoc (v ps : List Int) (p : Int) : sumL v (ps ++ [p]) = plusI (sumL v ps) (getV v p) := by unfold sumL; rw [List.foldl_append]; rfl

set_option maxHeartbeats 1000000 in
theorem greatest_any (w : World) (vv vp : Value) (v ps : List Int) (hv : Ints w vv v) (hp : Ints w vp ps) (hb : ∀ p ∈ ps, 0 ≤ p ∧ p < v.length) (hlo : ∀ y ∈ v, 0 ≤ y ∧ y ≤ 1000000000) :
  Calls Tryz.prog 92 #[vv, vp] w fun e w' => e = .returned (.int .i64 (greatL v ps)) ∧ w = w' := by
 obtain ⟨av, cv, hvv, mv⟩ := hv.form
 obtain ⟨ap, cp, hvp, mp⟩ := hp.form
 have CV := Lib.hid (hv.cell hvv)
 have CP := Lib.hid (hp.cell hvp)
 subst hvv hvp
 have HB := Lib.hid hb; have HL := Lib.hid hlo
 clear hv hp hb hlo
 go_enter Tryz.func92, Tryz.ntmps92
 go_wp2_with fail
 go_loop [5, 10] (fun m i => ∃ k : Nat, k ≤ ps.length ∧ i = .int .i64 (k : Int) ∧ m = .int .i64 (greatL v (ps.take k))) (fun _ i => ps.length - (intOf i).toNat)
 case atStart => exact ⟨0, Nat.zero_le _, rfl, rfl⟩
 case round =>
  obtain ⟨k, hk, rfl, rfl⟩ := hrel
  by_cases hlt : k < ps.length
  ·obtain ⟨bp, op, rfl, hcp⟩ := CP.out (by omega)
   obtain ⟨p, hpk⟩ : ∃ p, ps[k]? = some p := ⟨_, List.getElem?_eq_getElem hlt⟩
   have hpb := HB.out p (List.mem_of_getElem? hpk)
   obtain ⟨bv, ov, rfl, hcv⟩ := CV.out (by omega)
   obtain ⟨j, rfl, hj, hcell⟩ := getV_cell hcv hpb
   have hc1 := hcp k _ hpk
   have HR := Lib.hid (show greatL v (ps.take (k + 1)) = max (greatL v (ps.take k)) (getV v (j : Int)) by
    rw [List.take_succ_eq_append_getElem hlt, (List.getElem?_eq_some_iff.1 hpk).2, greatL_snoc])
   have hji : (j : Int) < (v.length : Int) := by omega
   clear hcp hcv hpk hpb
   generalize greatL v (ps.take k) = m at HR ⊢
   generalize getV v (j : Int) = x at hcell HR ⊢
   go_wp2_with fail
   go_round
   case rel => exact ⟨k + 1, by omega, by go_num, by rw [HR.out]⟩
   case measure => simp [intOf]; omega
  ·have hr := Lib.hid (show greatL v ps = greatL v (ps.take k) by rw [List.take_of_length_le (by omega)])
   go_wp2_with fail
   go_ret
   exact ⟨congrArg (fun x => Ending.returned (Value.int .i64 x)) hr.out.symm, rfl⟩

set_option maxHeartbeats 1000000 in
theorem sum_any (w : World) (vv vp : Value) (v ps : List Int) (hv : Ints w vv v) (hp : Ints w vp ps) (hb : ∀ p ∈ ps, 0 ≤ p ∧ p < v.length) (hlo : ∀ y ∈ v, 0 ≤ y ∧ y ≤ 1000000000) :
  Calls Tryz.prog 93 #[vv, vp] w fun e w' => e = .returned (.int .i64 (sumL v ps)) ∧ w = w' := by
 obtain ⟨av, cv, hvv, mv⟩ := hv.form
 obtain ⟨ap, cp, hvp, mp⟩ := hp.form
 have CV := Lib.hid (hv.cell hvv)
 have CP := Lib.hid (hp.cell hvp)
 subst hvv hvp
 have HB := Lib.hid hb; have HL := Lib.hid hlo
 clear hv hp hb hlo
 go_enter Tryz.func93, Tryz.ntmps93
 go_wp2_with fail
 go_loop [5, 10] (fun m i => ∃ k : Nat, k ≤ ps.length ∧ i = .int .i64 (k : Int) ∧ m = .int .i64 (sumL v (ps.take k))) (fun _ i => ps.length - (intOf i).toNat)
 case atStart => exact ⟨0, Nat.zero_le _, rfl, rfl⟩
 case round =>
  obtain ⟨k, hk, rfl, rfl⟩ := hrel
  by_cases hlt : k < ps.length
  ·obtain ⟨bp, op, rfl, hcp⟩ := CP.out (by omega)
   obtain ⟨p, hpk⟩ : ∃ p, ps[k]? = some p := ⟨_, List.getElem?_eq_getElem hlt⟩
   have hpb := HB.out p (List.mem_of_getElem? hpk)
   obtain ⟨bv, ov, rfl, hcv⟩ := CV.out (by omega)
   obtain ⟨j, rfl, hj, hcell⟩ := getV_cell hcv hpb
   have hc1 := hcp k _ hpk
   have HR := Lib.hid (show sumL v (ps.take (k + 1)) = plusI (sumL v (ps.take k)) (getV v (j : Int)) by
    rw [List.take_succ_eq_append_getElem hlt, (List.getElem?_eq_some_iff.1 hpk).2, sumL_snoc])
   have hji : (j : Int) < (v.length : Int) := by omega
   have hm := comb_sum v (ps.take k) HL.out
   have hx := getV_low HL.out (j : Int)
   clear hcp hcv hpk hpb
   generalize sumL v (ps.take k) = m at HR hm ⊢
   generalize getV v (j : Int) = x at hcell HR hx ⊢
   go_wp2_with fail
   refine (plus_any w m x hm hx).mono ?_; rintro e w' ⟨rfl, rfl⟩
   go_wp2_with fail
   go_round
   case rel => exact ⟨k + 1, by omega, by go_num, by rw [HR.out]⟩
   case measure => simp [intOf]; omega
  ·have hr := Lib.hid (show sumL v ps = sumL v (ps.take k) by rw [List.take_of_length_le (by omega)])
   go_wp2_with fail
   go_ret
   exact ⟨congrArg (fun x => Ending.returned (Value.int .i64 x)) hr.out.symm, rfl⟩

end Go.Proofs.YtdokakhgflljgaaGreat

namespace Go.Proofs.YtdokakhgflljgaaGreat
open Go.RowKit

/-- A block that is an array of the values xs. -/
def Arr (W : World) (g : Nat) (T : TypeId) (xs : List Value) : Prop := W.heap[g]? = some (.cells xs.toArray T (0, 0))
/-- An array of ints. -/
def IArr (W : World) (g : Nat) (l : List Int) : Prop := Arr W g 3 (l.map (Value.int .i64))
/-- An array of truth values. -/
def BArr (W : World) (g : Nat) (l : List Bool) : Prop := Arr W g 4 (l.map Value.bool)

section
variable {W W' : World} {g : Nat} {T : TypeId} {xs : List Value}
theorem Arr.cell (h : Arr W g T xs) {i : Nat} {u : Value} (hx : xs[i]? = some u) : W.cell? ⟨g, i, none⟩ = some u := by rw [cell_of_blk h]; simpa using hx
theorem Arr.frozen (h : Arr W g T xs) (i : Nat) : W.frozen? ⟨g, i, none⟩ = false := frozen_of_blk h
theorem Arr.lt (h : Arr W g T xs) : g < W.heap.size := lt_of_heap h
theorem Arr.set (h : Arr W g T xs) (i : Nat) (u : Value) : Arr (W.setCell ⟨g, i, none⟩ u) g T (xs.set i u) := by
 unfold Arr at *
 rw [blk_set_same h]; simp
theorem Arr.keeps {S : Nat → Prop} (h : Arr W g T xs) (hk : Keeps S W W') (hs : ¬ S g) : Arr W' g T xs := hk.heap h hs
theorem Arr.new (W : World) (T : TypeId) (xs : List Value) : Arr (W.alloc (.cells xs.toArray T)) W.heap.size T xs := heap_alloc_new W _
theorem keeps_set (W : World) (g i : Nat) (u : Value) : Keeps (fun b => b = g) W (W.setCell ⟨g, i, none⟩ u) := (Keeps.refl (fun b => b = g) W).setCell (p := ⟨g, i, none⟩) (.inl rfl) _
end

section
variable {W W' : World} {g : Nat} {l : List Int}
theorem IArr.cell (h : IArr W g l) {i : Nat} {x : Int} (hx : l[i]? = some x) : W.cell? ⟨g, i, none⟩ = some (.int .i64 x) := Arr.cell h (by rw [List.getElem?_map, hx]; rfl)
theorem IArr.frozen (h : IArr W g l) (i : Nat) : W.frozen? ⟨g, i, none⟩ = false := Arr.frozen h i
theorem IArr.lt (h : IArr W g l) : g < W.heap.size := Arr.lt h
theorem IArr.set (h : IArr W g l) (i : Nat) (x : Int) : IArr (W.setCell ⟨g, i, none⟩ (.int .i64 x)) g (l.set i x) := by
 unfold IArr; rw [List.map_set]; exact Arr.set h i _
theorem IArr.keeps {S : Nat → Prop} (h : IArr W g l) (hk : Keeps S W W') (hs : ¬ S g) : IArr W' g l := Arr.keeps h hk hs
theorem IArr.new (W : World) (l : List Int) : IArr (W.alloc (.cells (l.map (Value.int .i64)).toArray 3)) W.heap.size l := Arr.new W _ _
theorem IArr.own (h : IArr W g l) {base : Nat} (hb : base ≤ g) (hm : l.length ≤ maxLen) : W.ownsRow base 3 1 (.slice (some ⟨g, 0, none⟩) l.length l.length) l.length (l.map (Value.int .i64)) := by
 refine ⟨by simp, .inr ⟨g, l.length, (l.map (Value.int .i64)).toArray, rfl, hb, h, Nat.le_refl _, hm, by simp, ?_⟩⟩
 simp only [Nat.mul_one]
 exact List.take_of_length_le (by simp)
theorem IArr.ints (h : IArr W g l) (hm : l.length ≤ maxLen) : Ints W (.slice (some ⟨g, 0, none⟩) l.length l.length) l := Ints.of_own (h.own (Nat.zero_le _) hm)
theorem IArr.zeros (W : World) (n : Nat) : IArr (W.alloc (.cells (Array.replicate n (Value.int .i64 0)) 3)) W.heap.size (List.replicate n 0) := by
 have h := IArr.new W (List.replicate n 0)
 rw [List.map_replicate, List.toArray_replicate] at h
 exact h
/-- make([]int, n). -/
theorem run_make_ints (W : World) (c : Int) (n : Nat) (hc : c = (n : Int)) (hn : n ≤ 100000) :
  (Instr.makeSlice 22 (.int .i64 c) (.int .i64 c)).run Tryz.prog W = .ok (.slice (some ⟨W.heap.size, 0, none⟩) n n) (W.alloc (.cells (Array.replicate n (Value.int .i64 0)) 3)) := by
 subst hc
 obtain ⟨i0, hi0, hz0, hz1, hz2⟩ := info_parts Tryz.info3
 have hr := run_make (P := Tryz.prog) W 22 3 i0 _ Tryz.underlying22 hi0 hz0 .i64 .i64 n n (by omega) (Int.le_refl _) (by rw [hz2]; omega) (by omega)
 have e : madeCells (Value.cells (.int .i64 0)) n = Array.replicate n (Value.int .i64 0) := by
  apply Array.ext
  ·simp [madeCells]
  ·intro i h1 h2
   simp [madeCells, Value.cells]
   rw [Nat.mod_one]; rfl
 rw [hr, hz1]
 simp only [Int.toNat_natCast, Nat.mul_one]
 rw [e]
end

section
variable {W W' : World} {g : Nat} {l : List Bool}
theorem BArr.cell (h : BArr W g l) {i : Nat} {x : Bool} (hx : l[i]? = some x) : W.cell? ⟨g, i, none⟩ = some (.bool x) := Arr.cell h (by rw [List.getElem?_map, hx]; rfl)
theorem BArr.frozen (h : BArr W g l) (i : Nat) : W.frozen? ⟨g, i, none⟩ = false := Arr.frozen h i
theorem BArr.lt (h : BArr W g l) : g < W.heap.size := Arr.lt h
theorem BArr.set (h : BArr W g l) (i : Nat) (x : Bool) : BArr (W.setCell ⟨g, i, none⟩ (.bool x)) g (l.set i x) := by
 unfold BArr; rw [List.map_set]; exact Arr.set h i _
theorem BArr.keeps {S : Nat → Prop} (h : BArr W g l) (hk : Keeps S W W') (hs : ¬ S g) : BArr W' g l := Arr.keeps h hk hs
theorem Tryz.info_boolA : (Tryz.prog.info? 4).map (fun i => (i.zero, i.size, i.bytes)) = some (some (.bool false), 1, 1) := by kernel_rfl
theorem BArr.falses (W : World) (n : Nat) : BArr (W.alloc (.cells (Array.replicate n (Value.bool false)) 4)) W.heap.size (List.replicate n false) := by
 have h := Arr.new W 4 ((List.replicate n false).map Value.bool)
 rw [List.map_replicate, List.toArray_replicate] at h
 unfold BArr; rw [List.map_replicate]
 exact h
/-- make([]bool, n). -/
theorem run_make_bools (W : World) (c : Int) (n : Nat) (hc : c = (n : Int)) (hn : n ≤ 100000) :
  (Instr.makeSlice 44 (.int .i64 c) (.int .i64 c)).run Tryz.prog W = .ok (.slice (some ⟨W.heap.size, 0, none⟩) n n) (W.alloc (.cells (Array.replicate n (Value.bool false)) 4)) := by
 subst hc
 obtain ⟨i0, hi0, hz0, hz1, hz2⟩ := info_parts Tryz.info_boolA
 have hr := run_make (P := Tryz.prog) W 44 4 i0 _ Tryz.underlying44 hi0 hz0 .i64 .i64 n n (by omega) (Int.le_refl _) (by rw [hz2]; omega) (by omega)
 have e : madeCells (Value.cells (.bool false)) n = Array.replicate n (Value.bool false) := by
  apply Array.ext
  ·simp [madeCells]
  ·intro i h1 h2
   simp [madeCells, Value.cells]
   rw [Nat.mod_one]; rfl
 rw [hr, hz1]
 simp only [Int.toNat_natCast, Nat.mul_one]
 rw [e]
end

end Go.Proofs.YtdokakhgflljgaaGreat

namespace Go.Proofs.YtdokakhgflljgaaGreat
open Go.RowKit Go.Shelf

/-- A block of rows, each an array of its own. -/
structure Tab (W : World) (gT n : Nat) (rs : List Nat) (v : List (List Int)) : Prop where
 top : Arr W gT 22 (rs.map fun g => Value.slice (some ⟨g, 0, none⟩) n n)
 len : rs.length = n
 vlen : v.length = n
 row : ∀ (p g : Nat) (r : List Int), rs[p]? = some g → v[p]? = some r → IArr W g r ∧ r.length = n
 nodup : rs.Nodup
 out : gT ∉ rs

section
variable {W W' : World} {gT n : Nat} {rs : List Nat} {v : List (List Int)}
theorem Tab.keeps {S : Nat → Prop} (h : Tab W gT n rs v) (hk : Keeps S W W') (h1 : ¬ S gT) (h2 : ∀ g ∈ rs, ¬ S g) : Tab W' gT n rs v :=
 ⟨h.top.keeps hk h1, h.len, h.vlen, fun p g r hg hr => ⟨(h.row p g r hg hr).1.keeps hk (h2 g (List.mem_of_getElem? hg)), (h.row p g r hg hr).2⟩, h.nodup, h.out⟩
theorem Tab.keeps0 (h : Tab W gT n rs v) (hk : Keeps (fun _ => False) W W') : Tab W' gT n rs v := h.keeps hk (fun h => h) (fun _ _ h => h)
theorem Tab.get (h : Tab W gT n rs v) {p : Nat} (hp : p < n) : ∃ g, rs[p]? = some g ∧ g ∈ rs ∧ W.cell? ⟨gT, p, none⟩ = some (.slice (some ⟨g, 0, none⟩) n n) ∧ g < W.heap.size ∧ gT < W.heap.size ∧
  (∀ q, q < n → W.cell? ⟨g, q, none⟩ = some (.int .i64 (getT v p q))) ∧ ∀ q, W.frozen? ⟨g, q, none⟩ = false := by
 obtain ⟨g, hg⟩ : ∃ g, rs[p]? = some g := ⟨_, List.getElem?_eq_getElem (by have := h.len; omega)⟩
 obtain ⟨r, hr1, hr2, _⟩ := getT_at (p := p) (q := p) h.vlen (fun a r hr => by
  obtain ⟨g', hg'⟩ : ∃ g, rs[a]? = some g := ⟨_, List.getElem?_eq_getElem (by have := h.len; have := h.vlen; have := (List.getElem?_eq_some_iff.1 hr).1; omega)⟩
  exact (h.row a g' r hg' hr).2) hp hp
 obtain ⟨ha, _⟩ := h.row p g r hg hr1
 refine ⟨g, hg, List.mem_of_getElem? hg, h.top.cell (by rw [List.getElem?_map, hg]; rfl), ha.lt, h.top.lt, fun q hq => ?_, fun q => ha.frozen q⟩
 refine ha.cell ?_
 have hd : v.getD p [] = r := by rw [List.getD_eq_getElem?_getD, hr1]; rfl
 unfold getT
 rw [hd, List.getD_eq_getElem?_getD, List.getElem?_eq_getElem (by omega)]; rfl
theorem Tab.set (h : Tab W gT n rs v) {p g : Nat} (hg : rs[p]? = some g) (q : Nat) (x : Int) : Tab (W.setCell ⟨g, q, none⟩ (.int .i64 x)) gT n rs (setT v p q x) := by
 have hgm := List.mem_of_getElem? hg
 have hpl := (List.getElem?_eq_some_iff.1 hg).1
 refine ⟨h.top.keeps (keeps_set W g q _) (fun e => h.out (e ▸ hgm)), h.len, by rw [setT_len]; exact h.vlen, fun a g' r hg' hr => ?_, h.nodup, h.out⟩
 obtain ⟨r0, hr0⟩ : ∃ r, v[p]? = some r := ⟨_, List.getElem?_eq_getElem (by have := h.len; have := h.vlen; omega)⟩
 have hd : v.getD p [] = r0 := by rw [List.getD_eq_getElem?_getD, hr0]; rfl
 unfold setT at hr
 rw [hd, List.getElem?_set] at hr
 split at hr
 ·rename_i e
  subst e
  rw [hg] at hg'
  cases hg'
  rw [if_pos (List.getElem?_eq_some_iff.1 hr0).1] at hr
  cases hr
  obtain ⟨a1, a2⟩ := h.row p g r0 hg hr0
  exact ⟨a1.set q x, by rw [List.length_set]; exact a2⟩
 ·rename_i e
  obtain ⟨a1, a2⟩ := h.row a g' r hg' hr
  refine ⟨a1.keeps (keeps_set W g q _) (fun e2 => e ?_), a2⟩
  subst e2
  exact (List.getElem?_inj hpl h.nodup).1 (by rw [hg, hg'])
end

set_option maxRecDepth 100000 in
set_option maxHeartbeats 4000000 in
theorem pvalue_any (w : World) (gT n : Nat) (rs : List Nat) (v : List (List Int)) (vs : Value) (S : List Int) (hT : Tab w gT n rs v) (hs : Ints w vs S) (hb : ∀ p ∈ S, 0 ≤ p ∧ p < (n : Int)) :
  Calls Tryz.prog 102 #[.slice (some ⟨gT, 0, none⟩) n n, vs] w fun e w' => e = .returned (.int .i64 (valueP v S)) ∧ w = w' := by
 obtain ⟨ao, cap, hv, hm, hcap⟩ := hs.formC
 have CS := Lib.hid (hs.cell hv)
 subst hv
 have HT := Lib.hid hT; have HB := Lib.hid hb
 clear hs hT hb
 go_enter Tryz.func102, Tryz.ntmps102
 go_wp2_with fail
 go_loop [5, 12] (fun m i => ∃ k : Nat, k ≤ S.length ∧ i = .int .i64 (k : Int) ∧ m = .int .i64 (valK v S k)) (fun _ i => S.length - (intOf i).toNat)
 case atStart => exact ⟨0, Nat.zero_le _, rfl, rfl⟩
 case round =>
  obtain ⟨k, hk, rfl, rfl⟩ := hrel
  by_cases hlt : k < S.length
  ·obtain ⟨bs, os, rfl, hcs⟩ := CS.out (by omega)
   obtain ⟨p, hpk⟩ : ∃ p, S[k]? = some p := ⟨_, List.getElem?_eq_getElem hlt⟩
   have hpb := HB.out p (List.mem_of_getElem? hpk)
   obtain ⟨p, rfl⟩ := Int.eq_ofNat_of_zero_le hpb.1
   have hp : p < n := by omega
   have hc1 := hcs k _ hpk
   have HCS := Lib.hid hcs
   have HR := Lib.hid (valK_snoc (v := v) hpk)
   have hcap2 : ((k : Int) + 1) ≤ (cap : Int) := by omega
   have hcap3 : ((k : Int) + 1).toNat = k + 1 := by omega
   clear hcs hpb hpk
   go_wp2_with fail
   go_loop [5, 22] (fun m i => ∃ j : Nat, j ≤ k + 1 ∧ i = .int .i64 (j : Int) ∧ m = .int .i64 (rowP v S (p : Int) (valK v S k) j)) (fun _ i => k + 1 - (intOf i).toNat)
   case atStart => exact ⟨0, Nat.zero_le _, rfl, rfl⟩
   case round =>
    obtain ⟨j, hj, rfl, rfl⟩ := hrel
    by_cases hjl : j < k + 1
    ·obtain ⟨q, hqk⟩ : ∃ q, S[j]? = some q := ⟨_, List.getElem?_eq_getElem (by omega)⟩
     have hqb := HB.out q (List.mem_of_getElem? hqk)
     obtain ⟨q, rfl⟩ := Int.eq_ofNat_of_zero_le hqb.1
     have hq : q < n := by omega
     have hc2 := HCS.out j _ hqk
     obtain ⟨g, _, _, hg1, hg2, hg3, hg4, _⟩ := HT.out.get hp
     have hc3 := hg4 q hq
     have HR2 := Lib.hid (rowP_snoc (v := v) (p := (p : Int)) (m := valK v S k) hqk)
     have hqi : (q : Int) < (n : Int) := by omega
     have hpi : (p : Int) < (n : Int) := by omega
     clear hqb hqk hg4
     generalize rowP v S (p : Int) (valK v S k) j = m at HR2 ⊢
     go_wp2_with fail
     go_round
     case rel => exact ⟨j + 1, by omega, by go_num, by rw [HR2.out]; rfl⟩
     case measure => simp [intOf]; omega
    ·obtain rfl : j = k + 1 := by omega
     go_wp2_with fail
     go_round
     case rel => exact ⟨k + 1, by omega, by go_num, by rw [HR.out]⟩
     case measure => simp [intOf]; omega
  ·have hr := Lib.hid (show valueP v S = valK v S k by unfold valueP; rw [show S.length = k by omega])
   go_wp2_with fail
   go_ret
   exact ⟨congrArg (fun x => Ending.returned (Value.int .i64 x)) hr.out.symm, rfl⟩

set_option maxRecDepth 100000 in
set_option maxHeartbeats 4000000 in
theorem pset_any (w : World) (gT n : Nat) (rs : List Nat) (v : List (List Int)) (p q : Nat) (x : Int) (hT : Tab w gT n rs v) (hp : p < n) (hq : q < n) :
  Calls Tryz.prog 133 #[.slice (some ⟨gT, 0, none⟩) n n, .int .i64 (p : Int), .int .i64 (q : Int), .int .i64 x] w fun e w' =>
   e = .returned (.bool (decide (x < getT v p q))) ∧ Tab w' gT n rs (lowT v p q x) ∧ Keeps (fun b => b ∈ rs) w w' := by
 obtain ⟨g, g0, g1, g2, g3, g4, g5, g6⟩ := hT.get hp
 obtain ⟨h, h0, h1, h2, h3, _, h5, h6⟩ := hT.get hq
 have c1 := g5 q hq
 have c2 := h5 p hp
 have f1 := g6 q
 have f2 := h6 p
 obtain ⟨h', e', _, _, _, _, r5, r6⟩ := (hT.set g0 q x).get hq
 rw [h0] at e'
 cases e'
 have c3 := r5 p hp
 have f3 := r6 p
 clear r5 r6
 have hpi : (p : Int) < (n : Int) := by omega
 have hqi : (q : Int) < (n : Int) := by omega
 have HF := Lib.hid (show x < getT v p q → Tab ((w.setCell ⟨g, q, none⟩ (.int .i64 x)).setCell ⟨h, p, none⟩ (.int .i64 x)) gT n rs (lowT v p q x) ∧ Keeps (fun b => b ∈ rs) w ((w.setCell ⟨g, q, none⟩ (.int .i64 x)).setCell ⟨h, p, none⟩ (.int .i64 x)) from fun hlt => by
  have t2 := (hT.set g0 q x).set h0 p x
  refine ⟨by unfold lowT; rw [if_pos hlt]; exact t2, ?_⟩
  exact ((Keeps.refl (fun b => b ∈ rs) w).setCell (p := ⟨g, q, none⟩) (.inl g1) _).setCell (p := ⟨h, p, none⟩) (.inl h1) _)
 have HT := Lib.hid hT
 clear hT g5 g6 h5 h6
 go_enter Tryz.func133, Tryz.ntmps133
 by_cases hlt : x < getT v p q
 ·have hd : decide (getT v p q ≤ x) = false := by simp; omega
  have HD := Lib.hid (show decide (x < getT v p q) = true by simpa using hlt)
  have HL := Lib.hid (HF.out hlt)
  clear hlt
  generalize getT v p q = y at c1 hd HD ⊢
  generalize getT (setT v p q x) q p = y3 at c3
  go_wp2_with fail
  go_region
  all_goals
   go_wp2
   go_ret
   exact ⟨congrArg (fun x => Ending.returned (Value.bool x)) HD.out.symm, HL.out.1.keeps0 (Keeps.refl (fun _ => False) _).drew, HL.out.2.drew⟩
 ·have hd : decide (getT v p q ≤ x) = true := by simp; omega
  have HD := Lib.hid (show decide (x < getT v p q) = false by simpa using hlt)
  have HL := Lib.hid (show lowT v p q x = v by unfold lowT; rw [if_neg hlt])
  clear hlt
  generalize getT v p q = y at c1 hd HD ⊢
  go_wp2_with fail
  go_ret
  exact ⟨congrArg (fun x => Ending.returned (Value.bool x)) HD.out.symm, by rw [HL.out]; exact HT.out, Keeps.refl _ _⟩

end Go.Proofs.YtdokakhgflljgaaGreat

namespace Go.Proofs.YtdokakhgflljgaaGreat
open Go.RowKit Go.Shelf

/-- A function value that combines values. -/
def CombF (g : Nat) (comb : List Int → List Int → Int) : Prop := ∀ (W : World) (vv vp : Value) (v ps : List Int), Ints W vv v → Ints W vp ps → (∀ p ∈ ps, 0 ≤ p ∧ p < v.length) → (∀ y ∈ v, 0 ≤ y ∧ y ≤ 1000000000) →
 Calls Tryz.prog g #[vv, vp] W fun e w' => e = .returned (.int .i64 (comb v ps)) ∧ W = w'
theorem combF_great : CombF 92 greatL := fun W vv vp v ps h1 h2 h3 h4 => greatest_any W vv vp v ps h1 h2 h3 h4
theorem combF_sum : CombF 93 sumL := fun W vv vp v ps h1 h2 h3 h4 => sum_any W vv vp v ps h1 h2 h3 h4

section
variable (comb : List Int → List Int → Int) (w3 : World) (g : Nat) (os : List (Opr × Int)) (v0 : List Int)
def ValHead (k : Nat) (v13 : Value) (wr : World) : Prop :=
 ∃ (v : List Int) (ch : Bool), v13 = .bool ch ∧ v.length = v0.length ∧ (∀ y ∈ v, 0 ≤ y ∧ y ≤ 1000000000) ∧ IArr wr g v ∧ Keeps (fun b => b = g) w3 wr ∧ fixV comb os (weightC v0) v = fixV comb os (weightC v0) v0 ∧ weightC v ≤ weightC v0 ∧ (ch = false → opsV comb v os = v) ∧ k = 2 * weightC v + (if ch = true then 1 else 0)
def ValMid (v : List Int) (j : Nat) (v13 : Value) (wr : World) : Prop :=
 ∃ ch : Bool, v13 = .bool ch ∧ IArr wr g (opsV comb v (os.take j)) ∧ Keeps (fun b => b = g) w3 wr ∧ ((ch = false ∧ opsV comb v (os.take j) = v) ∨ (ch = true ∧ weightC (opsV comb v (os.take j)) < weightC v))
def ValAdd (v v2 : List Int) (x : Int) (ps : List Int) (i : Nat) (v13 : Value) (wr : World) : Prop :=
 ∃ ch : Bool, v13 = .bool ch ∧ IArr wr g (addsV x v2 (ps.take i)) ∧ Keeps (fun b => b = g) w3 wr ∧ ((ch = false ∧ addsV x v2 (ps.take i) = v) ∨ (ch = true ∧ weightC (addsV x v2 (ps.take i)) < weightC v))
end

set_option maxRecDepth 100000 in
set_option maxHeartbeats 4000000 in
theorem values_any (gf : Nat) (comb : List Int → List Int → Int) (hen : ∀ args w, (callFunc gf args).run Tryz.prog w = .ok (.enter gf args) w) (hcf : CombF gf comb) (hc : CombOk comb)
  (w : World) (vi vg vo vs vc : Value) (t : Tsk) (s costs : List Int) (h : TaskAt w vi vg vo t) (ok : t.Ok) (hs : Ints w vs s) (hsb : ∀ p ∈ s, 0 ≤ p ∧ p < t.n) (hcs : Ints w vc costs) (hcl : costs.length = t.ops.length) (hc0 : ∀ c ∈ costs, 0 ≤ c ∧ c ≤ 1000000000) :
  Calls Tryz.prog 115 #[.agg #[.int .i64 t.n, vi, vg, vo], vs, vc, .func (.func gf) #[] #[]] w fun e w' => ∃ g, e = .returned (.slice (some ⟨g, 0, none⟩) t.n.toNat t.n.toNat) ∧ IArr w' g (valuesV comb t costs s) ∧ w.heap.size ≤ g ∧ Keeps (fun _ => False) w w' := by
 obtain ⟨ai, ci, h1, _⟩ := h.init.form
 obtain ⟨ag, cg, h2, _⟩ := h.goal.form
 obtain ⟨ao, co, h3, hmo⟩ := h.ops.form
 obtain ⟨a4, cs, h4, hms⟩ := hs.form
 obtain ⟨a5, cc, h5, hmc⟩ := hcs.form
 subst h1 h2 h3 h4 h5
 have hn0 : 0 ≤ t.n ∧ t.n ≤ 24 := ⟨by have := ok.n0; omega, ok.n1⟩
 obtain ⟨n, hn⟩ : ∃ n : Nat, t.n = (n : Int) := ⟨t.n.toNat, by omega⟩
 have HNT := Lib.hid (show t.n.toNat = n by omega)
 have hn24 : n ≤ 24 := by omega
 have HN := Lib.hid hn; clear hn
 have K1 := (Keeps.refl (fun _ => False) w).alloc (.cells #[.int .i64 t.n, .slice ai t.init.length ci, .slice ag t.goal.length cg, .slice ao t.ops.length co] 25)
 have HT := h.keeps0 K1
 have HB := Four.new w (.int .i64 t.n) (.slice ai t.init.length ci) (.slice ag t.goal.length cg) (.slice ao t.ops.length co) 25
 have HS := Lib.hid (hs.keeps0 K1); have HCS := Lib.hid (hcs.keeps0 K1)
 replace HT := Lib.hid HT; replace HB := Lib.hid HB; have OK := Lib.hid ok; have K1 := Lib.hid K1
 have HS0 := Lib.hid hs; have HCS0 := Lib.hid hcs; have HT0 := Lib.hid h
 have HSB := Lib.hid hsb; have HC0 := Lib.hid hc0; have HCF := Lib.hid hcf; have HCO := Lib.hid hc; have HCL := Lib.hid hcl
 clear h ok hs hcs hsb hc0 hcf hc hcl
 go_enter Tryz.func115, Tryz.ntmps115
 go_upto_region 1 with fail
 generalize (w.alloc (.cells #[.int .i64 t.n, .slice ai t.init.length ci, .slice ag t.goal.length cg, .slice ao t.ops.length co] 25)) = w1 at HT HB K1 HS HCS ⊢
 obtain ⟨d0, d1, d2, d3⟩ := HB.out
 have hbx := HB.out.lt
 have hmk := run_make_ints w1 t.n n HN.out (by omega)
 have hsz : w.heap.size < w1.heap.size := by omega
 go_upto_region 2 with fail
 have KM := (Keeps.refl (fun _ => False) w1).alloc (.cells (Array.replicate n (Value.int .i64 0)) 3)
 have HA := Lib.hid (IArr.zeros w1 n)
 have HT2 := Lib.hid (HT.out.keeps0 KM); have HB2 := Lib.hid (HB.out.keeps0 KM); have HS2 := Lib.hid (HS.out.keeps0 KM); have HCS2 := Lib.hid (HCS.out.keeps0 KM); have K2 := Lib.hid (K1.out.trans KM)
 clear d0 d1 d2 d3 hbx hmk KM HT HB HS HCS K1
 obtain ⟨g, hg⟩ : ∃ g, w1.heap.size = g := ⟨_, rfl⟩
 rw [hg] at HA ⊢
 have hwg : w.heap.size ≤ g := by omega
 have hbg : ¬ w.heap.size = g := by omega
 generalize (w1.alloc (.cells (Array.replicate n (Value.int .i64 0)) 3)) = w3 at HA HT2 HB2 HS2 HCS2 K2 ⊢
 clear hg
 go_wp2_with fail
 go_loopw [24] (fun v24 wr => ∃ k : Nat, v24 = .int .i64 (k : Int) ∧ k ≤ n ∧ Keeps (fun b => b = g) w3 wr ∧ ∃ l : List Int, l.length = n ∧ (∀ j, j < k → l[j]? = some 1000000000) ∧ IArr wr g l) (fun v24 _ => n - (intOf v24).toNat)
 case atStart => exact ⟨0, rfl, Nat.zero_le _, Keeps.refl _ _, _, List.length_replicate, fun j hj => absurd hj (by omega), HA.out⟩
 case round =>
  obtain ⟨k, rfl, hk, hkr, l, hl, hlj, hla⟩ := hrel
  by_cases hlt : k < n
  ·have hnk : (k : Int) < (n : Int) := by omega
   obtain ⟨x, hx⟩ : ∃ x, l[k]? = some x := ⟨_, List.getElem?_eq_getElem (by omega)⟩
   have hc := hla.cell hx
   have hf := hla.frozen k
   have hlt' := hla.lt
   have HN1 := Lib.hid (show Keeps (fun b => b = g) w3 (wr.setCell ⟨g, k, none⟩ (.int .i64 1000000000)) ∧ ∃ l' : List Int, l'.length = n ∧ (∀ j, j < k + 1 → l'[j]? = some 1000000000) ∧ IArr (wr.setCell ⟨g, k, none⟩ (.int .i64 1000000000)) g l' from
    ⟨hkr.trans (keeps_set _ _ _ _), l.set k 1000000000, by rw [List.length_set]; exact hl, fun j hj => by
     rw [List.getElem?_set]
     split
     ·rw [if_pos (by omega)]
     ·exact hlj j (by omega), hla.set k _⟩)
   clear hkr hl hlj hla hx
   go_wp2_with fail
   go_roundw
   case rel => exact ⟨k + 1, by go_num, by omega, HN1.out⟩
   case measure => simp [intOf]; omega
  ·have HV := Lib.hid (show IArr wr g (List.replicate n 1000000000) by
    have e : l = List.replicate n 1000000000 := List.eq_replicate_iff.2 ⟨hl, fun b hb => by
     obtain ⟨j, hj⟩ := List.mem_iff_getElem?.1 hb
     have h1 := hlj j (by have := (List.getElem?_eq_some_iff.1 hj).1; omega)
     rw [h1] at hj; cases hj; rfl⟩
    rw [← e]; exact hla)
   have HKR := Lib.hid hkr
   clear hkr hl hlj hla
   go_wp2_with fail
   go_loopw [33] (fun v33 wr => ∃ k : Nat, v33 = .int .i64 (k : Int) ∧ k ≤ s.length ∧ Keeps (fun b => b = g) w3 wr ∧ IArr wr g (zeroV (List.replicate n 1000000000) (s.take k))) (fun v33 _ => s.length - (intOf v33).toNat)
   case atStart => exact ⟨0, rfl, Nat.zero_le _, HKR.out, HV.out⟩
   case round =>
    obtain ⟨k2, rfl, hk2, hkq, hza⟩ := hrel
    have HKW := Lib.hid (show Keeps (fun _ => False) w wr from K2.out.trans' hkq (fun i hi => .inr (by omega)))
    by_cases hls : k2 < s.length
    ·obtain ⟨bs, ofs, rfl, hcs⟩ := (HS0.out.keeps0 HKW.out).cell rfl (by omega)
     obtain ⟨p, hp⟩ : ∃ p, s[k2]? = some p := ⟨_, List.getElem?_eq_getElem hls⟩
     have hc1 := hcs k2 p hp
     have hpb := HSB.out p (List.mem_of_getElem? hp)
     obtain ⟨j, rfl⟩ := Int.eq_ofNat_of_zero_le hpb.1
     have hjn : (j : Int) < (n : Int) := by have := HN.out; omega
     have hzl := (zeroV_low (s.take k2) (List.replicate n 1000000000) (fun y hy => by rw [(List.mem_replicate.1 hy).2]; decide)).1
     rw [List.length_replicate] at hzl
     obtain ⟨x, hx⟩ : ∃ x, (zeroV (List.replicate n 1000000000) (s.take k2))[j]? = some x := ⟨_, List.getElem?_eq_getElem (by omega)⟩
     have hc2 := hza.cell hx
     have hf := hza.frozen j
     have hlt2 := hza.lt
     have HN2 := Lib.hid (show Keeps (fun b => b = g) w3 (wr.setCell ⟨g, j, none⟩ (.int .i64 0)) ∧ IArr (wr.setCell ⟨g, j, none⟩ (.int .i64 0)) g (zeroV (List.replicate n 1000000000) (s.take (k2 + 1))) from
      ⟨hkq.trans (keeps_set _ _ _ _), by
       rw [List.take_succ_eq_append_getElem hls, (List.getElem?_eq_some_iff.1 hp).2, zeroV_snoc]
       exact hza.set j 0⟩)
     clear hkq hza hcs hp hpb hzl hx
     go_wp2_with fail
     go_roundw
     case rel => exact ⟨k2 + 1, by go_num, by omega, HN2.out⟩
     case measure => simp [intOf]; omega
    ·rw [List.take_of_length_le (by omega)] at hza
     have HV0 := Lib.hid hza; have HKQ := Lib.hid hkq
     have hs0 := startV_low (n := t.n) s
     have HST := Lib.hid (show startV t.n s = zeroV (List.replicate n 1000000000) s by unfold startV; rw [HNT.out])
     rw [HNT.out, HST.out] at hs0
     have HL0 := Lib.hid hs0.1; have HB0 := Lib.hid hs0.2
     clear hs0 hkq hza
     generalize hv0 : zeroV (List.replicate n 1000000000) s = v0 at HV0 HST HL0 HB0
     clear hv0 HV HKR HKW
     go_wp2_with fail
     go_loopg [13] (2 * weightC v0 + 1) (fun k v13 wr => ValHead comb w3 g (t.ops.zip costs) v0 k v13 wr)
     case atStart => exact ⟨v0, true, rfl, rfl, HB0.out, HV0.out, HKQ.out, rfl, Nat.le_refl _, (fun h => by cases h), by rw [if_pos rfl]⟩
     case round =>
      obtain ⟨v, ch, rfl, hvl, hvb, hva, hkp, hfx, hwt, hst, hgk⟩ := hrel
      have HKW := Lib.hid (show Keeps (fun _ => False) w wr from K2.out.trans' hkp (fun i hi => .inr (by omega)))
      have HVL := Lib.hid hvl; have HVB := Lib.hid hvb; have HVA := Lib.hid hva; have HKP := Lib.hid hkp; have HFX := Lib.hid hfx; have HWT := Lib.hid hwt; have HGK := Lib.hid hgk; have HSTD := Lib.hid hst
      clear hvl hvb hva hkp hfx hwt hgk hst
      cases ch with
      | false =>
       go_wp2_with fail
       go_ret
       refine ⟨g, by rw [HNT.out]; rfl, ?_, hwg, HKW.out⟩
       have e : valuesV comb t costs s = v := by
        unfold valuesV
        rw [HST.out, ← HFX.out]
        exact fixV_done (HSTD.out (by first | rfl | trivial)) _
       rw [e]; exact HVA.out
      | true =>
       have HZO := Lib.hid (show ∀ o ∈ t.ops.zip costs, 0 ≤ o.2 from fun o ho => (HC0.out o.2 (List.of_mem_zip ho).2).1)
       have HZL := Lib.hid (show (t.ops.zip costs).length = t.ops.length by rw [List.length_zip, HCL.out]; omega)
       obtain ⟨d0, d1, d2, d3⟩ := HB2.out
       have d0r := HKP.out.cell d0 hbg; have d1r := HKP.out.cell d1 hbg; have d2r := HKP.out.cell d2 hbg; have d3r := HKP.out.cell d3 hbg
       have hbx : w.heap.size < wr.heap.size := by have := HVA.out.lt; omega
       clear d0 d1 d2 d3
       go_wp2_with fail
       clear d0r d1r d2r d3r hbx
       go_loopw [13, 45] (fun v13 v45 wr' => ∃ j : Nat, v45 = .int .i64 (j : Int) ∧ j ≤ t.ops.length ∧ ValMid comb w3 g (t.ops.zip costs) v j v13 wr') (fun _ v45 _ => t.ops.length - (intOf v45).toNat)
       case atStart => exact ⟨0, rfl, Nat.zero_le _, false, rfl, HVA.out, HKP.out, .inl ⟨rfl, rfl⟩⟩
       case round =>
        obtain ⟨j, rfl, hj, ch, rfl, hma, hmk, hms⟩ := hrel
        by_cases hjl : j < t.ops.length
        ·have HMA := Lib.hid hma; have HMK := Lib.hid hmk; have HMS := Lib.hid hms
         have KW2 := Lib.hid (show Keeps (fun _ => False) w wr from K2.out.trans' hmk (fun i hi => .inr (by omega)))
         clear hma hmk hms
         obtain ⟨bo, oo, rfl, hcell⟩ := HT0.out.ops.cell rfl (by omega)
         obtain ⟨o, ho⟩ : ∃ o, t.ops[j]? = some o := ⟨_, List.getElem?_eq_getElem hjl⟩
         have hjc : j < costs.length := by rw [HCL.out]; exact hjl
         obtain ⟨c, hcj⟩ : ∃ c, costs[j]? = some c := ⟨_, List.getElem?_eq_getElem hjc⟩
         obtain ⟨bc, oc, rfl, hccell⟩ := (HCS0.out.keeps0 KW2.out).cell rfl (by omega)
         have hcc := hccell j c hcj
         have HCC := Lib.hid (HC0.out c (List.mem_of_getElem? hcj))
         obtain ⟨va, vb, vd, p0', p1', p2', p3', i1', i2', i3'⟩ := hcell j o ho
         have p0 := KW2.out.cell p0' (fun h => h); have p1 := KW2.out.cell p1' (fun h => h); have p2 := KW2.out.cell p2' (fun h => h); have p3 := KW2.out.cell p3' (fun h => h)
         have i1 := i1'.keeps0 KW2.out; have i2 := i2'.keeps0 KW2.out; have i3 := i3'.keeps0 KW2.out
         clear p0' p1' p2' p3' i1' i3'
         have hom := OK.out.ops o (List.mem_of_getElem? ho)
         have U1 := Lib.hid (isSet_iff.1 hom.pre).1; have U2 := Lib.hid (isSet_iff.1 hom.add).1
         have HZJ := Lib.hid (show (t.ops.zip costs)[j]? = some (o, c) by rw [List.getElem?_zip_eq_some]; exact ⟨ho, hcj⟩)
         obtain ⟨s1, s2, _, _⟩ := opsV_spec HCO.out ((t.ops.zip costs).take j) v (fun o ho => HZO.out o (List.mem_of_mem_take ho)) HVB.out
         have HM1 := Lib.hid s1; have HM2 := Lib.hid s2
         obtain ⟨a1, k1, f1, _⟩ := i1.form
         obtain ⟨a2, k3, f2, _⟩ := i2.form
         obtain ⟨a3, k4, f3, _⟩ := i3.form
         subst f1 f2 f3
         have I2W := Lib.hid i2'
         clear i2'
         have K4 := (Keeps.refl (fun _ => False) wr).alloc (.cells #[.slice a1 o.pre.length k1, .slice a2 o.add.length k3, .slice a3 o.del.length k4, .int .i64 o.cost] 80)
         have HO4 := Four.new wr (.slice a1 o.pre.length k1) (.slice a2 o.add.length k3) (.slice a3 o.del.length k4) (.int .i64 o.cost) 80
         have I1 := Lib.hid (i1.keeps0 K4); have I2 := Lib.hid (i2.keeps0 K4)
         have HMA4 := Lib.hid (HMA.out.keeps K4 (fun h => h)); have HMK4 := Lib.hid (HMK.out.trans (K4.mono (fun _ _ h => h.elim)))
         have hc4 := K4.cell hcc (fun h => h)
         have HO4' := Lib.hid HO4
         have hg4 : g < wr.heap.size := HMA.out.lt
         clear hcell hccell hcj hjc ho hom i1 i2 i3 s1 s2 K4 HO4 HMA HMK hcc
         go_upto_region 18 with fail
         generalize hw4 : (wr.alloc (.cells #[.slice a1 o.pre.length k1, .slice a2 o.add.length k3, .slice a3 o.del.length k4, .int .i64 o.cost] 80)) = w4 at HMA4 HMK4 HO4' I1 I2 hc4 ⊢
         clear p0 p1 p2 p3 hw4
         obtain ⟨b4, hb4⟩ : ∃ b4, wr.heap.size = b4 := ⟨_, rfl⟩
         rw [hb4] at HO4' ⊢
         rw [hb4] at hg4
         clear hb4
         have HCB := Lib.hid (HCO.out (opsV comb v ((t.ops.zip costs).take j)) o.pre HM2.out)
         have HLN := Lib.hid (show (opsV comb v ((t.ops.zip costs).take j)).length = n by rw [HM1.out, HVL.out]; exact HL0.out)
         have HNX := Lib.hid (show opsV comb v ((t.ops.zip costs).take (j + 1)) = addsV (plusI (comb (opsV comb v ((t.ops.zip costs).take j)) o.pre) c) (opsV comb v ((t.ops.zip costs).take j)) o.add by
          rw [take_getS HZJ.out, opsV_snoc])
         generalize opsV comb v ((t.ops.zip costs).take j) = vj at HMA4 HMS HM1 HM2 HCB HLN HNX ⊢
         have KD := (Keeps.refl (fun _ => False) w4).drew
         have HIV := Lib.hid (show Ints w4.drew (.slice (some ⟨g, 0, none⟩) n n) vj by
          have h := (HMA4.out.keeps KD (fun h => h)).ints (by rw [HLN.out]; unfold maxLen; omega)
          rw [HLN.out] at h; exact h)
         have I1D := Lib.hid (show Ints w4.drew (.slice a1 o.pre.length k1) o.pre from I1.out.keeps0 KD)
         have HPB := Lib.hid (show ∀ p ∈ o.pre, 0 ≤ p ∧ p < (vj.length : Int) from fun p hp => by have := U1.out p hp; have := HN.out; rw [HLN.out]; omega)
         have I2D := Lib.hid (show Ints w4.drew (.slice a2 o.add.length k3) o.add from I2.out.keeps0 KD)
         have HAD := Lib.hid (HMA4.out.keeps KD (fun h => h)); have HKD := Lib.hid (HMK4.out.trans (KD.mono (fun _ _ h => h.elim)))
         have HOD := Lib.hid (HO4'.out.keeps0 KD)
         obtain ⟨q0, q1, q2, q3⟩ := HOD.out
         have hq4 := HOD.out.lt
         have hc5 := KD.cell hc4 (fun h => h)
         have hj0 : (0 : Int) ≤ (j : Int) := by omega
         have hj1 : (j : Int) < (costs.length : Int) := by have := HCL.out; omega
         clear hc4 KD
         go_region_held3 (fun w' => w'.cell? ⟨b4, 0, none⟩ = some (.slice a1 o.pre.length k1) ∧ w'.cell? ⟨bc, oc + j, none⟩ = some (.int .i64 c))
          (go_keep)
          (first
           | (go_at_call 117; refine (plus_any _ _ _ HCB.out HCC.out).mono ?_; rintro en w9 ⟨rfl, rfl⟩)
           | (refine (HCF.out _ _ _ _ _ HIV.out I1D.out HPB.out HM2.out).mono ?_; rintro en w9 ⟨rfl, rfl⟩))
         all_goals
          have HX := Lib.hid (plusI_low HCB.out.1 HCC.out.1)
          generalize plusI (comb vj o.pre) c = x at HX HNX ⊢
          go_wp2_with fail
          clear q0 q1 q2 q3 hq4 hc5 hj0 hj1
          go_loopw [13, 63] (fun v13 v63 wr' => ∃ i : Nat, v63 = .int .i64 (i : Int) ∧ i ≤ o.add.length ∧ ValAdd w3 g v vj x o.add i v13 wr') (fun _ v63 _ => o.add.length - (intOf v63).toNat)
          case atStart => exact ⟨0, rfl, Nat.zero_le _, ch, rfl, HAD.out, HKD.out, HMS.out⟩
          case round =>
           obtain ⟨i, rfl, hi, ch2, rfl, hxa, hxk, hxs⟩ := hrel
           obtain ⟨b1, b2, b3, b5⟩ := addsV_spec HX.out (o.add.take i) vj HM2.out
           have HXA := Lib.hid hxa; have HXK := Lib.hid hxk; have HXS := Lib.hid hxs; have HB1 := Lib.hid b1; have HB2' := Lib.hid b2
           clear hxa hxk hxs b1 b2 b3 b5
           by_cases hil : i < o.add.length
           ·have KW5 := Lib.hid (show Keeps (fun _ => False) w wr from K2.out.trans' HXK.out (fun i hi => .inr (by omega)))
            obtain ⟨ba, oa, rfl, hca⟩ := (I2W.out.keeps0 KW5.out).cell rfl (by omega)
            obtain ⟨p, hp⟩ : ∃ p, o.add[i]? = some p := ⟨_, List.getElem?_eq_getElem hil⟩
            have hc1 := hca i p hp
            have hpb := U2.out p (List.mem_of_getElem? hp)
            obtain ⟨jj, rfl⟩ := Int.eq_ofNat_of_zero_le hpb.1
            have hjn : (jj : Int) < (n : Int) := by have := HN.out; omega
            obtain ⟨y, hy⟩ : ∃ y, (addsV x vj (o.add.take i))[jj]? = some y := ⟨_, List.getElem?_eq_getElem (by have := HB1.out; have := HLN.out; omega)⟩
            have hc2 := HXA.out.cell hy
            have hfz := HXA.out.frozen jj
            have hlg := HXA.out.lt
            have HGV := Lib.hid (show getV (addsV x vj (o.add.take i)) (jj : Int) = y by unfold getV; rw [List.getD_eq_getElem?_getD, Int.toNat_natCast, hy]; rfl)
            have HTK := Lib.hid (show addsV x vj (o.add.take (i + 1)) = if x < y then (addsV x vj (o.add.take i)).set jj x else addsV x vj (o.add.take i) by
             rw [take_getS hp, addsV_snoc, HGV.out, Int.toNat_natCast])
            have HY := Lib.hid hy
            clear hca hp hpb hy
            by_cases hxy : x < y
            ·have hd : decide (x < y) = true := by simpa using hxy
             have HW := Lib.hid (weightC_set HY.out HX.out.1 hxy)
             have HE := Lib.hid (show addsV x vj (o.add.take (i + 1)) = (addsV x vj (o.add.take i)).set jj x by rw [HTK.out, if_pos hxy])
             have HF := Lib.hid (show IArr (wr.setCell ⟨g, jj, none⟩ (.int .i64 x)) g (addsV x vj (o.add.take (i + 1))) ∧ Keeps (fun b => b = g) w3 (wr.setCell ⟨g, jj, none⟩ (.int .i64 x)) ∧ weightC (addsV x vj (o.add.take (i + 1))) < weightC v from
              ⟨by rw [HE.out]; exact HXA.out.set jj x, HXK.out.trans (keeps_set _ _ _ _), by
               have h1 := HW.out
               rw [HE.out]
               rcases HXS.out with ⟨_, h2⟩ | ⟨_, h2⟩
               ·rw [h2] at h1 ⊢; exact h1
               ·omega⟩)
             clear hxy
             go_wp2_with fail
             go_roundw
             case rel => exact ⟨i + 1, by go_num, by omega, true, rfl, HF.out.1, HF.out.2.1, .inr ⟨rfl, HF.out.2.2⟩⟩
             case measure => simp [intOf]; omega
            ·have hd : decide (x < y) = false := by simpa using hxy
             have HE := Lib.hid (show addsV x vj (o.add.take (i + 1)) = addsV x vj (o.add.take i) by rw [HTK.out, if_neg hxy])
             clear hxy
             go_wp2_with fail
             go_roundw
             case rel => exact ⟨i + 1, by go_num, by omega, ch2, rfl, by rw [HE.out]; exact HXA.out, HXK.out, by rw [HE.out]; exact HXS.out⟩
             case measure => simp [intOf]; omega
           ·have HEND := Lib.hid (show opsV comb v ((t.ops.zip costs).take (j + 1)) = addsV x vj (o.add.take i) by rw [HNX.out, List.take_of_length_le (by omega)])
            go_wp2_with fail
            go_roundw
            case rel => exact ⟨j + 1, by go_num, by omega, ch2, rfl, by rw [HEND.out]; exact HXA.out, HXK.out, by rw [HEND.out]; exact HXS.out⟩
            case measure => simp [intOf]; omega
        ·rw [List.take_of_length_le (by rw [HZL.out]; omega)] at hma hms
         have HMA := Lib.hid hma; have HMK := Lib.hid hmk; have HMS := Lib.hid hms
         obtain ⟨s1, s2, s3, s4⟩ := opsV_spec HCO.out (t.ops.zip costs) v HZO.out HVB.out
         have HS1 := Lib.hid s1; have HS2 := Lib.hid s2
         have HFS := Lib.hid (fixV_step HCO.out HZO.out (weightC v0) v HVB.out HWT.out)
         clear hma hmk hms s1 s2 s3 s4
         go_wp2_with fail
         rcases HMS.out with ⟨rfl, he⟩ | ⟨rfl, hlt⟩
         ·have HE := Lib.hid he
          clear he
          go_roundg (2 * weightC v)
          case rel => exact ⟨opsV comb v (t.ops.zip costs), false, rfl, by rw [HS1.out]; exact HVL.out, HS2.out, HMA.out, HMK.out, by rw [HFS.out]; exact HFX.out, by rw [HE.out]; exact HWT.out, fun _ => by rw [HE.out]; exact HE.out, by rw [HE.out]; simp⟩
          case measure => rw [HGK.out]; simp
         ·have HE := Lib.hid hlt
          clear hlt
          go_roundg (2 * weightC (opsV comb v (t.ops.zip costs)) + 1)
          case rel => exact ⟨opsV comb v (t.ops.zip costs), true, rfl, by rw [HS1.out]; exact HVL.out, HS2.out, HMA.out, HMK.out, by rw [HFS.out]; exact HFX.out, by have := HE.out; have := HWT.out; omega, (fun h => by cases h), by simp⟩
          case measure => rw [HGK.out]; have := HE.out; simp; omega

end Go.Proofs.YtdokakhgflljgaaGreat

namespace Go.Proofs.YtdokakhgflljgaaGreat
open Go.RowKit Go.Shelf

def costsV (t : Tsk) : List Int := t.ops.map Opr.cost
theorem costsV_len (t : Tsk) : (costsV t).length = t.ops.length := by unfold costsV; rw [List.length_map]
theorem costsV_low {t : Tsk} (ok : t.Ok) : ∀ c ∈ costsV t, 0 ≤ c ∧ c ≤ 100 := fun c hc => by
 obtain ⟨o, ho, rfl⟩ := List.mem_map.1 hc
 exact ⟨(ok.ops o ho).cost0, (ok.ops o ho).cost1⟩

set_option maxRecDepth 100000 in
set_option maxHeartbeats 4000000 in
theorem rcost_any (w : World) (vi vg vo : Value) (t : Tsk) (h : TaskAt w vi vg vo t) (ok : t.Ok) :
  Calls Tryz.prog 116 #[.agg #[.int .i64 t.n, vi, vg, vo]] w fun e w' => ∃ v, e = .returned v ∧ w'.ownsRow w.heap.size 3 1 v t.ops.length ((costsV t).map (Value.int .i64)) ∧ Keeps (fun _ => False) w w' := by
 obtain ⟨i0, hi0, hz0, hz1, hz2⟩ := info_parts Tryz.info3
 obtain ⟨ai, ci, h1, _⟩ := h.init.form
 obtain ⟨ag, cg, h2, _⟩ := h.goal.form
 obtain ⟨ao, co, h3, hmo⟩ := h.ops.form
 subst h1 h2 h3
 have hop40 : t.ops.length ≤ 40 := ok.few
 have K1 := (Keeps.refl (fun _ => False) w).alloc (.cells #[.int .i64 t.n, .slice ai t.init.length ci, .slice ag t.goal.length cg, .slice ao t.ops.length co] 25)
 have HB := Lib.hid (Four.new w (.int .i64 t.n) (.slice ai t.init.length ci) (.slice ag t.goal.length cg) (.slice ao t.ops.length co) 25)
 have HT := Lib.hid h; have K1 := Lib.hid K1
 clear h ok
 go_enter Tryz.func116, Tryz.ntmps116
 go_upto_region 1 with fail
 generalize (w.alloc (.cells #[.int .i64 t.n, .slice ai t.init.length ci, .slice ag t.goal.length cg, .slice ao t.ops.length co] 25)) = w1 at HB K1 ⊢
 obtain ⟨d0, d1, d2, d3⟩ := HB.out
 have hbx := HB.out.lt
 have hsz := K1.out.size
 go_wp2_with fail
 clear d0 d1 d2 d3 hbx
 go_loopw [3, 9] (fun v3 v9 wr => ∃ k : Nat, v9 = .int .i64 (k : Int) ∧ k ≤ t.ops.length ∧ wr.ownsRow w1.heap.size 3 1 v3 k (((costsV t).take k).map (Value.int .i64)) ∧ Keeps (fun _ => False) w1 wr) (fun _ v9 _ => t.ops.length - (intOf v9).toNat)
 case atStart => exact ⟨0, rfl, Nat.zero_le _, World.ownsRow_nil _ _ _ _, Keeps.refl _ _⟩
 case round =>
  obtain ⟨k, rfl, hk, hown, hkr⟩ := hrel
  by_cases hlt : k < t.ops.length
  ·have HKR := Lib.hid hkr
   have KW := Lib.hid (K1.out.trans hkr)
   obtain ⟨bo, oo, rfl, hcell⟩ := HT.out.ops.cell rfl (by omega)
   obtain ⟨o, ho⟩ : ∃ o, t.ops[k]? = some o := ⟨_, List.getElem?_eq_getElem hlt⟩
   obtain ⟨va, vb, vd, p0', p1', p2', p3', i1', i2', i3'⟩ := hcell k o ho
   have p0 := KW.out.cell p0' (fun h => h); have p1 := KW.out.cell p1' (fun h => h); have p2 := KW.out.cell p2' (fun h => h); have p3 := KW.out.cell p3' (fun h => h)
   obtain ⟨a1, k1, f1, _⟩ := i1'.form
   obtain ⟨a2, k3, f2, _⟩ := i2'.form
   obtain ⟨a3, k4, f3, _⟩ := i3'.form
   subst f1 f2 f3
   have HTK := Lib.hid (show ((costsV t).take (k + 1)).map (Value.int .i64) = ((costsV t).take k).map (Value.int .i64) ++ [.int .i64 o.cost] by
    rw [take_getS (k := o.cost) (by unfold costsV; rw [List.getElem?_map, ho]; rfl), List.map_append]; rfl)
   have K4 := (Keeps.refl (fun _ => False) wr).alloc (.cells #[.slice a1 o.pre.length k1, .slice a2 o.add.length k3, .slice a3 o.del.length k4, .int .i64 o.cost] 80)
   have HO4 := Lib.hid (Four.new wr (.slice a1 o.pre.length k1) (.slice a2 o.add.length k3) (.slice a3 o.del.length k4) (.int .i64 o.cost) 80)
   have HOW := Lib.hid (World.ownsRow.alloc hown (.cells #[.slice a1 o.pre.length k1, .slice a2 o.add.length k3, .slice a3 o.del.length k4, .int .i64 o.cost] 80))
   have HK4 := Lib.hid (hkr.trans K4)
   obtain ⟨ao3, cap3, hv3⟩ := ownsRow_form1 hown
   subst hv3
   clear p0' p1' p2' p3' i1' i2' i3' hcell ho hown hkr K4
   go_upto_region 5 with fail
   generalize (wr.alloc (.cells #[.slice a1 o.pre.length k1, .slice a2 o.add.length k3, .slice a3 o.del.length k4, .int .i64 o.cost] 80)) = w4 at HO4 HOW HK4 ⊢
   clear p0 p1 p2 p3
   generalize wr.heap.size = b4 at HO4 ⊢
   obtain ⟨q0, q1, q2, q3⟩ := HO4.out
   have hq4 := HO4.out.lt
   have hs4 := HK4.out.size
   go_wp2_with (at_builtin; refine wpList_append_lies _ rfl _ _ _ rfl w1.heap.size 3 i0 _ 1 8 Tryz.underlying22 hi0 hz0 hz1 hz2 rfl (by omega) _ k _ (by rfl) (HOW.out.alloc _) ⟨w4.heap.size, 0, none⟩ 1 1 [.int .i64 o.cost] (by rfl) (by rfl) ?hnews ?hone (by omega) (by unfold maxLen; omega) (by omega) (by simp; omega) (w4.heap.size + 1) (by simp) ?_)
   case hnews => exact World.news_of_block (cs := #[.int .i64 o.cost]) (t := 3) (fr := (0, 0)) (heap_alloc_new _ _)
   case hone => simp [Value.oneCell']
   intro g cap2 w5 hown2 hgrow hat hlt3
   have k5 := ((Keeps.refl (fun b => (Value.slice ao3 k cap3).ownBlock = some b) w4).alloc (.cells #[.int .i64 o.cost] 3)).grown hgrow (fun k hk => .inl hk)
   have HF := Lib.hid (show w5.ownsRow w1.heap.size 3 1 (.slice (some ⟨g, 0, none⟩) (k + 1) cap2) (k + 1) (((costsV t).take (k + 1)).map (Value.int .i64)) ∧ Keeps (fun _ => False) w1 w5 from
    ⟨by rw [HTK.out, List.map_take]; exact hown2, HK4.out.trans' k5 (fun b hb => .inr (HOW.out.lt b hb).1)⟩)
   clear hown2 hgrow hat q0 q1 q2 q3 k5
   go_wp2_with fail
   go_roundw
   case rel => exact ⟨k + 1, by go_num, by omega, HF.out.1, HF.out.2⟩
   case measure => simp [intOf]; omega
  ·obtain rfl : k = t.ops.length := by omega
   rw [List.take_of_length_le (by rw [costsV_len]; omega)] at hown
   have HOW := Lib.hid hown; have HKR := Lib.hid hkr
   clear hown hkr
   go_wp2_with fail
   go_ret
   exact ⟨_, rfl, ownsRow_mono HOW.out hsz, K1.out.trans HKR.out⟩

def EstPost (t : Tsk) (x : Nat) (comb : List Int → List Int → Int) (w : World) (e : Ending) (w' : World) : Prop :=
 ∃ g, e = .returned (.tuple #[.slice (some ⟨g, 0, none⟩) t.n.toNat t.n.toNat, .int .i64 (comb (valuesV comb t (costsV t) (facts x)) t.goal), fltV 0 0]) ∧ IArr w' g (valuesV comb t (costsV t) (facts x)) ∧ w.heap.size ≤ g ∧ Keeps (fun _ => False) w w'
theorem valuesV_low {comb : List Int → List Int → Int} (hc : CombOk comb) {t : Tsk} {costs : List Int} (h0 : ∀ c ∈ costs, 0 ≤ c) (s : List Int) : (valuesV comb t costs s).length = t.n.toNat ∧ ∀ y ∈ valuesV comb t costs s, 0 ≤ y ∧ y ≤ 1000000000 := by
 obtain ⟨h1, h2⟩ := startV_low (n := t.n) s
 obtain ⟨g1, g2, _⟩ := fixV_spec hc (os := t.ops.zip costs) (fun o ho => h0 o.2 (List.of_mem_zip ho).2) (weightC (startV t.n s)) (startV t.n s) h2 (Nat.le_refl _)
 exact ⟨by unfold valuesV; rw [g1, h1], g2⟩

set_option maxRecDepth 100000 in
set_option maxHeartbeats 4000000 in
theorem estimate_any (gf : Nat) (comb : List Int → List Int → Int) (hen : ∀ args w, (callFunc gf args).run Tryz.prog w = .ok (.enter gf args) w) (hcf : CombF gf comb) (hc : CombOk comb)
  (w : World) (vi vg vo vs : Value) (t : Tsk) (x : Nat) (h : TaskAt w vi vg vo t) (ok : t.Ok) (hg : Good t.n x) (hs : Ints w vs (facts x)) :
  Calls Tryz.prog 91 #[.agg #[.int .i64 t.n, vi, vg, vo], vs, .func (.func gf) #[] #[]] w (EstPost t x comb w) := by
 obtain ⟨ai, ci, h1, _⟩ := h.init.form
 obtain ⟨ag, cg, h2, _⟩ := h.goal.form
 obtain ⟨ao, co, h3, hmo⟩ := h.ops.form
 subst h1 h2 h3
 obtain ⟨aa, cs, h4, _⟩ := hs.form
 subst h4
 have HE := Lib.hid (show stateFault t (facts x) = (0, 0) by unfold stateFault; rw [if_pos (taskFault_zero.2 ok), if_pos hg.1])
 have HSB := Lib.hid (isSet_iff.1 hg.1).1
 have HGB := Lib.hid (isSet_iff.1 ok.goal).1
 have HN0 := Lib.hid ok.n0
 have HCL := Lib.hid (costsV_len t); have HC0 := Lib.hid (costsV_low ok)
 have K1 := (Keeps.refl (fun _ => False) w).alloc (.cells #[.int .i64 t.n, .slice ai t.init.length ci, .slice ag t.goal.length cg, .slice ao t.ops.length co] 25)
 have KA2 := K1.alloc (.cells #[.int .i64 0, .int .i64 0] 31)
 have HT := Lib.hid (h.keeps0 KA2)
 have HB := Lib.hid ((Four.new w (.int .i64 t.n) (.slice ai t.init.length ci) (.slice ag t.goal.length cg) (.slice ao t.ops.length co) 25).keeps0 ((Keeps.refl _ _).alloc (.cells #[.int .i64 0, .int .i64 0] 31)))
 have HF : Flt w ((w.alloc (.cells #[.int .i64 t.n, .slice ai t.init.length ci, .slice ag t.goal.length cg, .slice ao t.ops.length co] 25)).alloc (.cells #[.int .i64 0, .int .i64 0] 31)) (w.heap.size + 1) 31 :=
  ⟨by have := heap_alloc_new (w.alloc (.cells #[.int .i64 t.n, .slice ai t.init.length ci, .slice ag t.goal.length cg, .slice ao t.ops.length co] 25)) (.cells #[.int .i64 0, .int .i64 0] 31); rwa [World.size_alloc] at this, by omega, KA2⟩
 replace HF := Lib.hid HF
 have HS := Lib.hid (show Ints _ (.slice aa (facts x).length cs) (facts x) from hs.keeps0 KA2)
 have OK := Lib.hid ok; have HCF := Lib.hid hcf; have HCO := Lib.hid hc
 clear h hs ok hg K1 KA2 hcf hc
 go_enter Tryz.func91, Tryz.ntmps91
 go_upto_region 1 with fail
 generalize ((w.alloc (.cells #[.int .i64 t.n, .slice ai t.init.length ci, .slice ag t.goal.length cg, .slice ao t.ops.length co] 25)).alloc (.cells #[.int .i64 0, .int .i64 0] 31)) = w1 at HT HB HF HS ⊢
 obtain ⟨d0, d1, d2, d3⟩ := HB.out
 have hbx := HB.out.lt
 go_wp2_with fail
 refine (stateFault_any _ _ _ _ _ t (facts x) HT.out HS.out).mono ?_; rintro e w2 ⟨rfl, hk⟩
 rw [HE.out]
 have KA := hk.trans ((Keeps.refl (fun _ => False) w2).alloc (.cells #[.int .i64 0, .int .i64 0] 31))
 have HT3 := Lib.hid (HT.out.keeps0 KA); have HB3 := Lib.hid (HB.out.keeps0 KA); have HF3 := Lib.hid (HF.out.keeps0 KA); have HS3 := Lib.hid (HS.out.keeps0 KA)
 have F0 := Lib.hid (heap_alloc_new w2 (.cells #[.int .i64 0, .int .i64 0] 31))
 clear d0 d1 d2 d3 hbx hk KA HT HB HF HS
 go_upto_region 2 with fail
 generalize (w2.alloc (.cells #[.int .i64 0, .int .i64 0] 31)) = w3 at HT3 HB3 HF3 HS3 F0 ⊢
 generalize w2.heap.size = b9 at F0 ⊢
 obtain ⟨f0, f1, y0, y1, fl⟩ := pair_cells F0.out
 clear y0 y1
 have KD := (Keeps.refl (fun _ => False) w3).drew
 have HT4 := Lib.hid (HT3.out.keeps0 KD); have HB4 := Lib.hid (HB3.out.keeps0 KD); have HF4 := Lib.hid (HF3.out.keeps0 KD); have HS4 := Lib.hid (HS3.out.keeps0 KD)
 obtain ⟨d0, d1, d2, d3⟩ := HB4.out
 have hbx := HB4.out.lt
 clear KD
 go_upto_region 4 with fail
 clear f0 f1 fl
 go_region_held3 (fun w' => w'.cell? ⟨w.heap.size, 0, none⟩ = some (.int .i64 t.n) ∧ w'.cell? ⟨w.heap.size, 1, none⟩ = some (.slice ai t.init.length ci) ∧ w'.cell? ⟨w.heap.size, 2, none⟩ = some (.slice ag t.goal.length cg) ∧ w'.cell? ⟨w.heap.size, 3, none⟩ = some (.slice ao t.ops.length co))
  (go_keep)
  (first
   | (go_at_call 116; refine (rcost_any _ _ _ _ t HT4.out OK.out).mono ?_; rintro en wa ⟨vc, rfl, hrow, hka⟩; have HIC := Lib.hid (Ints.of_own (l := costsV t) (by rw [HCL.out]; exact hrow)); have HKA := Lib.hid hka; have a0 := hka.cell d0 (fun h => h); have a1 := hka.cell d1 (fun h => h); have a2 := hka.cell d2 (fun h => h); have a3 := hka.cell d3 (fun h => h); clear hrow hka)
   | (go_at_call 115; refine (values_any _ comb hen HCF.out HCO.out _ _ _ _ _ _ t (facts x) (costsV t) (HT4.out.keeps0 HKA.out) OK.out (HS4.out.keeps0 HKA.out) HSB.out HIC.out HCL.out (fun c hc => ⟨(HC0.out c hc).1, by have := (HC0.out c hc).2; omega⟩)).mono ?_; rintro en wb ⟨g, rfl, hia, hgl, hkb⟩; have HIA := Lib.hid hia; have HKB := Lib.hid (HKA.out.trans hkb); have HGL := Lib.hid (Nat.le_trans HKA.out.size hgl); have b0 := hkb.cell a0 (fun h => h); have b1 := hkb.cell a1 (fun h => h); have b2 := hkb.cell a2 (fun h => h); have b3 := hkb.cell a3 (fun h => h); clear hia hgl hkb))
 all_goals
  obtain ⟨v1, v2⟩ := valuesV_low HCO.out (t := t) (costs := costsV t) (fun c hc => (HC0.out c hc).1) (facts x)
  have HV1 := Lib.hid v1; have HV2 := Lib.hid v2
  have HIV := Lib.hid (show Ints wb (.slice (some ⟨g, 0, none⟩) t.n.toNat t.n.toNat) (valuesV comb t (costsV t) (facts x)) by
   have h := HIA.out.ints (by rw [v1]; have := OK.out.n1; unfold maxLen; omega)
   rw [v1] at h; exact h)
  have HIG := Lib.hid ((HT4.out.keeps0 HKB.out).goal)
  have hbx5 : w.heap.size < wb.heap.size := by have := HKB.out.size; omega
  have HF5 := Lib.hid (HF4.out.keeps0 HKB.out)
  clear d0 d1 d2 d3 a0 a1 a2 a3 v1 v2 hbx
  go_wp2_with fail
  refine (HCF.out _ _ _ _ t.goal HIV.out HIG.out (fun p hp => by have := HGB.out p hp; have := HV1.out; have := HN0.out; omega) HV2.out).mono ?_; rintro en w6 ⟨rfl, rfl⟩
  obtain ⟨e0, e1, z0, z1, hF⟩ := HF5.out.cells
  go_wp2_with fail
  have HST := Lib.hid (HF5.out.set (.int .i64 0) (.int .i64 0))
  refine bodyPost_ret (results_tmp2_cell _ _ (w.heap.size + 1) 31 #[.int .i64 0, .int .i64 0] (0, 0) _ rfl rfl HST.out.1 Tryz.underlying31 rfl (by kernel_rfl)) rfl ?_
  refine ⟨g, rfl, HIA.out.keeps (keeps_pair _ _ _) (by have := HGL.out; have := HF4.out.cells.2.2.2.2; omega), ?_, HST.out.2⟩
  have := HGL.out; have := HF4.out.cells.2.2.2.2; omega

set_option maxRecDepth 100000 in
set_option maxHeartbeats 4000000 in
theorem rmax_any (w : World) (vi vg vo vs : Value) (t : Tsk) (x : Nat) (h : TaskAt w vi vg vo t) (ok : t.Ok) (hg : Good t.n x) (hs : Ints w vs (facts x)) :
  Calls Tryz.prog 76 #[.agg #[.int .i64 t.n, vi, vg, vo], vs] w (EstPost t x greatL w) := by
 obtain ⟨ai, ci, h1, _⟩ := h.init.form
 obtain ⟨ag, cg, h2, _⟩ := h.goal.form
 obtain ⟨ao, co, h3, hmo⟩ := h.ops.form
 subst h1 h2 h3
 obtain ⟨aa, cs, h4, _⟩ := hs.form
 subst h4
 have K1 := (Keeps.refl (fun _ => False) w).alloc (.cells #[.int .i64 t.n, .slice ai t.init.length ci, .slice ag t.goal.length cg, .slice ao t.ops.length co] 25)
 have KA2 := K1.alloc (.cells #[.int .i64 0, .int .i64 0] 31)
 have HT := Lib.hid (h.keeps0 KA2)
 have HB := Lib.hid ((Four.new w (.int .i64 t.n) (.slice ai t.init.length ci) (.slice ag t.goal.length cg) (.slice ao t.ops.length co) 25).keeps0 ((Keeps.refl _ _).alloc (.cells #[.int .i64 0, .int .i64 0] 31)))
 have HF : Flt w ((w.alloc (.cells #[.int .i64 t.n, .slice ai t.init.length ci, .slice ag t.goal.length cg, .slice ao t.ops.length co] 25)).alloc (.cells #[.int .i64 0, .int .i64 0] 31)) (w.heap.size + 1) 31 :=
  ⟨by have := heap_alloc_new (w.alloc (.cells #[.int .i64 t.n, .slice ai t.init.length ci, .slice ag t.goal.length cg, .slice ao t.ops.length co] 25)) (.cells #[.int .i64 0, .int .i64 0] 31); rwa [World.size_alloc] at this, by omega, KA2⟩
 replace HF := Lib.hid HF
 have HS := Lib.hid (show Ints _ (.slice aa (facts x).length cs) (facts x) from hs.keeps0 KA2)
 have OK := Lib.hid ok; have GX := Lib.hid hg
 have hen := enters_of (P := Tryz.prog) Tryz.func92 (by kernel_rfl) rfl
 clear h hs ok hg K1 KA2
 go_enter Tryz.func76, Tryz.ntmps76
 go_upto_region 1 with fail
 generalize ((w.alloc (.cells #[.int .i64 t.n, .slice ai t.init.length ci, .slice ag t.goal.length cg, .slice ao t.ops.length co] 25)).alloc (.cells #[.int .i64 0, .int .i64 0] 31)) = w1 at HT HB HF HS ⊢
 obtain ⟨d0, d1, d2, d3⟩ := HB.out
 have hbx := HB.out.lt
 go_wp2_with fail
 refine (estimate_any _ greatL hen combF_great comb_great _ _ _ _ _ t x HT.out OK.out GX.out HS.out).mono ?_; rintro e w2 ⟨g, rfl, hia, hgl, hk⟩
 have HF5 := Lib.hid (HF.out.keeps0 hk)
 have HIA := Lib.hid hia
 have HGL := Lib.hid (show w.heap.size + 1 < g by have := HF.out.cells.2.2.2.2; omega)
 obtain ⟨e0, e1, z0, z1, hF⟩ := HF5.out.cells
 have HST := Lib.hid (HF5.out.set (.int .i64 0) (.int .i64 0))
 simp only [fltV]
 clear d0 d1 d2 d3 hbx hia hgl hk HT HB HF HS
 go_wp2_with fail
 refine bodyPost_ret (results_tmp2_cell _ _ (w.heap.size + 1) 31 #[.int .i64 0, .int .i64 0] (0, 0) _ rfl rfl HST.out.1 Tryz.underlying31 rfl (by kernel_rfl)) rfl ?_
 exact ⟨g, rfl, HIA.out.keeps (keeps_pair _ _ _) (by have := HGL.out; omega), by have := HGL.out; omega, HST.out.2⟩

set_option maxRecDepth 100000 in
set_option maxHeartbeats 4000000 in
theorem radd_any (w : World) (vi vg vo vs : Value) (t : Tsk) (x : Nat) (h : TaskAt w vi vg vo t) (ok : t.Ok) (hg : Good t.n x) (hs : Ints w vs (facts x)) :
  Calls Tryz.prog 77 #[.agg #[.int .i64 t.n, vi, vg, vo], vs] w (EstPost t x sumL w) := by
 obtain ⟨ai, ci, h1, _⟩ := h.init.form
 obtain ⟨ag, cg, h2, _⟩ := h.goal.form
 obtain ⟨ao, co, h3, hmo⟩ := h.ops.form
 subst h1 h2 h3
 obtain ⟨aa, cs, h4, _⟩ := hs.form
 subst h4
 have K1 := (Keeps.refl (fun _ => False) w).alloc (.cells #[.int .i64 t.n, .slice ai t.init.length ci, .slice ag t.goal.length cg, .slice ao t.ops.length co] 25)
 have KA2 := K1.alloc (.cells #[.int .i64 0, .int .i64 0] 31)
 have HT := Lib.hid (h.keeps0 KA2)
 have HB := Lib.hid ((Four.new w (.int .i64 t.n) (.slice ai t.init.length ci) (.slice ag t.goal.length cg) (.slice ao t.ops.length co) 25).keeps0 ((Keeps.refl _ _).alloc (.cells #[.int .i64 0, .int .i64 0] 31)))
 have HF : Flt w ((w.alloc (.cells #[.int .i64 t.n, .slice ai t.init.length ci, .slice ag t.goal.length cg, .slice ao t.ops.length co] 25)).alloc (.cells #[.int .i64 0, .int .i64 0] 31)) (w.heap.size + 1) 31 :=
  ⟨by have := heap_alloc_new (w.alloc (.cells #[.int .i64 t.n, .slice ai t.init.length ci, .slice ag t.goal.length cg, .slice ao t.ops.length co] 25)) (.cells #[.int .i64 0, .int .i64 0] 31); rwa [World.size_alloc] at this, by omega, KA2⟩
 replace HF := Lib.hid HF
 have HS := Lib.hid (show Ints _ (.slice aa (facts x).length cs) (facts x) from hs.keeps0 KA2)
 have OK := Lib.hid ok; have GX := Lib.hid hg
 have hen := enters_of (P := Tryz.prog) Tryz.func93 (by kernel_rfl) rfl
 clear h hs ok hg K1 KA2
 go_enter Tryz.func77, Tryz.ntmps77
 go_upto_region 1 with fail
 generalize ((w.alloc (.cells #[.int .i64 t.n, .slice ai t.init.length ci, .slice ag t.goal.length cg, .slice ao t.ops.length co] 25)).alloc (.cells #[.int .i64 0, .int .i64 0] 31)) = w1 at HT HB HF HS ⊢
 obtain ⟨d0, d1, d2, d3⟩ := HB.out
 have hbx := HB.out.lt
 go_wp2_with fail
 refine (estimate_any _ sumL hen combF_sum comb_sum _ _ _ _ _ t x HT.out OK.out GX.out HS.out).mono ?_; rintro e w2 ⟨g, rfl, hia, hgl, hk⟩
 have HF5 := Lib.hid (HF.out.keeps0 hk)
 have HIA := Lib.hid hia
 have HGL := Lib.hid (show w.heap.size + 1 < g by have := HF.out.cells.2.2.2.2; omega)
 obtain ⟨e0, e1, z0, z1, hF⟩ := HF5.out.cells
 have HST := Lib.hid (HF5.out.set (.int .i64 0) (.int .i64 0))
 simp only [fltV]
 clear d0 d1 d2 d3 hbx hia hgl hk HT HB HF HS
 go_wp2_with fail
 refine bodyPost_ret (results_tmp2_cell _ _ (w.heap.size + 1) 31 #[.int .i64 0, .int .i64 0] (0, 0) _ rfl rfl HST.out.1 Tryz.underlying31 rfl (by kernel_rfl)) rfl ?_
 exact ⟨g, rfl, HIA.out.keeps (keeps_pair _ _ _) (by have := HGL.out; omega), by have := HGL.out; omega, HST.out.2⟩

end Go.Proofs.YtdokakhgflljgaaGreat

namespace Go.Proofs.YtdokakhgflljgaaGreat

/-! ### the words of states and the lists of facts -/
theorem can_facts {n : Int} (hn : n ≤ 24) {o : Opr} (ho : o.Ok n) {x : Nat} (h : o.word.can x = true) : ∀ p ∈ o.pre, p ∈ facts x := fun p hp => by
 have hb := (isSet_iff.1 ho.pre).1
 have h1 := can_iff.1 h
 have hp' := hb p hp
 refine mem_facts.2 ⟨p.toNat, by omega, by omega, h1 p.toNat ?_⟩
 show (wd o.pre).testBit p.toNat = true
 rw [testBit_wd (fun x hx => (hb x hx).1), show ((p.toNat : Nat) : Int) = p by omega]
 simpa using hp
theorem goal_facts {n : Int} (hn : n ≤ 24) {g : List Int} (hg : isSetB g n = true) {x : Nat} (h : goalB (wd g) x = true) : ∀ p ∈ g, p ∈ facts x := fun p hp => by
 have hb := (isSet_iff.1 hg).1
 have h1 := goalB_iff.1 h
 have hp' := hb p hp
 refine mem_facts.2 ⟨p.toNat, by omega, by omega, h1 p.toNat ?_⟩
 rw [testBit_wd (fun x hx => (hb x hx).1), show ((p.toNat : Nat) : Int) = p by omega]
 simpa using hp
theorem next_facts {n : Int} {o : Opr} (ho : o.Ok n) {x : Nat} {q : Int} (h : q ∈ facts (o.word.next x)) : (q ∈ facts x ∧ q ∉ o.del) ∨ q ∈ o.add := by
 obtain ⟨i, rfl, hi, ht⟩ := mem_facts.1 h
 have ha := (isSet_iff.1 ho.add).1
 have hd := (isSet_iff.1 ho.del).1
 unfold Wop.next Opr.word at ht
 simp only at ht
 rw [Nat.testBit_or, testBit_andN _ _ _ hi, testBit_wd (fun x hx => (ha x hx).1), testBit_wd (fun x hx => (hd x hx).1)] at ht
 rw [Bool.or_eq_true, Bool.and_eq_true] at ht
 rcases ht with ⟨h1, h2⟩ | h1
 ·exact .inl ⟨mem_facts.2 ⟨i, rfl, hi, h1⟩, by simpa using h2⟩
 ·exact .inr (by simpa using h1)

/-- What holds along a plan. -/
theorem run_inv {t : Tsk} {Inv : Nat → Int → Prop} (step : ∀ (o : Opr) (z : Nat) (c : Int), o ∈ t.ops → o.word.can z = true → Inv z c → Inv (o.word.next z) (c + o.cost)) :
  ∀ (p : List Nat) (x y : Nat) (c : Int), runOps (wordsOf t.ops) x p = some y → Inv x c → Inv y (c + costN (wordsOf t.ops) p)
 | [], x, y, c, h, hi => by cases h; simpa [costN] using hi
 | a :: r, x, y, c, h, hi => by
  unfold runOps at h
  cases ho : (wordsOf t.ops)[a]? with
  | none => rw [ho] at h; cases h
  | some w =>
   rw [ho] at h
   simp only at h
   obtain ⟨o, ho', rfl⟩ : ∃ o, t.ops[a]? = some o ∧ o.word = w := by
    unfold wordsOf at ho
    rw [List.getElem?_map] at ho
    cases h2 : t.ops[a]? with
    | none => rw [h2] at ho; cases ho
    | some o => rw [h2] at ho; cases ho; exact ⟨o, rfl, rfl⟩
   split at h
   ·rename_i hc
    have h1 := run_inv step r (o.word.next x) y (c + o.cost) h (step o x c (List.mem_of_getElem? ho') hc hi)
    rw [costN, ho]
    simp only [Option.map_some, Option.getD_some]
    rw [show c + (o.word.cost + costN (wordsOf t.ops) r) = c + o.cost + costN (wordsOf t.ops) r by unfold Opr.word; simp only; omega]
    exact h1
   ·cases h

/-! ### Max -/
theorem getV_set_le {v : List Int} {i : Nat} {x : Int} {y : Int} (hi : v[i]? = some y) (h : x ≤ y) (q : Int) : getV (v.set i x) q ≤ getV v q := by
 unfold getV
 rw [List.getD_eq_getElem?_getD, List.getD_eq_getElem?_getD, List.getElem?_set]
 split
 ·rename_i e
  subst e
  rw [if_pos (List.getElem?_eq_some_iff.1 hi).1, hi]
  exact h
 ·exact Int.le_refl _
theorem addsV_le {x : Int} (hx : 0 ≤ x) : ∀ (ps v : List Int) (q : Int), getV (addsV x v ps) q ≤ getV v q
 | [], v, q => Int.le_refl _
 | p :: r, v, q => by
  unfold addsV
  rw [List.foldl_cons]
  by_cases h : x < getV v p
  ·rw [if_pos h]
   obtain ⟨y, hy, hxy⟩ := getV_in h hx
   exact Int.le_trans (addsV_le hx r (v.set p.toNat x) q) (getV_set_le hy (by omega) q)
  ·rw [if_neg h]
   exact addsV_le hx r v q
theorem opsV_le {comb : List Int → List Int → Int} (hc : CombOk comb) : ∀ (os : List (Opr × Int)) (v : List Int), (∀ o ∈ os, 0 ≤ o.2) → (∀ y ∈ v, 0 ≤ y ∧ y ≤ 1000000000) → ∀ q, getV (opsV comb v os) q ≤ getV v q
 | [], v, _, _, q => Int.le_refl _
 | o :: r, v, ho, hv, q => by
  have hx := plusI_low (hc v o.1.pre hv).1 (ho o (by simp))
  have h1 := addsV_le hx.1 o.1.add v q
  have h2 := opsV_le hc r (addsV (plusI (comb v o.1.pre) o.2) v o.1.add) (fun o h => ho o (by simp [h])) (addsV_spec hx o.1.add v hv).2.1 q
  unfold opsV at h2 ⊢
  rw [List.foldl_cons]; omega
theorem fixV_le {comb : List Int → List Int → Int} (hc : CombOk comb) {os : List (Opr × Int)} (ho : ∀ o ∈ os, 0 ≤ o.2) : ∀ (n : Nat) (v : List Int), (∀ y ∈ v, 0 ≤ y ∧ y ≤ 1000000000) → ∀ q, getV (fixV comb os n v) q ≤ getV v q
 | 0, v, _, q => Int.le_refl _
 | n + 1, v, hv, q => by
  unfold fixV
  split
  ·exact Int.le_refl _
  ·have h1 := fixV_le hc ho n (opsV comb v os) (opsV_spec hc os v ho hv).2.1 q
   have h2 := opsV_le hc os v ho hv q
   omega
theorem zeroV_at : ∀ (ps v : List Int) (q : Int), (∀ y ∈ v, 0 ≤ y) → (0 ≤ getV (zeroV v ps) q ∧ getV (zeroV v ps) q ≤ getV v q ∧ (q ∈ ps → getV (zeroV v ps) q ≤ 0))
 | [], v, q, hv => by
  refine ⟨?_, Int.le_refl _, fun h => (List.not_mem_nil h).elim⟩
  show 0 ≤ getV v q
  unfold getV
  rw [List.getD_eq_getElem?_getD]
  cases h : v[q.toNat]? with
  | none => simp
  | some y => exact hv y (List.mem_of_getElem? h)
 | p :: r, v, q, hv => by
  obtain ⟨h1, h2, h3⟩ := zeroV_at r (v.set p.toNat 0) q (fun y hy => by
   rcases List.mem_or_eq_of_mem_set hy with h | h
   ·exact hv y h
   ·rw [h]; decide)
  have e : getV (v.set p.toNat 0) q ≤ getV v q ∧ (q = p → getV (v.set p.toNat 0) q ≤ 0) := by
   unfold getV
   rw [List.getD_eq_getElem?_getD, List.getD_eq_getElem?_getD, List.getElem?_set]
   split
   ·rename_i e
    constructor
    ·split
     ·cases h : v[q.toNat]? with
      | none => simp
      | some y => exact hv y (List.mem_of_getElem? h)
     ·rw [← e, List.getElem?_eq_none (by omega)]; simp
    ·intro _; split <;> simp
   ·rename_i e
    exact ⟨Int.le_refl _, fun h => absurd (by rw [h]) e⟩
  refine ⟨h1, by have := e.1; show getV (zeroV (v.set p.toNat 0) r) q ≤ _; omega, fun h => ?_⟩
  show getV (zeroV (v.set p.toNat 0) r) q ≤ 0
  rcases List.mem_cons.1 h with rfl | h
  ·have := e.2 rfl; omega
  ·exact h3 h

/-- The facts of the state have no value, and no operator is worth more than it costs. -/
structure RelOk (t : Tsk) (costs : List Int) (comb : List Int → List Int → Int) (s v : List Int) : Prop where
 len : v.length = t.n.toNat
 low : ∀ y ∈ v, 0 ≤ y ∧ y ≤ 1000000000
 here : ∀ q ∈ s, getV v q = 0
 step : ∀ o ∈ t.ops.zip costs, ∀ p ∈ o.1.add, getV v p ≤ plusI (comb v o.1.pre) o.2
theorem values_ok {comb : List Int → List Int → Int} (hc : CombOk comb) {t : Tsk} {costs : List Int} (h0 : ∀ c ∈ costs, 0 ≤ c) (s : List Int) : RelOk t costs comb s (valuesV comb t costs s) := by
 obtain ⟨h1, h2⟩ := startV_low (n := t.n) s
 have ho : ∀ o ∈ t.ops.zip costs, 0 ≤ o.2 := fun o ho => h0 o.2 (List.of_mem_zip ho).2
 obtain ⟨g1, g2, g3⟩ := fixV_spec hc ho (weightC (startV t.n s)) (startV t.n s) h2 (Nat.le_refl _)
 refine ⟨by unfold valuesV; rw [g1, h1], g2, fun q hq => ?_, (opsV_spec hc (t.ops.zip costs) _ ho g2).2.2.2 g3⟩
 have h3 := fixV_le hc ho (weightC (startV t.n s)) (startV t.n s) h2 q
 have h4 := (zeroV_at s (List.replicate t.n.toNat 1000000000) q (fun y hy => by rw [(List.mem_replicate.1 hy).2]; decide)).2.2 hq
 have h5 := (getV_low g2 q).1
 unfold valuesV
 unfold startV at h3 h5 ⊢
 omega
theorem zip_costs {t : Tsk} {o : Opr} (ho : o ∈ t.ops) : (o, o.cost) ∈ t.ops.zip (costsV t) := by
 obtain ⟨i, hi⟩ := List.mem_iff_getElem?.1 ho
 refine List.mem_iff_getElem?.2 ⟨i, ?_⟩
 rw [List.getElem?_zip_eq_some]
 exact ⟨hi, by unfold costsV; rw [List.getElem?_map, hi]; rfl⟩

/-- What relaxed.Max says of a state. -/
def maxH (t : Tsk) (x : Nat) : Int := greatL (valuesV greatL t (costsV t) (facts x)) t.goal
theorem max_adm {t : Tsk} (ok : t.Ok) (L : List Nat) : Adm (wordsOf t.ops) L (goalB (wd t.goal)) (maxH t) := by
 have h0 : ∀ c ∈ costsV t, 0 ≤ c := fun c hc => (costsV_low ok c hc).1
 refine ⟨fun x _ => comb_great _ _ (values_ok comb_great h0 (facts x)).low, fun x _ p y hr ha => ?_⟩
 have V := values_ok (t := t) comb_great h0 (facts x)
 have hb := costN_bound (ops_cost ok) p
 have key := run_inv (t := t) (Inv := fun z c => 0 ≤ c ∧ ∀ q ∈ facts z, getV (valuesV greatL t (costsV t) (facts x)) q ≤ c ∧ getV (valuesV greatL t (costsV t) (facts x)) q < 1000000000) (by
  intro o z c ho hc ⟨hc0, hi⟩
  have oko := ok.ops o ho
  refine ⟨by have := oko.cost0; omega, fun q hq => ?_⟩
  rcases next_facts oko hq with ⟨h1, _⟩ | h1
  ·have := hi q h1; have := oko.cost0; omega
  ·have h2 := V.step _ (zip_costs ho) q h1
   simp only at h2
   have hpre := can_facts ok.n1 oko hc
   have h3 : greatL (valuesV greatL t (costsV t) (facts x)) o.pre ≤ c := greatL_le hc0 (fun p hp => (hi p (hpre p hp)).1)
   have h4 : greatL (valuesV greatL t (costsV t) (facts x)) o.pre ≤ 999999999 := greatL_le (by decide) (fun p hp => by have := (hi p (hpre p hp)).2; omega)
   have h5 := greatL_low (valuesV greatL t (costsV t) (facts x)) o.pre
   have c0 := oko.cost0; have c1 := oko.cost1
   unfold plusI at h2
   rw [if_neg (by omega)] at h2
   omega) p x y 0 hr ⟨Int.le_refl _, fun q hq => by rw [V.here q hq]; omega⟩
 obtain ⟨k0, k1⟩ := key
 have hg := goal_facts ok.n1 ok.goal ha
 have e1 : maxH t x ≤ 0 + costN (wordsOf t.ops) p := greatL_le k0 (fun q hq => (k1 q (hg q hq)).1)
 have e2 : maxH t x ≤ 999999999 := greatL_le (by decide) (fun q hq => by have := (k1 q (hg q hq)).2; omega)
 exact ⟨by omega, by omega⟩

/-! ### pairs -/
theorem withF_mem {a : List Int} {q x : Int} (h : x ∈ withF a q) : x ∈ a ∨ x = q := by
 unfold withF at h
 rcases (updL_spec a [q] []).2 x |>.1 h with ⟨h1, _⟩ | h1
 ·exact .inl h1
 ·exact .inr (by simpa using h1)
theorem pairs_adm {t : Tsk} (ok : t.Ok) (L : List Nat) (hL : ∀ x ∈ L, Good t.n x) : Adm (wordsOf t.ops) L (goalB (wd t.goal)) (pairsH t) := by
 refine ⟨fun x _ => valueP_bound (pairsV_spec ok (facts x)).1 _, fun x hx p y hr ha => ?_⟩
 obtain ⟨hT, hS, hF⟩ := pairsV_spec ok (facts x)
 have hn0 := ok.n0
 unfold pairsH
 have inn : ∀ q ∈ facts x, 0 ≤ q ∧ q.toNat < t.n.toNat := fun q hq => by have := (isSet_iff.1 (hL x hx).1).1 q hq; omega
 generalize pairsV t (facts x) = v at hT hS hF
 have key := run_inv (t := t) (Inv := fun z c => 0 ≤ c ∧ ∀ a ∈ facts z, (0 ≤ a ∧ a.toNat < t.n.toNat) ∧ ∀ b ∈ facts z, getT v a.toNat b.toNat ≤ c ∧ getT v a.toNat b.toNat < 1000000000) (by
  intro o z c ho hc ⟨hc0, hi⟩
  have oko := ok.ops o ho
  have c0 := oko.cost0; have c1 := oko.cost1
  have hpre := can_facts ok.n1 oko hc
  have hadd := (isSet_iff.1 oko.add).1
  have bound : ∀ S : List Int, (∀ a ∈ S, a ∈ facts z) → plusI (valueP v S) o.cost ≤ c + o.cost ∧ plusI (valueP v S) o.cost < 1000000000 := fun S hS => by
   have h1 : valueP v S ≤ c := valueP_le hc0 (fun a ha b hb => ((hi a (hS a ha)).2 b (hS b hb)).1)
   have h2 : valueP v S ≤ 999999999 := valueP_le (by decide) (fun a ha b hb => by have := ((hi a (hS a ha)).2 b (hS b hb)).2; omega)
   have h3 := valueP_low v S
   unfold plusI
   rw [if_neg (by omega)]
   omega
  have mixed : ∀ a b : Int, a ∈ o.add → b ∉ o.add → (b ∈ facts z ∧ b ∉ o.del) → getT v a.toNat b.toNat ≤ c + o.cost ∧ getT v a.toNat b.toNat < 1000000000 := fun a b ha hb hz => by
   have hbn := (hi b hz.1).1
   have hd := (opsP_done (pairs_need ok) hT hF ho ha).2 b.toNat hbn.2 (by rw [show ((b.toNat : Nat) : Int) = b by omega]; exact hb) (by rw [show ((b.toNat : Nat) : Int) = b by omega]; exact hz.2)
   rw [show ((b.toNat : Nat) : Int) = b by omega] at hd
   have h2 := bound (withF o.pre b) (fun y hy => by
    rcases withF_mem hy with h | rfl
    ·exact hpre y h
    ·exact hz.1)
   omega
  refine ⟨by omega, fun a ha => ⟨?_, fun b hb => ?_⟩⟩
  ·rcases next_facts oko ha with ⟨h1, _⟩ | h1
   ·exact (hi a h1).1
   ·have := hadd a h1; omega
  ·by_cases ha' : a ∈ o.add
   ·by_cases hb' : b ∈ o.add
    ·have h1 := (opsP_done (pairs_need ok) hT hF ho ha').1 b hb'
     have h2 := bound o.pre hpre
     omega
    ·exact mixed a b ha' hb' ((next_facts oko hb).resolve_right hb')
   ·have hza := (next_facts oko ha).resolve_right ha'
    by_cases hb' : b ∈ o.add
    ·rw [hT.sym]; exact mixed b a hb' ha' hza
    ·have hzb := (next_facts oko hb).resolve_right hb'
     have := (hi a hza.1).2 b hzb.1; omega) p x y 0 hr ⟨Int.le_refl _, fun a ha => ⟨inn a ha, fun b hb => by
      have h1 := hS a.toNat b.toNat
      rw [startT_get _ (inn a ha).2 (inn b hb).2] at h1
      have e1 : ((a.toNat : Nat) : Int) = a := by have := (inn a ha).1; omega
      have e2 : ((b.toNat : Nat) : Int) = b := by have := (inn b hb).1; omega
      rw [e1, e2, if_pos ⟨ha, hb⟩] at h1
      omega⟩⟩
 obtain ⟨k0, k1⟩ := key
 have hg := goal_facts ok.n1 ok.goal ha
 have e1 : valueP v t.goal ≤ 0 + costN (wordsOf t.ops) p := valueP_le k0 (fun a ha b hb => ((k1 a (hg a ha)).2 b (hg b hb)).1)
 have e2 : valueP v t.goal ≤ 999999999 := valueP_le (by decide) (fun a ha b hb => by have := ((k1 a (hg a ha)).2 b (hg b hb)).2; omega)
 have hb := costN_bound (ops_cost ok) p
 exact ⟨by omega, by omega⟩

end Go.Proofs.YtdokakhgflljgaaGreat
