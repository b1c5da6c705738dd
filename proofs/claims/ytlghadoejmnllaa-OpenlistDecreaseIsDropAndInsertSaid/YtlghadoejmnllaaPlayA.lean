/- play, drain: the loops over the operations. -/
import Derived.Test.YtlghadoejmnllaaStepB
namespace Go.Proofs.Ytlghadoejmnllaa
open Go.RowKit

/-- A slice value v of n elements whose cells (of all elements, one behind the other) read as cs. -/
def Sl (w : World) (v : Value) (n : Nat) (cs : List Value) : Prop :=
  ∃ ao cap, v = .slice ao n cap ∧ n ≤ maxLen ∧ (0 < n → ∃ b off, ao = some ⟨b, off, none⟩ ∧ ∀ j x, cs[j]? = some x → w.cell? ⟨b, off + j, none⟩ = some x)

theorem Sl.keeps {S : Nat → Prop} {w w' : World} {v : Value} {n : Nat} {cs : List Value} (h : Sl w v n cs) (hk : Keeps S w w') (hs : ∀ b, S b → w.heap.size ≤ b) : Sl w' v n cs := by
  obtain ⟨ao, cap, hv, hm, h⟩ := h
  refine ⟨ao, cap, hv, hm, fun hn => ?_⟩
  obtain ⟨b, off, ha, hc⟩ := h hn
  exact ⟨b, off, ha, fun j x hj => hk.cell (hc j x hj) (fun hb => by
    have := World.block_lt_of_cell? w _ (hc j x hj); have := hs _ hb; simp at *; omega)⟩

theorem Sl.keeps0 {w w' : World} {v : Value} {n : Nat} {cs : List Value} (h : Sl w v n cs) (hk : Keeps (fun _ => False) w w') : Sl w' v n cs := h.keeps hk (fun _ h => h.elim)

theorem Sl.of_own {w : World} {base : Nat} {e : TypeId} {v : Value} {n : Nat} {xs : List Value} (h : w.ownsRow base e 1 v n xs) : Sl w v n xs := by
  rcases h.2 with ⟨hv, h0⟩ | ⟨g, cap, cur, hv, hb, hg, hn, hm, hs, ht⟩
  · exact ⟨none, 0, by rw [hv, h0], by omega, fun h => by omega⟩
  · refine ⟨_, cap, hv, by omega, fun _ => ⟨g, 0, rfl, fun j x hj => ?_⟩⟩
    rw [Nat.zero_add, cell_of_blk hg]
    rw [← ht, List.getElem?_take] at hj
    split at hj
    · simpa using hj
    · cases hj

/-- A slice of ints that reads as l. -/
def Ints (w : World) (v : Value) (l : List Int) : Prop := Sl w v l.length (l.map (Value.int .i64))

structure QOp where
  k : Int
  i : Int
  y : Int

def opCells (ops : List QOp) : List Value := ops.flatMap fun o => [.int .i64 o.k, .int .i64 o.i, .int .i64 o.y]

theorem opCells_get (ops : List QOp) (j : Nat) (o : QOp) (h : ops[j]? = some o) : (opCells ops)[j * 3]? = some (.int .i64 o.k) ∧ (opCells ops)[j * 3 + 1]? = some (.int .i64 o.i) ∧ (opCells ops)[j * 3 + 2]? = some (.int .i64 o.y) := by
  induction ops generalizing j with
  | nil => simp at h
  | cons a r ih =>
    cases j with
    | zero => simp at h; subst h; simp [opCells]
    | succ j =>
      simp at h
      have := ih j h
      have e : opCells (a :: r) = [.int .i64 a.k, .int .i64 a.i, .int .i64 a.y] ++ opCells r := by simp [opCells]
      rw [e, show (j + 1) * 3 = 3 + j * 3 by omega]
      refine ⟨?_, ?_, ?_⟩
      · rw [List.getElem?_append_right (by simp)]; simpa using this.1
      · rw [List.getElem?_append_right (by simp; omega), show 3 + j * 3 + 1 - [Value.int IntKind.i64 a.k, Value.int IntKind.i64 a.i, Value.int IntKind.i64 a.y].length = j * 3 + 1 by simp; omega]; exact this.2.1
      · rw [List.getElem?_append_right (by simp; omega), show 3 + j * 3 + 2 - [Value.int IntKind.i64 a.k, Value.int IntKind.i64 a.i, Value.int IntKind.i64 a.y].length = j * 3 + 2 by simp; omega]; exact this.2.2

/-- What the operations from number i on come to: the fault, or what is taken and what the queue holds. -/
def playFrom : List QOp → Int → List (Int × Int) → List Int → Except (Int × Int) (List Int × List (Int × Int))
  | [], _, A, tk => .ok (tk, A)
  | o :: r, n, A, tk =>
    if (stepR A o.k o.i o.y).1 ≠ 0 then .error ((stepR A o.k o.i o.y).1, n)
    else playFrom r (n + 1) (stepR A o.k o.i o.y).2.2 (if o.k = 3 then tk ++ [(stepR A o.k o.i o.y).2.1] else tk)

def playQ (ops : List QOp) : Except (Int × Int) (List Int × List (Int × Int)) := if 60 < ops.length then .error (2, -1) else playFrom ops 0 [] []

theorem length_stepR (A : List (Int × Int)) (k i y : Int) : (stepR A k i y).2.2.length ≤ A.length + 1 := by
  have h1 : ∀ x, (A.filter (fun q => q.1 != x)).length ≤ A.length := fun x => List.length_filter_le _ _
  have h2 : ∀ x k, (setA A x k).length ≤ A.length + 1 := fun x k => by unfold setA; simp; exact h1 x
  unfold stepR
  split
  · simp
  · split
    · split <;> simp [h2]
    · split
      · split
        · simp
        · split <;> simp [h2]
      · split
        · split
          · simp
          · have := h1 (by assumption : Int × Int).1; simp only; omega
        · split
          · simp
          · have := h1 i; simp only; omega

theorem Try.info3 : (Try.prog.info? 3).map (fun i => (i.zero, i.size, i.bytes)) = some (some (.int .i64 0), 1, 8) := by kernel_rfl

/-- drain's list. -/
def drainA : Nat → List (Int × Int) → List Int
  | 0, _ => []
  | n + 1, A => match firstMin A with
    | none => []
    | some p => p.1 :: drainA n (A.filter (fun q => q.1 != p.1))

end Go.Proofs.Ytlghadoejmnllaa
