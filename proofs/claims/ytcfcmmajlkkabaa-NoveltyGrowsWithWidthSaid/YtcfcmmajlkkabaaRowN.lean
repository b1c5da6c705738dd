/- The rows' frame: arguments of type [][]int. -/
import Derived.Test.YtcfcmmajlkkabaaRowT
import Derived.Test.YtcfcmmajlkkabaaLists
namespace Go.Proofs.Ytcfcmmajlkkabaa
open Go.ChangeShapes Go.WideShapes Go.ChangeAt Go.RowKit Go.Deep

/-- The slice has room for its elements. -/
def Room (v : Value) (ls : List (List Int)) : Prop := (v = .slice none 0 0 ∧ ls = []) ∨ ∃ a cl, v = .slice (some a) ls.length cl ∧ ls.length ≤ cl

theorem Lists.take {w : World} {a : Addr} {n cl m : Nat} {ls : List (List Int)} (h : Lists w (.slice (some a) n cl) ls) (hm : m ≤ ls.length) : Lists w (.slice (some a) m cl) (ls.take m) := by
  obtain ⟨ao, cap, hv, hx, hc⟩ := h
  have hl : (ls.take m).length = m := by rw [List.length_take]; omega
  refine ⟨some a, cl, by rw [hl], by rw [hl]; omega, fun h0 => ?_⟩
  rw [hl] at h0
  obtain ⟨b, off, hb, hcell⟩ := hc (by omega)
  simp only [Value.slice.injEq] at hv
  refine ⟨b, off, by rw [hv.1, hb], fun i l hi => ?_⟩
  rw [List.getElem?_take] at hi
  split at hi
  · exact hcell i l hi
  · cases hi

section
variable {H : Type} {enc : TypeId × Value → H} {P : Program} {w : World} {base : Nat} {spare : Nat → Bool} {held : Bool}
theorem trodAll_threeR {t0 t1 t2 : TypeId} {args : Array Value} {ds : List (DataW H)} {ps : List MemPlace} (h : DataW.TrodAll enc P w base spare held [t0, t1, t2] args.toList ds ps) :
    ∃ v0 v1 v2 d0 d1 d2 p0 p1 p2, args = #[v0, v1, v2] ∧ ds = [d0, d1, d2] ∧ ps = p0 ++ (p1 ++ p2) ∧ DataW.Trod enc P w base spare held t0 v0 d0 p0 ∧ DataW.Trod enc P w base spare held t1 v1 d1 p1 ∧ DataW.Trod enc P w base spare held t2 v2 d2 p2 := by
  obtain ⟨v0, vs, d0, ds0, p0, q0, hargs, rfl, rfl, h0, hrest⟩ := trodAll_cons h
  obtain ⟨v1, vs1, d1, ds1, p1, q1, rfl, rfl, rfl, h1, hrest⟩ := trodAll_cons hrest
  obtain ⟨v2, vs2, d2, ds2, p2, q2, rfl, rfl, rfl, h2, hrest⟩ := trodAll_cons hrest
  obtain ⟨rfl, rfl, rfl⟩ := trodAll_nil hrest
  exact ⟨v0, v1, v2, d0, d1, d2, p0, p1, p2, by cases args; simp_all, rfl, by simp, h0, h1, h2⟩
theorem trodAll_fourR {t0 t1 t2 t3 : TypeId} {args : Array Value} {ds : List (DataW H)} {ps : List MemPlace} (h : DataW.TrodAll enc P w base spare held [t0, t1, t2, t3] args.toList ds ps) :
    ∃ v0 v1 v2 v3 d0 d1 d2 d3 p0 p1 p2 p3, args = #[v0, v1, v2, v3] ∧ ds = [d0, d1, d2, d3] ∧ ps = p0 ++ (p1 ++ (p2 ++ p3)) ∧ DataW.Trod enc P w base spare held t0 v0 d0 p0 ∧ DataW.Trod enc P w base spare held t1 v1 d1 p1 ∧ DataW.Trod enc P w base spare held t2 v2 d2 p2 ∧ DataW.Trod enc P w base spare held t3 v3 d3 p3 := by
  obtain ⟨v0, vs, d0, ds0, p0, q0, hargs, rfl, rfl, h0, hrest⟩ := trodAll_cons h
  obtain ⟨v1, vs1, d1, ds1, p1, q1, rfl, rfl, rfl, h1, hrest⟩ := trodAll_cons hrest
  obtain ⟨v2, vs2, d2, ds2, p2, q2, rfl, rfl, rfl, h2, hrest⟩ := trodAll_cons hrest
  obtain ⟨v3, vs3, d3, ds3, p3, q3, rfl, rfl, rfl, h3, hrest⟩ := trodAll_cons hrest
  obtain ⟨rfl, rfl, rfl⟩ := trodAll_nil hrest
  exact ⟨v0, v1, v2, v3, d0, d1, d2, d3, p0, p1, p2, p3, by cases args; simp_all, rfl, by simp, h0, h1, h2, h3⟩
theorem trodAll_sixR {t0 t1 t2 t3 t4 t5 : TypeId} {args : Array Value} {ds : List (DataW H)} {ps : List MemPlace} (h : DataW.TrodAll enc P w base spare held [t0, t1, t2, t3, t4, t5] args.toList ds ps) :
    ∃ v0 v1 v2 v3 v4 v5 d0 d1 d2 d3 d4 d5 p0 p1 p2 p3 p4 p5, args = #[v0, v1, v2, v3, v4, v5] ∧ ds = [d0, d1, d2, d3, d4, d5] ∧ ps = p0 ++ (p1 ++ (p2 ++ (p3 ++ (p4 ++ p5)))) ∧ DataW.Trod enc P w base spare held t0 v0 d0 p0 ∧ DataW.Trod enc P w base spare held t1 v1 d1 p1 ∧ DataW.Trod enc P w base spare held t2 v2 d2 p2 ∧ DataW.Trod enc P w base spare held t3 v3 d3 p3 ∧ DataW.Trod enc P w base spare held t4 v4 d4 p4 ∧ DataW.Trod enc P w base spare held t5 v5 d5 p5 := by
  obtain ⟨v0, vs, d0, ds0, p0, q0, hargs, rfl, rfl, h0, hrest⟩ := trodAll_cons h
  obtain ⟨v1, v2, v3, v4, v5, d1, d2, d3, d4, d5, p1, p2, p3, p4, p5, e1, e2, e3, h1, h2, h3, h4, h5⟩ : ∃ v1 v2 v3 v4 v5 d1 d2 d3 d4 d5 p1 p2 p3 p4 p5, vs = [v1, v2, v3, v4, v5] ∧ ds0 = [d1, d2, d3, d4, d5] ∧ q0 = p1 ++ (p2 ++ (p3 ++ (p4 ++ p5))) ∧ DataW.Trod enc P w base spare held t1 v1 d1 p1 ∧ DataW.Trod enc P w base spare held t2 v2 d2 p2 ∧ DataW.Trod enc P w base spare held t3 v3 d3 p3 ∧ DataW.Trod enc P w base spare held t4 v4 d4 p4 ∧ DataW.Trod enc P w base spare held t5 v5 d5 p5 := by
    obtain ⟨v1, vs1, d1, ds1, p1, q1, rfl, rfl, rfl, h1, hrest⟩ := trodAll_cons hrest
    obtain ⟨v2, vs2, d2, ds2, p2, q2, rfl, rfl, rfl, h2, hrest⟩ := trodAll_cons hrest
    obtain ⟨v3, vs3, d3, ds3, p3, q3, rfl, rfl, rfl, h3, hrest⟩ := trodAll_cons hrest
    obtain ⟨v4, vs4, d4, ds4, p4, q4, rfl, rfl, rfl, h4, hrest⟩ := trodAll_cons hrest
    obtain ⟨v5, vs5, d5, ds5, p5, q5, rfl, rfl, rfl, h5, hrest⟩ := trodAll_cons hrest
    obtain ⟨rfl, rfl, rfl⟩ := trodAll_nil hrest
    exact ⟨v1, v2, v3, v4, v5, d1, d2, d3, d4, d5, p1, p2, p3, p4, p5, rfl, rfl, by simp, h1, h2, h3, h4, h5⟩
  subst e1 e2 e3
  exact ⟨v0, v1, v2, v3, v4, v5, d0, d1, d2, d3, d4, d5, p0, p1, p2, p3, p4, p5, by cases args; simp_all, rfl, rfl, h0, h1, h2, h3, h4, h5⟩
theorem trodAll_mk6 {t0 t1 t2 t3 t4 t5 : TypeId} {v0 v1 v2 v3 v4 v5 : Value} {d0 d1 d2 d3 d4 d5 : DataW H} {p0 p1 p2 p3 p4 p5 : List MemPlace} (h0 : DataW.Trod enc P w base spare held t0 v0 d0 p0) (h1 : DataW.Trod enc P w base spare held t1 v1 d1 p1)
    (h2 : DataW.Trod enc P w base spare held t2 v2 d2 p2) (h3 : DataW.Trod enc P w base spare held t3 v3 d3 p3) (h4 : DataW.Trod enc P w base spare held t4 v4 d4 p4) (h5 : DataW.Trod enc P w base spare held t5 v5 d5 p5) :
    DataW.TrodAll enc P w base spare held [t0, t1, t2, t3, t4, t5] [v0, v1, v2, v3, v4, v5] [d0, d1, d2, d3, d4, d5] (p0 ++ (p1 ++ (p2 ++ (p3 ++ (p4 ++ p5))))) := ⟨p0, _, h0, ⟨p1, _, h1, trodAll_mk4 h2 h3 h4 h5, rfl⟩, rfl⟩
end

set_option maxRecDepth 100000 in
theorem lists_of_trod {H : Type} {enc : TypeId × Value → H} {W : World} {v : Value} {fuel : Nat} {x : DataW H × List MemPlace}
    (hf : DataW.trod enc Try.prog W 0 (fun _ => true) true fuel 33 [v] = some x) : ∃ (ls : List (List Int)), Lists W v ls ∧ Room v ls := by
  rcases open_slice Try.underlying33 hf with ⟨hcs, hx⟩ | ⟨a, len, cap, m, n, D, Pl, hcs, hb, hl, hm, hmm, hx, each⟩
  · simp at hcs
    subst hcs
    exact ⟨[], ⟨none, 0, rfl, by simp, fun h => by simp at h⟩, .inl ⟨rfl, rfl⟩⟩
  · simp at hcs
    subst hcs
    simp only [if_true] at hmm
    have all : ∀ i, i < len → ∃ (l : List Int) (u : Value), W.cell? (a.add i) = some u ∧ Ints W u l := by
      intro i hi
      obtain ⟨cs', h1, h2⟩ := each i (by omega)
      rw [cells_ints] at h1
      obtain ⟨_, hlen, hcell⟩ := World.cells?_some h1
      match cs', hlen with
      | [v0], _ =>
        obtain ⟨l0, e0⟩ := ints_of_trod h2
        have c0 := hcell 0 (by omega)
        rw [add_add] at c0
        exact ⟨l0, v0, by simpa using c0, e0⟩
    have hls : ∀ n, n ≤ len → ∃ ls : List (List Int), ls.length = n ∧ ∀ i l, ls[i]? = some l → ∃ u, W.cell? (a.add i) = some u ∧ Ints W u l := by
      intro n
      induction n with
      | zero => intro _; exact ⟨[], rfl, by simp⟩
      | succ n ih =>
        intro hn
        obtain ⟨ls, h1, h2⟩ := ih (by omega)
        obtain ⟨l, u, ho⟩ := all n (by omega)
        refine ⟨ls ++ [l], by simp [h1], fun i l' hi => ?_⟩
        by_cases hin : i < ls.length
        · rw [List.getElem?_append_left hin] at hi
          exact h2 i l' hi
        · rw [List.getElem?_append_right (by omega)] at hi
          have hz : i - ls.length = 0 := by
            have := (List.getElem?_eq_some_iff.1 hi).1; simp at this; omega
          rw [hz] at hi
          simp at hi
          subst hi
          have : i = n := by omega
          subst this
          exact ⟨u, ho⟩
    obtain ⟨ls, hlen, hcells⟩ := hls len (Nat.le_refl _)
    refine ⟨ls, ⟨some a, cap, by rw [hlen], by rw [hlen]; omega, fun h => ?_⟩, .inr ⟨a, cap, by rw [hlen], by rw [hlen]; omega⟩⟩
    obtain ⟨l, u, ho, _⟩ := all 0 (by omega)
    obtain ⟨b, off, spot⟩ := a
    have hspot : spot = none := by simpa [Addr.add] using World.cell?_spot ho
    subst hspot
    refine ⟨b, off, rfl, fun i l' hi => ?_⟩
    obtain ⟨u, g0, g1⟩ := hcells i l' hi
    rw [add_plain] at g0
    exact ⟨u, g0, g1⟩

theorem opened_lists {H : Type} {enc : TypeId × Value → H} {W : World} {v : Value} {d0 : DataW H} {p : List MemPlace}
    (h0 : DataW.Trod enc Try.prog W 0 (fun _ => true) true 33 v d0 p) (hv : ∃ a n c, v = .slice a n c) : ∃ (ls : List (List Int)), Lists W v ls ∧ Room v ls := by
  obtain ⟨a0, len, cap, rfl⟩ := hv
  obtain ⟨fuel, hf⟩ := h0
  exact lists_of_trod (x := (d0, p)) (by simpa [Value.cells] using hf)

end Go.Proofs.Ytcfcmmajlkkabaa
