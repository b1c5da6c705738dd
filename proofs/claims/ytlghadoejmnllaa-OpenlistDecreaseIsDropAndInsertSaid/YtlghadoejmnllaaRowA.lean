/- The rows' frame: an argument of type []int, read. -/
import Derived.Test.YtlghadoejmnllaaRes
import Derived.Test.YtlghadoejmnllaaPlayA
import Derived.Test.YtlghadoejmnllaaRows
import Derived.ProofKit
namespace Go.Proofs.Ytlghadoejmnllaa
open Go.ChangeShapes Go.WideShapes Go.ChangeAt Go.RowKit

theorem cells_int : Try.prog.cellsOf 3 = 1 := by kernel_rfl

theorem opened_ints {H : Type} {enc : TypeId × Value → H} {W : World} {v : Value} {d0 : DataW H} {p : List MemPlace}
    (h0 : DataW.Trod enc Try.prog W 0 (fun _ => true) true 23 v d0 p) (hv : ∃ a n c, v = .slice a n c) : ∃ l, Ints W v l := by
  obtain ⟨a0, len, cap, rfl⟩ := hv
  obtain ⟨fuel, hf⟩ := h0
  rcases open_ints Try.underlying23 Try.underlying3 cells_int hf with ⟨hcs, hx⟩ | ⟨a, len', cap', zs, hcs, _, hl, hm, hz, hx, hcell, hwz⟩
  · simp [Value.cells] at hcs
    obtain ⟨rfl, rfl, rfl⟩ := hcs
    exact ⟨[], none, 0, rfl, by simp, fun h => by simp at h⟩
  · simp [Value.cells] at hcs
    obtain ⟨rfl, rfl, rfl⟩ := hcs
    simp only [if_true] at hz
    have hlt : (zs.take len).length = len := by simp; omega
    refine ⟨zs.take len, some a, cap, by rw [hlt], by rw [hlt]; omega, fun h => ?_⟩
    rw [hlt] at h
    obtain ⟨b, off, spot⟩ := a
    have hspot : spot = none := by simpa [Addr.add] using World.cell?_spot (hcell 0 (by omega))
    subst hspot
    refine ⟨b, off, rfl, fun j x hj => ?_⟩
    rw [List.getElem?_map, List.getElem?_take] at hj
    split at hj
    · have := hcell j (by omega)
      rw [add_plain] at this
      rw [List.getD_eq_getElem?_getD] at this
      obtain ⟨y, hy⟩ : ∃ y, zs[j]? = some y := ⟨_, List.getElem?_eq_getElem (by omega)⟩
      rw [hy] at this hj
      simp at hj this
      subst hj
      exact this
    · simp at hj

end Go.Proofs.Ytlghadoejmnllaa
