/- The reference: queueCode, all cases. -/
import Derived.Test.YtlghadoejmnllaaRefG
namespace Go.Proofs.Ytlghadoejmnllaa
open Go.RowKit

theorem code_any (w : World) (vI vK vT : Value) (t : Int) (A : List (Int × Int)) (hI : Ints w vI (A.map Prod.fst)) (hK : Ints w vK (A.map Prod.snd)) (k i y : Int) :
    Calls Try.prog 20 #[.agg #[vI, vK, vT, .int .i64 t], .agg #[.int .i64 k, .int .i64 i, .int .i64 y]] w fun e w' => e = .returned (.int .i64 (stepR A k i y).1) ∧ Keeps (fun _ => False) w w' := by
  have st : ∀ c, formC k i y = c → c ≠ 0 → (stepR A k i y).1 = c := fun c h h0 => by unfold stepR; rw [if_pos (by rw [h]; exact h0)]; exact h
  by_cases hk : 1 ≤ k ∧ k ≤ 4
  · have k1 := inB_true hk.1 hk.2
    by_cases hi : 0 ≤ i ∧ i ≤ 30
    · have k2 := inB_true hi.1 hi.2
      by_cases hy : 0 ≤ y ∧ y ≤ 1000000
      · have k3 := inB_true hy.1 hy.2
        by_cases c3 : k = 3
        · subst c3
          by_cases ci : i = 0
          · subst ci
            by_cases cy : y = 0
            · subst cy
              have hf : formC 3 0 0 = 0 := by decide
              have hs : (stepR A 3 0 0).1 = if A.length = 0 then 11 else 0 := by
                unfold stepR
                rw [if_neg (by rw [hf]; simp), if_neg (by decide), if_neg (by decide), if_pos rfl]
                cases hm : firstMin A with
                | none => rw [firstMin_none.1 hm]; rfl
                | some p =>
                  have : A.length ≠ 0 := fun e => by rw [List.length_eq_zero_iff.1 e] at hm; cases hm
                  rw [if_neg this]
              by_cases hl : A.length = 0
              · rw [hs, if_pos hl]
                exact code_3a w vI vK vT t _ _ hI k1 k2 k3 rfl (by simpa using hl)
              · rw [hs, if_neg hl]
                exact code_3b w vI vK vT t _ _ hI k1 k2 k3 rfl (by rw [List.length_map]; omega)
            · rw [st 5 (by unfold formC; rw [if_neg (by omega), if_neg (by omega), if_pos (by omega)]) (by decide)]
              exact code_mal3b w vI vK vT t y k1 k2 k3 (by simpa using cy)
          · rw [st 5 (by unfold formC; rw [if_neg (by omega), if_neg (by omega), if_pos (by omega)]) (by decide)]
            exact code_mal3a w vI vK vT t i y k1 k2 k3 (by simpa using ci)
        · by_cases c4 : k = 4
          · subst c4
            by_cases cy : y = 0
            · subst cy
              have hf : formC 4 i 0 = 0 := by unfold formC; rw [if_neg (by omega), if_neg (by omega), if_neg (by omega)]
              rcases place_look A i with ⟨h1, h2⟩ | ⟨p, k0, h1, h2, h3⟩
              · have hs : (stepR A 4 i 0).1 = 6 := by unfold stepR; rw [if_neg (by rw [hf]; simp), if_neg (by decide), if_neg (by decide), if_neg (by decide), h1]
                rw [hs]
                exact code_4a w vI vK vT t i _ hI k1 k2 k3 h2
              · have hs : (stepR A 4 i 0).1 = 0 := by unfold stepR; rw [if_neg (by rw [hf]; simp), if_neg (by decide), if_neg (by decide), if_neg (by decide), h1]
                rw [hs]
                exact code_4b w vI vK vT t i _ hI k1 k2 k3 p h2
            · rw [st 5 (by unfold formC; rw [if_neg (by omega), if_neg (by omega), if_pos (by omega)]) (by decide)]
              exact code_mal4 w vI vK vT t i y k1 k2 k3 (by simpa using cy)
          · have hf : formC k i y = 0 := by unfold formC; rw [if_neg (by omega), if_neg (by omega), if_neg (by omega)]
            by_cases c1 : k = 1
            · subst c1
              rcases place_look A i with ⟨h1, h2⟩ | ⟨p, k0, h1, h2, h3⟩
              · have hs : (stepR A 1 i y).1 = 0 := by unfold stepR; rw [if_neg (by rw [hf]; simp), if_pos rfl, h1]
                rw [hs]
                exact code_1b w vI vK vT t i y _ hI k1 k2 k3 h2
              · have hs : (stepR A 1 i y).1 = 7 := by unfold stepR; rw [if_neg (by rw [hf]; simp), if_pos rfl, h1]
                rw [hs]
                exact code_1a w vI vK vT t i y _ hI k1 k2 k3 p h2
            · obtain rfl : k = 2 := by omega
              rcases place_look A i with ⟨h1, h2⟩ | ⟨p, k0, h1, h2, h3⟩
              · have hs : (stepR A 2 i y).1 = 6 := by unfold stepR; rw [if_neg (by rw [hf]; simp), if_neg (by decide), if_pos rfl, h1]
                rw [hs]
                exact code_2a w vI vK vT t i y _ hI k1 k2 k3 h2
              · have hp : (A.map Prod.snd)[p]? = some k0 := by rw [List.getElem?_map, h3]; rfl
                by_cases hc : k0 ≤ y
                · have hs : (stepR A 2 i y).1 = 11 := by unfold stepR; rw [if_neg (by rw [hf]; simp), if_neg (by decide), if_pos rfl, h1]; simp only; rw [if_pos hc]
                  rw [hs]
                  exact code_2b w vI vK vT t i y _ hI k1 k2 k3 _ hK (by simp) p h2 k0 hp hc
                · have hs : (stepR A 2 i y).1 = 0 := by unfold stepR; rw [if_neg (by rw [hf]; simp), if_neg (by decide), if_pos rfl, h1]; simp only; rw [if_neg hc]
                  rw [hs]
                  exact code_2c w vI vK vT t i y _ hI k1 k2 k3 _ hK (by simp) p h2 k0 hp hc
      · rw [st 3 (by unfold formC; rw [if_neg (by omega), if_pos (by omega)]) (by decide)]
        exact code_key w vI vK vT t k i y k1 k2 (inB_false' (by omega))
    · rw [st 3 (by unfold formC; rw [if_neg (by omega), if_pos (by omega)]) (by decide)]
      exact code_item w vI vK vT t k i y k1 (inB_false' (by omega))
  · rw [st 4 (by unfold formC; rw [if_pos (by omega)]) (by decide)]
    exact code_kind w vI vK vT t k i y (inB_false' (by omega))

end Go.Proofs.Ytlghadoejmnllaa
