/- novelty: the law that Width is the reference's. -/
import Derived.Test.YtcfcmmajlkkabaaNovRef
import Derived.Test.YtcfcmmajlkkabaaExN
namespace Go.Proofs.Ytcfcmmajlkkabaa
open Go.RowKit

def LeastRel (t : Tsk) (j : Nat) (x : Int) : Prop := (x = -1 ∧ ∀ q, j ≤ q → q ≤ 4 → widthMiss t q) ∨ ∃ q0 : Nat, x = (q0 : Int) ∧ j ≤ q0 ∧ q0 ≤ 4 ∧ widthHit t q0 ∧ ∀ q, j ≤ q → q < q0 → widthMiss t q
theorem LeastRel.miss {t : Tsk} {j : Nat} {x : Int} (h : LeastRel t (j + 1) x) (hm : widthMiss t j) : LeastRel t j x := by
  rcases h with ⟨h1, h2⟩ | ⟨q0, h1, h2, h3, h4, h5⟩
  · refine .inl ⟨h1, fun q hq hq4 => ?_⟩
    by_cases e : q = j
    · subst e; exact hm
    · exact h2 q (by omega) hq4
  · refine .inr ⟨q0, h1, by omega, h3, h4, fun q hq hlt => ?_⟩
    by_cases e : q = j
    · subst e; exact hm
    · exact h5 q (by omega) hlt
theorem LeastRel.hit {t : Tsk} {j : Nat} (hj : j ≤ 4) (hm : widthHit t j) : LeastRel t j (j : Int) := .inr ⟨j, rfl, Nat.le_refl _, hj, hm, fun q h1 h2 => by omega⟩
theorem hit_miss {t : Tsk} {j : Nat} (h : widthHit t j) (h' : widthMiss t j) : False := by
  obtain ⟨p, m, h⟩ := h
  obtain ⟨m', h'⟩ := h'
  have := (h.unique h').1
  cases this

set_option maxRecDepth 100000 in
set_option maxHeartbeats 4000000 in
theorem nwidthLaw_any (w : World) (vi vg vo : Value) (t : Tsk) (h : TaskAt w vi vg vo t) :
    Calls Try.prog 7 #[.agg #[.int .i64 t.n, vi, vg, vo]] w fun e w' => e = .returned (.bool true) ∧ Keeps (fun _ => False) w w' := by
  obtain ⟨ai, ci, h1, _⟩ := h.init.form
  obtain ⟨ag, cg, h2, _⟩ := h.goal.form
  obtain ⟨ao, co, h3, hmo⟩ := h.ops.form
  subst h1 h2 h3
  have HB := Lib.hid (Four.new w (.int .i64 t.n) (.slice ai t.init.length ci) (.slice ag t.goal.length cg) (.slice ao t.ops.length co) 25)
  have K1 := (Keeps.refl (fun _ => False) w).alloc (.cells #[.int .i64 t.n, .slice ai t.init.length ci, .slice ag t.goal.length cg, .slice ao t.ops.length co] 25)
  have HT := Lib.hid (h.keeps0 K1); have HK := Lib.hid K1
  clear h K1
  go_enter Try.func7, Try.ntmps7
  go_upto_region 1 with fail
  generalize (w.alloc (.cells #[.int .i64 t.n, .slice ai t.init.length ci, .slice ag t.goal.length cg, .slice ao t.ops.length co] 25)) = w1 at HB HT HK ⊢
  generalize w.heap.size = bt at HB ⊢
  go_wp2_with fail
  refine (noveltyExample_any _).mono ?_; rintro e w2 ⟨rfl, hk⟩
  have HB2 := Lib.hid (HB.out.keeps0 hk); have HT2 := Lib.hid (HT.out.keeps0 hk); have K2 := Lib.hid (HK.out.trans hk)
  have hbx := HB2.out.lt
  obtain ⟨d0, d1, d2, d3⟩ := HB2.out
  clear hk
  go_wp2_with fail
  refine (wide_any _ _ _ _ t HT2.out).mono ?_; rintro e w3 ⟨rfl, hk⟩
  have HB3 := Lib.hid (HB2.out.keeps0 hk); have HT3 := Lib.hid (HT2.out.keeps0 hk); have K3 := Lib.hid (K2.out.trans hk)
  clear d0 d1 d2 d3 hk hbx HB HT HK HB2 HT2 K2
  cases hw : wideB t with
  | true =>
    clear hw
    go_wp2_with fail
    go_ret
    exact ⟨rfl, K3.out⟩
  | false =>
    clear hw
    have hbx := HB3.out.lt
    obtain ⟨d0, d1, d2, d3⟩ := HB3.out
    go_wp2_with fail
    refine (width_any _ _ _ _ t HT3.out).mono ?_; rintro e w4 ⟨hk, n, ok, c, i, rfl, hr⟩
    have KA := hk.alloc (.cells #[.int .i64 c, .int .i64 i] 29)
    have HF5 := Lib.hid (heap_alloc_new w4 (.cells #[.int .i64 c, .int .i64 i] 29))
    have HB5 := Lib.hid (HB3.out.keeps0 KA); have HT5 := Lib.hid (HT3.out.keeps0 KA); have K5 := Lib.hid (K3.out.trans KA); have HR := Lib.hid hr
    clear d0 d1 d2 d3 hbx hk KA hr HB3 HT3 K3
    simp only [fltV]
    go_upto_region 6 with fail
    generalize w4.alloc (.cells #[.int .i64 c, .int .i64 i] 29) = w5 at HF5 HB5 HT5 K5 ⊢
    generalize w4.heap.size = b4 at HF5 ⊢
    have hbx := HB5.out.lt
    obtain ⟨d0, d1, d2, d3⟩ := HB5.out
    go_wp2_with fail
    refine (explored_any _ _ _ _ t HT5.out).mono ?_; rintro e w6 ⟨rfl, hk⟩
    generalize hex : expF t = g at HR
    have HEX := Lib.hid hex
    have KA := hk.alloc (.cells #[.int .i64 g.1, .int .i64 g.2] 29)
    have H7 := Lib.hid (heap_alloc_new w6 (.cells #[.int .i64 g.1, .int .i64 g.2] 29))
    have K57 := Lib.hid KA
    clear d0 d1 d2 d3 hbx hk KA hex
    go_upto_region 7 with fail
    generalize w6.alloc (.cells #[.int .i64 g.1, .int .i64 g.2] 29) = w7 at H7 K57 ⊢
    generalize w6.heap.size = b6 at H7 ⊢
    obtain ⟨q0, q1, y0, y1, hl6⟩ := pair_cells H7.out
    obtain ⟨p0, p1, z0, z1, hl5⟩ := pair_cells (K57.out.heap HF5.out (fun h => h))
    clear y0 y1 z0 z1
    rcases HR.out with ⟨rfl, hc, rfl, rfl⟩ | ⟨rfl, rfl, rfl, hok, l, hx, hrest⟩
    · have hc3 : (c != 0) = true := by simpa using hc
      clear hc
      go_wp2_with fail
      go_ret
      exact ⟨rfl, K5.out.trans K57.out⟩
    · have OK := Lib.hid hok; have HX := Lib.hid hx; have HREST := Lib.hid hrest
      clear hok hx hrest HR
      go_wp2_with fail
      go_loopw [7, 8] (fun v7 v8 wr => ∃ (j : Nat) (x z : Int), z = (j : Int) - 1 ∧ j ≤ 5 ∧ v7 = .int .i64 x ∧ v8 = .int .i64 z ∧ LeastRel t j x ∧ Keeps (fun _ => False) w7 wr) (fun _ v8 _ => (intOf v8 + 1).toNat)
      case atStart => exact ⟨5, -1, 4, rfl, by omega, rfl, rfl, .inl ⟨rfl, fun q h1 h2 => by omega⟩, Keeps.refl _ _⟩
      case round =>
        obtain ⟨j, x, z, hz, hj, rfl, rfl, hl, hkr⟩ := hrel
        have HL := Lib.hid hl; have HKR := Lib.hid hkr
        have HBr := HB5.out.keeps0 (K57.out.trans hkr)
        have hbx := HBr.lt
        obtain ⟨d0, d1, d2, d3⟩ := HBr
        clear hl hkr q0 q1 hl6 p0 p1 hl5
        by_cases h0 : 0 ≤ z
        · obtain ⟨kn, rfl⟩ : ∃ kn : Nat, z = (kn : Int) := ⟨z.toNat, by omega⟩
          obtain rfl : j = kn + 1 := by omega
          clear hz
          go_wp2_with fail
          refine (novRef_any _ _ _ _ t kn l (HT5.out.keeps0 (K57.out.trans HKR.out)) OK.out HX.out (by omega)).mono ?_; rintro e wq ⟨hk, o, m, v', hnv, rfl, hiv, -⟩
          have HKQ := Lib.hid (HKR.out.trans hk)
          clear hk hiv d0 d1 d2 d3 hbx
          cases o with
          | none =>
            have HL2 := Lib.hid (HL.out.miss ⟨m, hnv⟩)
            clear hnv
            simp only [Option.isSome_none]
            go_wp2_with fail
            go_roundw
            case rel => exact ⟨kn, x, (kn : Int) - 1, rfl, by omega, rfl, rfl, HL2.out, HKQ.out⟩
            case measure => simp only [intOf]; omega
          | some p =>
            have HL2 := Lib.hid (LeastRel.hit (t := t) (j := kn) (by omega) ⟨p, m, hnv⟩)
            clear hnv
            simp only [Option.isSome_some]
            go_wp2_with fail
            go_roundw
            case rel => exact ⟨kn, (kn : Int), (kn : Int) - 1, rfl, by omega, rfl, rfl, HL2.out, HKQ.out⟩
            case measure => simp only [intOf]; omega
        · obtain rfl : j = 0 := by omega
          clear hz d0 d1 d2 d3 hbx
          have KE := Lib.hid (K5.out.trans (K57.out.trans HKR.out))
          obtain ⟨p0, p1, z0, z1, hl5⟩ := pair_cells ((K57.out.trans HKR.out).heap HF5.out (fun h => h))
          clear z0 z1
          rcases HREST.out with ⟨k, hk4, rfl, rfl, hhit, hmiss⟩ | ⟨rfl, rfl, hmiss⟩
          · have hx2 : x = (k : Int) := by
              rcases HL.out with ⟨_, h2⟩ | ⟨q0, h1, _, h3, h4, h5⟩
              · exact (hit_miss hhit (h2 k (by omega) hk4)).elim
              · rcases Nat.lt_trichotomy k q0 with h | h | h
                · exact (hit_miss hhit (h5 k (by omega) h)).elim
                · rw [h1, h]
                · exact (hit_miss h4 (hmiss q0 h)).elim
            subst hx2
            clear hhit hmiss
            go_wp2_with fail
            go_ret
            exact ⟨rfl, KE.out⟩
          · have hx2 : x = -1 := by
              rcases HL.out with ⟨h1, _⟩ | ⟨q0, h1, _, h3, h4, h5⟩
              · exact h1
              · exact (hit_miss h4 (hmiss q0 h3)).elim
            subst hx2
            clear hmiss
            go_wp2_with fail
            go_ret
            exact ⟨rfl, KE.out⟩

end Go.Proofs.Ytcfcmmajlkkabaa
