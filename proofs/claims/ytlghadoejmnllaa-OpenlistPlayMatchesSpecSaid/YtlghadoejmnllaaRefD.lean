/- The reference's queue: with. -/
import Derived.Test.YtlghadoejmnllaaRefC
namespace Go.Proofs.Ytlghadoejmnllaa
open Go.RowKit

theorem Out3.ints {w : World} {O : Nat} {t : Int} {vs : Nat → Value} {ls : Nat → List Int} {wr : World} (h : Out3 w O t vs ls wr) {i : Nat} (hi : i < 3) : Ints wr (vs i) (ls i) := Ints.of_own (h.own i hi)

/-- The struct copied into a new block. -/
theorem Out3.copy {w : World} {O : Nat} {t : Int} {vs : Nat → Value} {ls : Nat → List Int} {wr : World} (h : Out3 w O t vs ls wr) :
    Out3 w wr.heap.size t vs ls (wr.alloc (.cells #[vs 0, vs 1, vs 2, .int .i64 t] 46)) := by
  have hk : Keeps (fun _ => False) wr (wr.alloc (.cells #[vs 0, vs 1, vs 2, .int .i64 t] 46)) := (Keeps.refl _ _).alloc _
  exact ⟨heap_alloc_new wr _, fun i hi => hk.ownsRow (h.own i hi) (fun _ _ h => h), fun i b hi hb => by have := ((h.own i hi).lt b hb).2; omega, h.apart, h.keeps.size, h.keeps.trans hk⟩

theorem Out3.app' {w : World} {O : Nat} {t : Int} {vs : Nat → Value} {ls : Nat → List Int} {wr Wa w3 : World} (h : Out3 w O t vs ls wr) {f : Nat} (hf : f < 3) {n : Nat} (hn : (ls f).length = n) {x : Int} {g cap : Nat} (hWa : Keeps (fun _ => False) wr Wa)
    (hown : w3.ownsRow w.heap.size 3 1 (.slice (some ⟨g, 0, none⟩) (n + 1) cap) (n + 1) ((ls f).map (Value.int .i64) ++ [.int .i64 x])) (hgrow : Wa.grownBy w3 (vs f).ownBlock) (hat : (vs f).ownBlock = some g ∨ g = Wa.heap.size) :
    ∃ vs' ls', Out3 w O t vs' ls' (w3.setCell ⟨O, f, none⟩ (.slice (some ⟨g, 0, none⟩) (n + 1) cap)) ∧ vs' f = .slice (some ⟨g, 0, none⟩) (n + 1) cap ∧ ls' f = ls f ++ [x] ∧ ∀ j, j ≠ f → vs' j = vs j ∧ ls' j = ls j := by
  subst hn
  exact ⟨_, _, h.app hf hWa hown hgrow hat, by simp, by simp, fun j hj => by simp [hj]⟩

theorem Out3.kept {w : World} {O : Nat} {t : Int} {vs : Nat → Value} {ls : Nat → List Int} {wr Wa w3 : World} (h : Out3 w O t vs ls wr) (hWa : Keeps (fun _ => False) wr Wa) {f : Nat} (hf : f < 3) (hgrow : Wa.grownBy w3 (vs f).ownBlock) : Keeps (fun _ => False) w w3 :=
  (h.keep hWa).keeps.trans' ((Keeps.refl (fun b => (vs f).ownBlock = some b) Wa).grown hgrow (fun k hk => .inl hk)) (fun b hb => .inr (((h.keep hWa).own f hf).lt b hb).1)

/-- The number set. -/
theorem Out3.time {w : World} {O : Nat} {t : Int} {vs : Nat → Value} {ls : Nat → List Int} {wr : World} (h : Out3 w O t vs ls wr) (u : Int) : Out3 w O u vs ls (wr.setCell ⟨O, 3, none⟩ (.int .i64 u)) := by
  have hk : Keeps (fun b => b = O) wr (wr.setCell ⟨O, 3, none⟩ (.int .i64 u)) := (Keeps.refl (fun b => b = O) wr).setCell (p := ⟨O, 3, none⟩) (.inl rfl) _
  have hn := h.new
  exact ⟨by rw [blk_set_same h.blk]; rfl, fun i hi => hk.ownsRow (h.own i hi) (fun b hb e => h.far i b hi hb e), h.far, h.apart, h.new, h.keeps.trans' hk (fun b hb => .inr (by omega))⟩

theorem four_set {w : World} {B : Nat} {x0 x1 x2 x3 : Value} {T : TypeId} (h : w.heap[B]? = some (.cells #[x0, x1, x2, x3] T (0, 0))) (a b c d : Value) :
    ((((w.setCell ⟨B, 0, none⟩ a).setCell ⟨B, 1, none⟩ b).setCell ⟨B, 2, none⟩ c).setCell ⟨B, 3, none⟩ d).heap[B]? = some (.cells #[a, b, c, d] T (0, 0)) := by
  rw [blk_set_same (blk_set_same (blk_set_same (blk_set_same h _) _) _) _]; rfl
theorem keeps_four {w : World} (B : Nat) (a b c d : Value) : Keeps (fun k => k = B) w ((((w.setCell ⟨B, 0, none⟩ a).setCell ⟨B, 1, none⟩ b).setCell ⟨B, 2, none⟩ c).setCell ⟨B, 3, none⟩ d) :=
  ((((Keeps.refl (fun k => k = B) w).setCell (p := ⟨B, 0, none⟩) (.inl rfl) _).setCell (p := ⟨B, 1, none⟩) (.inl rfl) _).setCell (p := ⟨B, 2, none⟩) (.inl rfl) _).setCell (p := ⟨B, 3, none⟩) (.inl rfl) _

/-- A slice of numbers in a row from block B on. -/
def OwnI (B : Nat) (w : World) (v : Value) (l : List Int) : Prop := w.ownsRow B 3 1 v l.length (l.map (Value.int .i64))
theorem OwnI.ints {B : Nat} {w : World} {v : Value} {l : List Int} (h : OwnI B w v l) : Ints w v l := Ints.of_own h
theorem OwnI.lt {B : Nat} {w : World} {v : Value} {l : List Int} (h : OwnI B w v l) (b : Nat) (hb : v.ownBlock = some b) : B ≤ b ∧ b < w.heap.size := World.ownsRow.lt h b hb
theorem OwnI.keeps {S : Nat → Prop} {B : Nat} {w w' : World} {v : Value} {l : List Int} (h : OwnI B w v l) (hk : Keeps S w w') (hs : ∀ b, v.ownBlock = some b → ¬ S b) : OwnI B w' v l := hk.ownsRow h hs
theorem OwnI.mono {B B' : Nat} {w : World} {v : Value} {l : List Int} (h : OwnI B w v l) (hb : B' ≤ B) : OwnI B' w v l := ownsRow_mono h hb
theorem OwnI.nil (B : Nat) (w : World) : OwnI B w (.slice none 0 0) [] := World.ownsRow_nil _ _ _ _

theorem Ints.keeps {S : Nat → Prop} {w w' : World} {v : Value} {l : List Int} (h : Ints w v l) (hk : Keeps S w w') (hs : ∀ b, S b → w.heap.size ≤ b) : Ints w' v l := Sl.keeps h hk hs

theorem own_ints_keeps {S : Nat → Prop} {w w' : World} {base : Nat} {e : TypeId} {v : Value} {l : List Int} (h : w.ownsRow base e 1 v l.length (l.map (Value.int .i64))) (hk : Keeps S w w') (hs : ∀ b, v.ownBlock = some b → ¬ S b) : Ints w' v l := Ints.of_own (hk.ownsRow h hs)

set_option maxHeartbeats 4000000 in
theorem with_any (w : World) (vI vK vT : Value) (t : Int) (I K T : List Int) (hI : Ints w vI I) (hK : Ints w vK K) (hT : Ints w vT T) (h1 : K.length = I.length) (h2 : T.length = I.length) (hs : I.length ≤ 100000) (x y : Int) (ht : 0 ≤ t ∧ t ≤ 1000000) :
    Calls Try.prog 24 #[.agg #[vI, vK, vT, .int .i64 t], .int .i64 x, .int .i64 y] w fun e w' => ∃ v0 v1 v2, e = .returned (.agg #[v0, v1, v2, .int .i64 (t + 1)]) ∧
      OwnI w.heap.size w' v0 (eraseI I (placeI I x) ++ [x]) ∧ OwnI w.heap.size w' v1 (eraseI K (placeI I x) ++ [y]) ∧ OwnI w.heap.size w' v2 (eraseI T (placeI I x) ++ [t]) ∧ Keeps (fun _ => False) w w' := by
  obtain ⟨aI, cI, hvI, mI⟩ := hI.form
  obtain ⟨aK, cK, hvK, mK⟩ := hK.form
  obtain ⟨aT, cT, hvT, mT⟩ := hT.form
  have hA : ∀ o o', Keeps (fun _ => False) w ((w.alloc o).alloc o') := fun o o' => ((Keeps.refl _ _).alloc o).alloc o'
  have HA := Lib.hid hA
  have hB : ∀ w2 : World, Keeps (fun _ => False) ((w.alloc (.cells #[vI, vK, vT, .int .i64 t] 46)).alloc (.cells #[.slice none 0 0, .slice none 0 0, .slice none 0 0, .int .i64 0] 46)) w2 →
      w2.heap[w.heap.size]? = some (.cells #[vI, vK, vT, .int .i64 t] 46 (0, 0)) ∧ w2.heap[w.heap.size + 1]? = some (.cells #[.slice none 0 0, .slice none 0 0, .slice none 0 0, .int .i64 0] 46 (0, 0)) := fun w2 hk => by
    have e1 := heap_alloc_new w (.cells #[vI, vK, vT, .int .i64 t] 46)
    have e2 := heap_alloc_new (w.alloc (.cells #[vI, vK, vT, .int .i64 t] 46)) (.cells #[.slice none 0 0, .slice none 0 0, .slice none 0 0, .int .i64 0] 46)
    rw [World.size_alloc] at e2
    exact ⟨hk.heap (pair_alloc e1) (fun h => h), hk.heap e2 (fun h => h)⟩
  have HB := Lib.hid hB
  have HI := Lib.hid hI; have HK := Lib.hid hK; have HT := Lib.hid hT
  have H1 := Lib.hid h1; have H2 := Lib.hid h2
  subst hvI hvK hvT
  have t0 := ht.1
  have t1 := ht.2
  obtain ⟨i0, hi0, hz0, hz1, hz2⟩ := info_parts Try.info3
  clear hA hB hI hK hT h1 h2 ht mI mK mT
  go_enter Try.func24, Try.ntmps24
  go_wp2_with fail
  refine (place_any _ _ _ _ t I x (HI.out.keeps0 (HA.out _ _))).mono ?_; rintro e w2 ⟨rfl, hk2⟩
  have K2 := Lib.hid hk2
  have b2 := HB.out w2 hk2
  have c0 : w2.cell? ⟨w.heap.size, 0, none⟩ = some (.slice aI I.length cI) := by rw [cell_of_blk b2.1]; rfl
  have c1 : w2.cell? ⟨w.heap.size, 1, none⟩ = some (.slice aK K.length cK) := by rw [cell_of_blk b2.1]; rfl
  have c2 : w2.cell? ⟨w.heap.size, 2, none⟩ = some (.slice aT T.length cT) := by rw [cell_of_blk b2.1]; rfl
  have c3 : w2.cell? ⟨w.heap.size, 3, none⟩ = some (.int .i64 t) := by rw [cell_of_blk b2.1]; rfl
  have KW2 := Lib.hid ((HA.out _ _).trans hk2)
  clear hk2 b2
  go_wp2_with fail
  refine (without_any _ _ _ _ t I K T (HI.out.keeps0 KW2.out) (HK.out.keeps0 KW2.out) (HT.out.keeps0 KW2.out) H1.out H2.out hs _).mono ?_; rintro e w3 ⟨vs, rfl, hO⟩
  have KW3 := Lib.hid (KW2.out.trans hO.keeps)
  have b3 := HB.out w3 (K2.out.trans hO.keeps)
  have hls : ∃ ls : Nat → List Int, (∀ f, f < 3 → (ls f).length ≤ 100000) ∧ ls 0 = eraseI I (placeI I x) ∧ ls 1 = eraseI K (placeI I x) ∧ ls 2 = eraseI T (placeI I x) ∧ ls = fun f => eraseI (LsOf I K T f) (placeI I x) := ⟨_, fun f hf => by
      have h0 := length_eraseI (LsOf I K T f) (placeI I x)
      have h1 := H1.out; have h2 := H2.out
      have h3 : (LsOf I K T f).length = I.length := by unfold LsOf; (repeat' split) <;> omega
      omega, rfl, rfl, rfl, rfl⟩
  obtain ⟨ls, hL, l0, l1, l2, hls⟩ := hls
  rw [← hls] at hO
  obtain ⟨a0, d0, v0⟩ := ownsRow_form1 (hO.own 0 (by omega))
  obtain ⟨a1, d1, v1⟩ := ownsRow_form1 (hO.own 1 (by omega))
  obtain ⟨a2, d2, v2⟩ := ownsRow_form1 (hO.own 2 (by omega))
  have hO2 := hO.copy
  have n0 := hL 0 (by omega); have n1 := hL 1 (by omega); have n2 := hL 2 (by omega)
  have L0 := Lib.hid l0; have L1 := Lib.hid l1; have L2 := Lib.hid l2
  have V0 := Lib.hid v0; have V1 := Lib.hid v1; have V2 := Lib.hid v2
  have B3 := Lib.hid b3
  have lb := lt_of_heap b3.1
  have lb2 := lt_of_heap b3.2
  rw [v0, v1, v2] at hO2 ⊢
  have hs3 : w2.heap.size ≤ w3.heap.size := hO.keeps.size
  have HO := Lib.hid hO2
  clear c0 c1 c2 c3 hO hO2 hL l0 l1 l2 hls v0 v1 v2 b3
  have own0 := HO.out.own 0 (by omega)
  rw [V0.out] at own0
  have OW0 := Lib.hid (own0.alloc (.cells #[.int .i64 x] 3))
  clear own0
  go_wp2_with (at_builtin; refine wpList_append_lies _ rfl _ _ _ rfl w2.heap.size 3 i0 _ 1 8 Try.underlying23 hi0 hz0 hz1 hz2 rfl (by omega) _ (ls 0).length ((ls 0).map (Value.int .i64)) (by rfl) OW0.out ⟨w3.heap.size + 1, 0, none⟩ 1 1 [.int .i64 x] (by rfl) (by rfl) ?hnews ?hone (by omega) (by unfold maxLen; omega) (by omega) ?hbase (w3.heap.size + 1 + 1) (by simp) ?_)
  case hnews => exact World.news_of_block (cs := #[.int .i64 x]) (t := 3) (fr := (0, 0)) (by have := heap_alloc_new (w3.alloc (.cells #[.slice a0 (ls 0).length d0, .slice a1 (ls 1).length d1, .slice a2 (ls 2).length d2, .int .i64 t] 46)) (.cells #[.int .i64 x] 3); rw [World.size_alloc] at this; exact this)
  case hone => simp [Value.oneCell']
  case hbase => simp; omega
  intro g0 q0 w5 hown hgrow hat hlt
  have hb := HO.out.grown ((Keeps.refl _ _).alloc (.cells #[.int .i64 x] 3)) (by omega : 0 < 3) (by rw [V0.out]; exact hgrow)
  rw [V0.out, V1.out, V2.out] at hb
  obtain ⟨vs', ls', hO', e1, e2, e3⟩ := HO.out.app' (by omega : 0 < 3) rfl ((Keeps.refl _ _).alloc (.cells #[.int .i64 x] 3)) hown (by rw [V0.out]; exact hgrow) (by rw [V0.out]; simpa using hat)
  have p0 : w5.cell? ⟨w3.heap.size, 0, none⟩ = some (.slice a0 (ls 0).length d0) := (cell_of_blk hb).trans rfl
  have p1 : w5.cell? ⟨w3.heap.size, 1, none⟩ = some (.slice a1 (ls 1).length d1) := (cell_of_blk hb).trans rfl
  have f0 : w5.frozen? ⟨w3.heap.size, 0, none⟩ = false := frozen_of_blk hb
  have own1 := hO'.own 1 (by omega)
  rw [(e3 1 (by omega)).1, (e3 1 (by omega)).2, V1.out] at own1
  have OW1 := Lib.hid (own1.alloc (.cells #[.int .i64 y] 3))
  have A1 := Lib.hid (e3 1 (by omega)); have A2 := Lib.hid (e3 2 (by omega)); have A0 := Lib.hid (And.intro e1 e2)
  have HO1 := Lib.hid hO'
  clear own1 hb hown hgrow hat e1 e2 e3 hO'
  have wz : w3.heap.size < w5.heap.size := by have := HO1.out.lt; simpa using this
  go_wp2_with (at_builtin; refine wpList_append_lies _ rfl _ _ _ rfl w2.heap.size 3 i0 _ 1 8 Try.underlying23 hi0 hz0 hz1 hz2 rfl (by omega) _ (ls 1).length ((ls 1).map (Value.int .i64)) (by rfl) OW1.out ⟨w5.heap.size, 0, none⟩ 1 1 [.int .i64 y] (by rfl) (by rfl) ?hnews ?hone (by omega) (by unfold maxLen; omega) (by omega) ?hbase (w5.heap.size + 1) (by simp) ?_)
  case hnews => exact World.news_of_block (cs := #[.int .i64 y]) (t := 3) (fr := (0, 0)) (by have := heap_alloc_new (w5.setCell ⟨w3.heap.size, 0, none⟩ (.slice (some ⟨g0, 0, none⟩) ((ls 0).length + 1) q0)) (.cells #[.int .i64 y] 3); simpa using this)
  case hone => simp [Value.oneCell']
  case hbase => simp; omega
  intro g1 q1 w6 hown hgrow hat hlt1
  have hb := HO1.out.grown ((Keeps.refl _ _).alloc (.cells #[.int .i64 y] 3)) (by omega : 1 < 3) (by rw [A1.out.1, V1.out]; exact hgrow)
  obtain ⟨vs2, ls2, hO', e1, e2, e3⟩ := HO1.out.app' (by omega : 1 < 3) (by rw [A1.out.2]) ((Keeps.refl _ _).alloc (.cells #[.int .i64 y] 3)) (by rw [A1.out.2]; exact hown) (by rw [A1.out.1, V1.out]; exact hgrow) (by rw [A1.out.1, V1.out]; simpa using hat)
  rw [A0.out.1, A1.out.1, A2.out.1, V1.out, V2.out] at hb
  have p1' : w6.cell? ⟨w3.heap.size, 1, none⟩ = some (.slice a1 (ls 1).length d1) := (cell_of_blk hb).trans rfl
  have p2' : w6.cell? ⟨w3.heap.size, 2, none⟩ = some (.slice a2 (ls 2).length d2) := (cell_of_blk hb).trans rfl
  have f1' : w6.frozen? ⟨w3.heap.size, 1, none⟩ = false := frozen_of_blk hb
  have own2 := hO'.own 2 (by omega)
  rw [(e3 2 (by omega)).1, (e3 2 (by omega)).2, A2.out.1, A2.out.2, V2.out] at own2
  have OW2 := Lib.hid (own2.alloc (.cells #[.int .i64 t] 3))
  have b3 := HB.out w6 (K2.out.trans (HO1.out.kept ((Keeps.refl _ _).alloc (.cells #[.int .i64 y] 3)) (by omega : 1 < 3) (by rw [A1.out.1, V1.out]; exact hgrow)))
  have q3 : w6.cell? ⟨w.heap.size, 3, none⟩ = some (.int .i64 t) := by rw [cell_of_blk b3.1]; rfl
  have B1 := Lib.hid (e3 0 (by omega)); have B2 := Lib.hid (e3 2 (by omega)); have B0 := Lib.hid (And.intro e1 e2)
  have HO3 := Lib.hid hO'
  have wz2 : w3.heap.size < w6.heap.size := by have := hO'.lt; simpa using this
  have wb : w.heap.size < w6.heap.size := lt_of_heap b3.1
  clear own2 hb hown hgrow hat e1 e2 e3 hO' p0 p1 f0 OW1 b3
  go_wp2_with (at_builtin; refine wpList_append_lies _ rfl _ _ _ rfl w2.heap.size 3 i0 _ 1 8 Try.underlying23 hi0 hz0 hz1 hz2 rfl (by omega) _ (ls 2).length ((ls 2).map (Value.int .i64)) (by rfl) OW2.out ⟨w6.heap.size, 0, none⟩ 1 1 [.int .i64 t] (by rfl) (by rfl) ?hnews ?hone (by omega) (by unfold maxLen; omega) (by omega) ?hbase (w6.heap.size + 1) (by simp) ?_)
  case hnews => exact World.news_of_block (cs := #[.int .i64 t]) (t := 3) (fr := (0, 0)) (by have := heap_alloc_new (w6.setCell ⟨w3.heap.size, 1, none⟩ (.slice (some ⟨g1, 0, none⟩) ((ls 1).length + 1) q1)) (.cells #[.int .i64 t] 3); simpa using this)
  case hone => simp [Value.oneCell']
  case hbase => simp; omega
  intro g2 q2 w7 hown hgrow hat hlt2
  have hb := HO3.out.grown ((Keeps.refl _ _).alloc (.cells #[.int .i64 t] 3)) (by omega : 2 < 3) (by rw [B2.out.1, A2.out.1, V2.out]; exact hgrow)
  obtain ⟨vs3, ls3, hO', e1, e2, e3⟩ := HO3.out.app' (by omega : 2 < 3) (by rw [B2.out.2, A2.out.2]) ((Keeps.refl _ _).alloc (.cells #[.int .i64 t] 3)) (by rw [B2.out.2, A2.out.2]; exact hown) (by rw [B2.out.1, A2.out.1, V2.out]; exact hgrow) (by rw [B2.out.1, A2.out.1, V2.out]; simpa using hat)
  rw [B0.out.1, B1.out.1, B2.out.1, A0.out.1, A2.out.1, V2.out] at hb
  have p2 : w7.cell? ⟨w3.heap.size, 2, none⟩ = some (.slice a2 (ls 2).length d2) := (cell_of_blk hb).trans rfl
  have f2' : w7.frozen? ⟨w3.heap.size, 2, none⟩ = false := frozen_of_blk hb
  have k0 : vs3 0 = .slice (some ⟨g0, 0, none⟩) ((ls 0).length + 1) q0 := by rw [(e3 0 (by omega)).1, B1.out.1, A0.out.1]
  have k1 : vs3 1 = .slice (some ⟨g1, 0, none⟩) ((ls 1).length + 1) q1 := by rw [(e3 1 (by omega)).1, B0.out.1]
  have k2 : vs3 2 = .slice (some ⟨g2, 0, none⟩) ((ls 2).length + 1) q2 := e1
  have m0 : ls3 0 = ls 0 ++ [x] := by rw [(e3 0 (by omega)).2, B1.out.2, A0.out.2]
  have m1 : ls3 1 = ls 1 ++ [y] := by rw [(e3 1 (by omega)).2, B0.out.2, A1.out.2]
  have m2 : ls3 2 = ls 2 ++ [t] := by rw [e2, B2.out.2, A2.out.2]
  rw [L0.out] at m0; rw [L1.out] at m1; rw [L2.out] at m2
  clear hown hgrow hat e1 e2 e3 hb
  iterate 7 go_step
  clear p1' p2' f1' OW2 q3 B1 B2 B0 HO3 wz2 wb p2 f2' A1 A2 A0 HO1 wz HO OW0
  generalize (w7.setCell ⟨w3.heap.size, 2, none⟩ (.slice (some ⟨g2, 0, none⟩) ((ls 2).length + 1) q2)) = w8 at hO' ⊢
  have hb := hO'.blk
  have c3 : w8.cell? ⟨w3.heap.size, 3, none⟩ = some (.int .i64 t) := cell_of_blk hb
  have z3 : w8.frozen? ⟨w3.heap.size, 3, none⟩ = false := frozen_of_blk hb
  have b8 := HB.out w8 (K2.out.trans hO'.keeps)
  have c4 : w8.cell? ⟨w.heap.size, 3, none⟩ = some (.int .i64 t) := by rw [cell_of_blk b8.1]; rfl
  have z8 : w3.heap.size < w8.heap.size := hO'.lt
  have z9 : w.heap.size < w8.heap.size := lt_of_heap b8.1
  have hft := Lib.hid (hO'.time (t + 1))
  clear hO' b8 hb
  go_step
  go_step
  iterate 18 go_step
  clear c3 z3 c4 z8 z9
  have hO' := hft.out
  clear hft
  generalize (w8.setCell ⟨w3.heap.size, 3, none⟩ (.int .i64 (t + 1))) = w9 at hO' ⊢
  have hb := hO'.blk
  rw [k0, k1, k2] at hb
  have r0 : w9.cell? ⟨w3.heap.size, 0, none⟩ = some (.slice (some ⟨g0, 0, none⟩) ((ls 0).length + 1) q0) := cell_of_blk hb
  have r1 : w9.cell? ⟨w3.heap.size, 1, none⟩ = some (.slice (some ⟨g1, 0, none⟩) ((ls 1).length + 1) q1) := cell_of_blk hb
  have r2 : w9.cell? ⟨w3.heap.size, 2, none⟩ = some (.slice (some ⟨g2, 0, none⟩) ((ls 2).length + 1) q2) := cell_of_blk hb
  have r3 : w9.cell? ⟨w3.heap.size, 3, none⟩ = some (.int .i64 (t + 1)) := cell_of_blk hb
  have b9 := (HB.out w9 (K2.out.trans hO'.keeps)).2
  have s0 : w9.cell? ⟨w.heap.size + 1, 0, none⟩ = some (.slice none 0 0) := by rw [cell_of_blk b9]; rfl
  have s1 : w9.cell? ⟨w.heap.size + 1, 1, none⟩ = some (.slice none 0 0) := by rw [cell_of_blk b9]; rfl
  have s2 : w9.cell? ⟨w.heap.size + 1, 2, none⟩ = some (.slice none 0 0) := by rw [cell_of_blk b9]; rfl
  have s3 : w9.cell? ⟨w.heap.size + 1, 3, none⟩ = some (.int .i64 0) := by rw [cell_of_blk b9]; rfl
  have y0 : w9.frozen? ⟨w.heap.size + 1, 0, none⟩ = false := frozen_of_blk b9
  have y1 : w9.frozen? ⟨w.heap.size + 1, 1, none⟩ = false := frozen_of_blk b9
  have y2 : w9.frozen? ⟨w.heap.size + 1, 2, none⟩ = false := frozen_of_blk b9
  have y3 : w9.frozen? ⟨w.heap.size + 1, 3, none⟩ = false := frozen_of_blk b9
  have z8 : w3.heap.size < w9.heap.size := hO'.lt
  have z9 : w.heap.size + 1 < w9.heap.size := lt_of_heap b9
  have hk4 := keeps_four (w := w9) (w.heap.size + 1) (.slice (some ⟨g0, 0, none⟩) ((ls 0).length + 1) q0) (.slice (some ⟨g1, 0, none⟩) ((ls 1).length + 1) q1) (.slice (some ⟨g2, 0, none⟩) ((ls 2).length + 1) q2) (.int .i64 (t + 1))
  have hb4 := four_set b9 (.slice (some ⟨g0, 0, none⟩) ((ls 0).length + 1) q0) (.slice (some ⟨g1, 0, none⟩) ((ls 1).length + 1) q1) (.slice (some ⟨g2, 0, none⟩) ((ls 2).length + 1) q2) (.int .i64 (t + 1))
  have hw2 : w.heap.size + 1 < w2.heap.size := by have := K2.out.size; simp at this; omega
  have j0 : OwnI w.heap.size _ _ _ := (OwnI.mono (B := w2.heap.size) (hO'.own 0 (by omega)) (by omega)).keeps hk4 (fun b hb e => by have := ((hO'.own 0 (by omega)).lt b hb).1; omega)
  have j1 : OwnI w.heap.size _ _ _ := (OwnI.mono (B := w2.heap.size) (hO'.own 1 (by omega)) (by omega)).keeps hk4 (fun b hb e => by have := ((hO'.own 1 (by omega)).lt b hb).1; omega)
  have j2 : OwnI w.heap.size _ _ _ := (OwnI.mono (B := w2.heap.size) (hO'.own 2 (by omega)) (by omega)).keeps hk4 (fun b hb e => by have := ((hO'.own 2 (by omega)).lt b hb).1; omega)
  rw [k0, m0] at j0; rw [k1, m1] at j1; rw [k2, m2] at j2
  have HF := Lib.hid (And.intro j0 (And.intro j1 (And.intro j2 (((KW2.out).trans hO'.keeps).trans' hk4 (fun b hb => .inr (by omega))))))
  have HB4 := Lib.hid hb4
  clear hO' hb b9 hk4 hb4 j0 j1 j2
  go_wp2_with fail
  refine bodyPost_ret (results_cell_row rfl _ _ (w.heap.size + 1) 46 _ (0, 0) _ rfl HB4.out Try.underlying46 rfl (by kernel_rfl)) rfl ?_
  exact ⟨_, _, _, rfl, HF.out⟩

end Go.Proofs.Ytlghadoejmnllaa
