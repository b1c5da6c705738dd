/- The reference's queue: without. Three slices that grow side by side. -/
import Derived.Test.YtlghadoejmnllaaRefB
namespace Go.Proofs.Ytlghadoejmnllaa
open Go.RowKit

/-- l without its element at position k. -/
def eraseI (l : List Int) (k : Int) : List Int := if k < 0 then l else l.eraseIdx k.toNat

theorem eraseI_nil (k : Int) : eraseI [] k = [] := by unfold eraseI; split <;> simp
theorem eraseI_here {l : List Int} {x : Int} : eraseI (l ++ [x]) (l.length : Int) = eraseI l (l.length : Int) := by
  unfold eraseI; rw [if_neg (by omega), if_neg (by omega), Int.toNat_natCast, List.eraseIdx_append_of_length_le (Nat.le_refl _)]
  simp
  rw [List.eraseIdx_of_length_le (Nat.le_refl _)]
theorem eraseI_past {l : List Int} {x k : Int} (h : (l.length : Int) ≠ k) : eraseI (l ++ [x]) k = eraseI l k ++ [x] := by
  unfold eraseI
  split
  · rfl
  · by_cases hl : k.toNat < l.length
    · rw [List.eraseIdx_append_of_lt_length hl]
    · rw [List.eraseIdx_of_length_le (by simp; omega), List.eraseIdx_of_length_le (by omega)]
theorem length_eraseI (l : List Int) (k : Int) : (eraseI l k).length ≤ l.length := by
  unfold eraseI; split
  · exact Nat.le_refl _
  · have := List.length_eraseIdx_le l k.toNat; omega

/-- Three slices of the call's own, which read as ls 0, ls 1, ls 2, beside a number, in the struct at block O. -/
structure Out3 (w : World) (O : Nat) (t : Int) (vs : Nat → Value) (ls : Nat → List Int) (wr : World) : Prop where
  blk : wr.heap[O]? = some (.cells #[vs 0, vs 1, vs 2, .int .i64 t] 46 (0, 0))
  own : ∀ i, i < 3 → wr.ownsRow w.heap.size 3 1 (vs i) (ls i).length ((ls i).map (Value.int .i64))
  far : ∀ i b, i < 3 → (vs i).ownBlock = some b → b ≠ O
  apart : ∀ i j b, i < 3 → j < 3 → i ≠ j → (vs i).ownBlock = some b → (vs j).ownBlock ≠ some b
  new : w.heap.size ≤ O
  keeps : Keeps (fun _ => False) w wr

theorem Out3.lt {w : World} {O : Nat} {t : Int} {vs : Nat → Value} {ls : Nat → List Int} {wr : World} (h : Out3 w O t vs ls wr) : O < wr.heap.size := lt_of_heap h.blk

theorem Out3.cell {w : World} {O : Nat} {t : Int} {vs : Nat → Value} {ls : Nat → List Int} {wr : World} (h : Out3 w O t vs ls wr) : wr.cell? ⟨O, 0, none⟩ = some (vs 0) ∧ wr.cell? ⟨O, 1, none⟩ = some (vs 1) ∧ wr.cell? ⟨O, 2, none⟩ = some (vs 2) ∧ wr.cell? ⟨O, 3, none⟩ = some (.int .i64 t) := by
  refine ⟨?_, ?_, ?_, ?_⟩ <;> rw [cell_of_blk h.blk] <;> rfl

theorem Out3.keep {w : World} {O : Nat} {t : Int} {vs : Nat → Value} {ls : Nat → List Int} {wr w' : World} (h : Out3 w O t vs ls wr) (hk : Keeps (fun _ => False) wr w') : Out3 w O t vs ls w' :=
  ⟨hk.heap h.blk (fun h => h), fun i hi => hk.ownsRow (h.own i hi) (fun _ _ h => h), h.far, h.apart, h.new, h.keeps.trans hk⟩

theorem Out3.grown {w : World} {O : Nat} {t : Int} {vs : Nat → Value} {ls : Nat → List Int} {wr Wa w3 : World} (h : Out3 w O t vs ls wr) (hWa : Keeps (fun _ => False) wr Wa) {f : Nat} (hf : f < 3) (hgrow : Wa.grownBy w3 (vs f).ownBlock) :
    w3.heap[O]? = some (.cells #[vs 0, vs 1, vs 2, .int .i64 t] 46 (0, 0)) := by
  have ha := h.keep hWa
  have k3 : Keeps (fun b => (vs f).ownBlock = some b) Wa w3 := (Keeps.refl _ Wa).grown hgrow (fun k hk => .inl hk)
  exact k3.heap ha.blk (fun e => h.far f O hf e rfl)

theorem Out3.app {w : World} {O : Nat} {t : Int} {vs : Nat → Value} {ls : Nat → List Int} {wr Wa w3 : World} (h : Out3 w O t vs ls wr) {f : Nat} (hf : f < 3) {x : Int} {g cap : Nat} (hWa : Keeps (fun _ => False) wr Wa)
    (hown : w3.ownsRow w.heap.size 3 1 (.slice (some ⟨g, 0, none⟩) ((ls f).length + 1) cap) ((ls f).length + 1) ((ls f).map (Value.int .i64) ++ [.int .i64 x])) (hgrow : Wa.grownBy w3 (vs f).ownBlock) (hat : (vs f).ownBlock = some g ∨ g = Wa.heap.size) :
    Out3 w O t (fun i => if i = f then .slice (some ⟨g, 0, none⟩) ((ls f).length + 1) cap else vs i) (fun i => if i = f then ls f ++ [x] else ls i) (w3.setCell ⟨O, f, none⟩ (.slice (some ⟨g, 0, none⟩) ((ls f).length + 1) cap)) := by
  have hO := h.lt
  have ha := h.keep hWa
  have k3 : Keeps (fun b => (vs f).ownBlock = some b) Wa w3 := (Keeps.refl _ Wa).grown hgrow (fun k hk => .inl hk)
  have ob : ∀ i, i < 3 → ∀ b, (vs i).ownBlock = some b → w.heap.size ≤ b ∧ b < Wa.heap.size := fun i hi b hb => (ha.own i hi).lt b hb
  have hOs := hWa.size
  have hb3 : w3.heap[O]? = some (.cells #[vs 0, vs 1, vs 2, .int .i64 t] 46 (0, 0)) := k3.heap ha.blk (fun e => h.far f O hf e rfl)
  have gO : g ≠ O := by
    rcases hat with hat | hat
    · exact h.far f g hf hat
    · omega
  have kS : Keeps (fun b => b = O) w3 (w3.setCell ⟨O, f, none⟩ (.slice (some ⟨g, 0, none⟩) ((ls f).length + 1) cap)) := (Keeps.refl (fun b => b = O) w3).setCell (p := ⟨O, f, none⟩) (.inl rfl) _
  refine ⟨?_, ?_, ?_, ?_, h.new, ?_⟩
  · rw [blk_set_same hb3]
    have hc : f = 0 ∨ f = 1 ∨ f = 2 := by omega
    rcases hc with rfl | rfl | rfl <;> rfl
  · intro i hi
    by_cases hif : i = f
    · subst hif
      simp only [if_true]
      have := kS.ownsRow hown (fun k hk e => by simp [Value.ownBlock] at hk; omega)
      simpa using this
    · simp only [if_neg hif]
      refine kS.ownsRow (k3.ownsRow (ha.own i hi) (fun k hk e => h.apart i f k hi hf hif hk e)) (fun k hk e => h.far i k hi hk e)
  · intro i b hi
    by_cases hif : i = f
    · subst hif
      simp only [if_true]
      intro hb; simp [Value.ownBlock] at hb; omega
    · simp only [if_neg hif]; exact h.far i b hi
  · intro i j b hi hj hij
    by_cases hif : i = f
    · subst hif
      have hjf : j ≠ i := fun e => hij e.symm
      simp only [if_true, if_neg hjf]
      intro hb e
      simp [Value.ownBlock] at hb
      subst hb
      rcases hat with hat | hat
      · exact h.apart i j g hi hj hij hat e
      · have := (ob j hj g e).2; omega
    · by_cases hjf : j = f
      · subst hjf
        simp only [if_neg hif, if_true]
        intro hb e
        simp [Value.ownBlock] at e
        subst e
        rcases hat with hat | hat
        · exact h.apart i j g hi hj hij hb hat
        · have := (ob i hi g hb).2; omega
      · simp only [if_neg hif, if_neg hjf]
        exact h.apart i j b hi hj hij
  · have hn := h.new
    exact (ha.keeps.trans' k3 (fun b hb => .inr (ob f hf b hb).1)).trans' kS (fun b hb => .inr (by omega))

/-- The state of without's loop behind i rounds, the first m of the three appended once more. -/
def wls (Ls : Nat → List Int) (k : Int) (i m f : Nat) : List Int := eraseI ((Ls f).take (if f < m then i + 1 else i)) k

def WRel (w : World) (O : Nat) (t : Int) (Ls : Nat → List Int) (k : Int) (i m : Nat) (wr : World) : Prop := ∃ vs, Out3 w O t vs (wls Ls k i m) wr

theorem takeI_get {l : List Int} {n : Nat} {k : Int} (h : l[n]? = some k) : l.take (n + 1) = l.take n ++ [k] := by
  obtain ⟨h1, h2⟩ := List.getElem?_eq_some_iff.1 h
  rw [List.take_succ_eq_append_getElem h1, h2]

theorem eraseI_take {l : List Int} {i : Nat} {x k : Int} (hx : l[i]? = some x) (hk : (i : Int) ≠ k) : eraseI (l.take (i + 1)) k = eraseI (l.take i) k ++ [x] := by
  have hl : i < l.length := (List.getElem?_eq_some_iff.1 hx).1
  rw [takeI_get hx, eraseI_past (by simp; omega)]

theorem eraseI_take_here {l : List Int} {i : Nat} {x : Int} (hx : l[i]? = some x) : eraseI (l.take (i + 1)) (i : Int) = eraseI (l.take i) (i : Int) := by
  have hl : i < l.length := (List.getElem?_eq_some_iff.1 hx).1
  rw [takeI_get hx]
  have : ((l.take i).length : Int) = (i : Int) := by simp; omega
  rw [← this]; exact eraseI_here

theorem Out3.ext {w : World} {O : Nat} {t : Int} {vs : Nat → Value} {ls ls' : Nat → List Int} {wr : World} (h : Out3 w O t vs ls wr) (he : ∀ f, f < 3 → ls f = ls' f) : Out3 w O t vs ls' wr :=
  { h with own := fun i hi => by rw [← he i hi]; exact h.own i hi }

theorem WRel.skip {w : World} {O : Nat} {t : Int} {Ls : Nat → List Int} {i : Nat} {wr : World} (h : WRel w O t Ls (i : Int) i 0 wr) (hx : ∀ f, f < 3 → i < (Ls f).length) : WRel w O t Ls (i : Int) (i + 1) 0 wr := by
  obtain ⟨vs, h⟩ := h
  exact ⟨vs, h.ext (fun f hf => by
    unfold wls; simp only [Nat.not_lt_zero, if_false]
    exact (eraseI_take_here (List.getElem?_eq_getElem (hx f hf))).symm)⟩

theorem WRel.done {w : World} {O : Nat} {t : Int} {Ls : Nat → List Int} {k : Int} {i : Nat} {wr : World} (h : WRel w O t Ls k i 3 wr) : WRel w O t Ls k (i + 1) 0 wr := by
  obtain ⟨vs, h⟩ := h
  exact ⟨vs, h.ext (fun f hf => by unfold wls; rw [if_pos hf, if_neg (Nat.not_lt_zero _)])⟩

theorem wls_here (Ls : Nat → List Int) (k : Int) (i m : Nat) : wls Ls k i m m = eraseI ((Ls m).take i) k := by unfold wls; rw [if_neg (Nat.lt_irrefl _)]

theorem WRel.step {w : World} {O : Nat} {t : Int} {Ls : Nat → List Int} {k : Int} {i m : Nat} {vs : Nat → Value} {wr Wa w3 : World} (h : Out3 w O t vs (wls Ls k i m) wr) (hm : m < 3) {x : Int} (hx : (Ls m)[i]? = some x) (hk : (i : Int) ≠ k) {g cap : Nat}
    (hWa : Keeps (fun _ => False) wr Wa) (hown : w3.ownsRow w.heap.size 3 1 (.slice (some ⟨g, 0, none⟩) ((wls Ls k i m m).length + 1) cap) ((wls Ls k i m m).length + 1) ((wls Ls k i m m).map (Value.int .i64) ++ [.int .i64 x])) (hgrow : Wa.grownBy w3 (vs m).ownBlock) (hat : (vs m).ownBlock = some g ∨ g = Wa.heap.size) :
    WRel w O t Ls k i (m + 1) (w3.setCell ⟨O, m, none⟩ (.slice (some ⟨g, 0, none⟩) ((wls Ls k i m m).length + 1) cap)) := by
  refine ⟨_, (h.app hm hWa hown hgrow hat).ext (fun f hf => ?_)⟩
  by_cases hfm : f = m
  · subst hfm
    simp only [if_true]
    rw [wls_here]
    unfold wls
    rw [if_pos (by omega), eraseI_take hx hk]
  · simp only [if_neg hfm]
    unfold wls
    by_cases hlt : f < m
    · rw [if_pos hlt, if_pos (by omega)]
    · rw [if_neg hlt, if_neg (by omega)]

def LsOf (I K T : List Int) (f : Nat) : List Int := if f = 0 then I else if f = 1 then K else T

set_option maxHeartbeats 4000000 in
theorem without_any (w : World) (vI vK vT : Value) (t : Int) (I K T : List Int) (hI : Ints w vI I) (hK : Ints w vK K) (hT : Ints w vT T) (h1 : K.length = I.length) (h2 : T.length = I.length) (hs : I.length ≤ 100000) (k : Int) :
    Calls Try.prog 22 #[.agg #[vI, vK, vT, .int .i64 t], .int .i64 k] w fun e w' => ∃ vs, e = .returned (.agg #[vs 0, vs 1, vs 2, .int .i64 t]) ∧ Out3 w (w.heap.size + 1 + 1) t vs (fun f => eraseI (LsOf I K T f) k) w' := by
  obtain ⟨aI, cI, hvI, mI⟩ := hI.form
  obtain ⟨aK, cK, hvK, mK⟩ := hK.form
  obtain ⟨aT, cT, hvT, mT⟩ := hT.form
  have CI := Lib.hid (hI.cell hvI)
  have CK := Lib.hid (hK.cell hvK)
  have CT := Lib.hid (hT.cell hvT)
  have H1 := Lib.hid h1
  have H2 := Lib.hid h2
  rw [h1] at hvK
  rw [h2] at hvT
  subst hvI hvK hvT
  clear hI hK hT h1 h2 mI mK mT
  go_enter Try.func22, Try.ntmps22
  have hW0 : ∀ wr : World, Keeps (fun _ => False) ((w.alloc (.cells #[.slice aI I.length cI, .slice aK I.length cK, .slice aT I.length cT, .int .i64 t] 46)).alloc (.cells #[.slice none 0 0, .slice none 0 0, .slice none 0 0, .int .i64 0] 46)) wr → wr.heap[w.heap.size]? = some (.cells #[.slice aI I.length cI, .slice aK I.length cK, .slice aT I.length cT, .int .i64 t] 46) ∧ wr.heap[w.heap.size + 1]? = some (.cells #[.slice none 0 0, .slice none 0 0, .slice none 0 0, .int .i64 0] 46) := fun wr hk => by
    have e1 := heap_alloc_new w (.cells #[.slice aI I.length cI, .slice aK I.length cK, .slice aT I.length cT, .int .i64 t] 46)
    have e2 := heap_alloc_new (w.alloc (.cells #[.slice aI I.length cI, .slice aK I.length cK, .slice aT I.length cT, .int .i64 t] 46)) (.cells #[.slice none 0 0, .slice none 0 0, .slice none 0 0, .int .i64 0] 46)
    rw [World.size_alloc] at e2
    exact ⟨hk.heap (pair_alloc e1) (fun h => h), hk.heap e2 (fun h => h)⟩
  have HW0 := Lib.hid hW0
  have hkW : Keeps (fun _ => False) w ((w.alloc (.cells #[.slice aI I.length cI, .slice aK I.length cK, .slice aT I.length cT, .int .i64 t] 46)).alloc (.cells #[.slice none 0 0, .slice none 0 0, .slice none 0 0, .int .i64 0] 46)) := ((Keeps.refl _ w).alloc _).alloc _
  have HKW := Lib.hid hkW
  have hsz : ((w.alloc (.cells #[.slice aI I.length cI, .slice aK I.length cK, .slice aT I.length cT, .int .i64 t] 46)).alloc (.cells #[.slice none 0 0, .slice none 0 0, .slice none 0 0, .int .i64 0] 46)).heap.size = w.heap.size + 1 + 1 := by simp
  have HSZ := Lib.hid hsz
  generalize hWG : ((w.alloc (.cells #[.slice aI I.length cI, .slice aK I.length cK, .slice aT I.length cT, .int .i64 t] 46)).alloc (.cells #[.slice none 0 0, .slice none 0 0, .slice none 0 0, .int .i64 0] 46)) = W0 at HW0 HKW HSZ
  have HWG := Lib.hid hWG
  obtain ⟨i0, hi0, hz0, hz1, hz2⟩ := info_parts Try.info3
  clear hW0 hkW hsz hWG
  go_wp2_with fail
  go_loopw [6] (fun iv wr => ∃ i : Nat, iv = .int .i64 (i : Int) ∧ i ≤ I.length ∧ WRel W0 (w.heap.size + 1 + 1) t (LsOf I K T) k i 0 wr) (fun iv _ => I.length - (intOf iv).toNat)
  case atStart =>
    rw [HWG.out]
    refine ⟨0, rfl, Nat.zero_le _, fun _ => .slice none 0 0, ?_, ?_, ?_, ?_, by rw [HSZ.out]; exact Nat.le_refl _, (Keeps.refl _ _).alloc _⟩
    · have := heap_alloc_new W0 (.cells #[.slice none 0 0, .slice none 0 0, .slice none 0 0, .int .i64 t] 46 (0, 0))
      rw [HSZ.out] at this; exact this
    · intro i hi
      have e : wls (LsOf I K T) k 0 0 i = [] := by unfold wls; simp [eraseI_nil]
      rw [e]; exact World.ownsRow_nil _ _ _ _
    · intro i b hi hb; simp [Value.ownBlock] at hb
    · intro i j b hi hj hij hb; simp [Value.ownBlock] at hb
  case round =>
    obtain ⟨i, rfl, hi, hR⟩ := hrel
    have HR := Lib.hid hR
    obtain ⟨vs0, hO0⟩ := hR
    obtain ⟨hb0, hz⟩ := HW0.out wr hO0.keeps
    have q0 : wr.cell? ⟨w.heap.size, 0, none⟩ = some (.slice aI I.length cI) := by rw [cell_of_blk hb0]; rfl
    clear hb0
    by_cases hlt : i < I.length
    · clear hO0 hz
      obtain ⟨bI, oI, rfl, cI'⟩ := CI.out (by omega)
      obtain ⟨bK, oK, rfl, cK'⟩ := CK.out (by have := H1.out; omega)
      obtain ⟨bT, oT, rfl, cT'⟩ := CT.out (by have := H2.out; omega)
      obtain ⟨xI, hxI⟩ : ∃ x, I[i]? = some x := ⟨_, List.getElem?_eq_getElem hlt⟩
      obtain ⟨xK, hxK⟩ : ∃ x, K[i]? = some x := ⟨_, List.getElem?_eq_getElem (by have := H1.out; omega)⟩
      obtain ⟨xT, hxT⟩ : ∃ x, T[i]? = some x := ⟨_, List.getElem?_eq_getElem (by have := H2.out; omega)⟩
      have EI := Lib.hid (HKW.out.cell (cI' i xI hxI) (fun h => h))
      have EK := Lib.hid (HKW.out.cell (cK' i xK hxK) (fun h => h))
      have ET := Lib.hid (HKW.out.cell (cT' i xT hxT) (fun h => h))
      have XI := Lib.hid hxI; have XK := Lib.hid hxK; have XT := Lib.hid hxT
      have i1 : (0 : Int) ≤ (i : Int) := by omega
      have i2 : (i : Int) < (I.length : Int) := by omega
      clear cI' cK' cT' hxI hxK hxT
      by_cases hik : (i : Int) = k
      · have bik : ((i : Int) != k) = false := by simp [hik]
        subst hik
        have HN := Lib.hid (HR.out.skip (fun f hf => by
          unfold LsOf; have := H1.out; have := H2.out; (repeat' split) <;> omega))
        go_wp2_with fail
        go_roundw
        case rel => exact ⟨i + 1, by go_num, by omega, HN.out⟩
        case measure => simp [intOf]; omega
      · have bik : ((i : Int) != k) = true := by simp [hik]
        have HIK := Lib.hid hik
        clear hik
        go_upto_region 6 with fail
        go_cut [] (fun wc => WRel W0 (w.heap.size + 1 + 1) t (LsOf I K T) k i 1 wc)
        case first =>
          obtain ⟨vs, hO⟩ := HR.out
          obtain ⟨hb0, hz⟩ := HW0.out _ hO.keeps
          have q0' : wr.cell? ⟨w.heap.size, 0, none⟩ = some (.slice (some ⟨bI, oI, none⟩) I.length cI) := by rw [cell_of_blk hb0]; rfl
          have o0 := hO.cell.1
          have fz : wr.frozen? ⟨w.heap.size + 1 + 1, 0, none⟩ = false := frozen_of_blk hO.blk
          have el := hO.keeps.cell EI.out (fun h => h)
          have hO2 := hO.lt
          have HO := Lib.hid hO
          have hg2 : w.heap.size < wr.heap.size := by omega
          have hWs := HO.out.keeps.size
          have hlt3 := lt_of_heap hb0
          clear hO hb0 hz
          have hlen : (wls (LsOf I K T) k i 0 0).length ≤ 100000 := by rw [wls_here]; have h9 := length_eraseI ((LsOf I K T 0).take i) k; rw [List.length_take] at h9; omega
          have HX : Hid ((LsOf I K T 0)[i]? = some xI) := XI
          skip
          go_region_law ((refine step_append_lies _ (by rfl) _ _ _ (by rfl) W0.heap.size 3 i0 _ 1 8 Try.underlying23 hi0 hz0 hz1 hz2 rfl (by omega) (vs 0) (wls (LsOf I K T) k i 0 0).length ((wls (LsOf I K T) k i 0 0).map (Value.int .i64)) (by rfl) (((HO.out.own 0 (by omega)).alloc _).drew) ⟨wr.heap.size, 0, none⟩ 1 1 [.int .i64 xI] (by rfl) (by rfl) (World.news_of_block (cs := #[.int .i64 xI]) (t := 3) (fr := (0, 0)) (heap_alloc_new wr _)) (by simp [Value.oneCell']) (by omega) (by unfold maxLen; omega) (by omega) (by simp; omega) (wr.heap.size + 1) (by simp) ?_; intro g cap w1 hown hgrow hat hlt4; have hb3 := HO.out.grown (((Keeps.refl (fun _ => False) wr).alloc _).drew) (by omega : 0 < 3) hgrow; have c1 : w1.cell? ⟨w.heap.size + 1 + 1, 0, none⟩ = some (vs 0) := (cell_of_blk hb3).trans rfl; have z1 : w1.frozen? ⟨w.heap.size + 1 + 1, 0, none⟩ = false := frozen_of_blk hb3; clear hb3))
          all_goals
            have HN := Lib.hid (WRel.step HO.out (by omega : 0 < 3) HX.out HIK.out (((Keeps.refl (fun _ => False) wr).alloc _).drew) hown hgrow (by simpa using hat))
            clear hown hgrow hat
            go_wp2
            go_meet
            exact HN.out
        case rest =>
          have HC1 := Lib.hid hcut; clear hcut
          obtain ⟨w4, rfl⟩ : ∃ w4 : World, w4 = wc := ⟨_, rfl⟩
          go_upto_region 7 with fail
          go_cut [] (fun wc => WRel W0 (w.heap.size + 1 + 1) t (LsOf I K T) k i 2 wc)
          case first =>
            obtain ⟨vs, hO⟩ := HC1.out
            obtain ⟨hb0, hz⟩ := HW0.out _ hO.keeps
            have q1' : w4.cell? ⟨w.heap.size, 1, none⟩ = some (.slice (some ⟨bK, oK, none⟩) I.length cK) := by rw [cell_of_blk hb0]; rfl
            have o1 := hO.cell.2.1
            have fz : w4.frozen? ⟨w.heap.size + 1 + 1, 1, none⟩ = false := frozen_of_blk hO.blk
            have el := hO.keeps.cell EK.out (fun h => h)
            have hO2 := hO.lt
            have HO := Lib.hid hO
            have hg2 : w.heap.size < w4.heap.size := by omega
            have hWs := HO.out.keeps.size
            have hlt3 := lt_of_heap hb0
            clear hO hb0 hz
            have hlen : (wls (LsOf I K T) k i 1 1).length ≤ 100000 := by rw [wls_here]; have h9 := length_eraseI ((LsOf I K T 1).take i) k; rw [List.length_take] at h9; omega
            have HX : Hid ((LsOf I K T 1)[i]? = some xK) := XK
            skip
            go_region_law ((refine step_append_lies _ (by rfl) _ _ _ (by rfl) W0.heap.size 3 i0 _ 1 8 Try.underlying23 hi0 hz0 hz1 hz2 rfl (by omega) (vs 1) (wls (LsOf I K T) k i 1 1).length ((wls (LsOf I K T) k i 1 1).map (Value.int .i64)) (by rfl) (((HO.out.own 1 (by omega)).alloc _).drew) ⟨w4.heap.size, 0, none⟩ 1 1 [.int .i64 xK] (by rfl) (by rfl) (World.news_of_block (cs := #[.int .i64 xK]) (t := 3) (fr := (0, 0)) (heap_alloc_new w4 _)) (by simp [Value.oneCell']) (by omega) (by unfold maxLen; omega) (by omega) (by simp; omega) (w4.heap.size + 1) (by simp) ?_; intro g cap w1 hown hgrow hat hlt4; have hb3 := HO.out.grown (((Keeps.refl (fun _ => False) w4).alloc _).drew) (by omega : 1 < 3) hgrow; have c1 : w1.cell? ⟨w.heap.size + 1 + 1, 1, none⟩ = some (vs 1) := (cell_of_blk hb3).trans rfl; have z1 : w1.frozen? ⟨w.heap.size + 1 + 1, 1, none⟩ = false := frozen_of_blk hb3; clear hb3))
            all_goals
              have HN := Lib.hid (WRel.step HO.out (by omega : 1 < 3) HX.out HIK.out (((Keeps.refl (fun _ => False) w4).alloc _).drew) hown hgrow (by simpa using hat))
              clear hown hgrow hat
              go_wp2
              go_meet
              exact HN.out
          case rest =>
            have HC2 := Lib.hid hcut; clear hcut
            obtain ⟨w5, rfl⟩ : ∃ w5 : World, w5 = wc := ⟨_, rfl⟩
            go_upto_region 8 with fail
            obtain ⟨vs, hO⟩ := HC2.out
            obtain ⟨hb0, hz⟩ := HW0.out _ hO.keeps
            have q2' : w5.cell? ⟨w.heap.size, 2, none⟩ = some (.slice (some ⟨bT, oT, none⟩) I.length cT) := by rw [cell_of_blk hb0]; rfl
            have o2 := hO.cell.2.2.1
            have fz : w5.frozen? ⟨w.heap.size + 1 + 1, 2, none⟩ = false := frozen_of_blk hO.blk
            have el := hO.keeps.cell ET.out (fun h => h)
            have hO2 := hO.lt
            have HO := Lib.hid hO
            have hg2 : w.heap.size < w5.heap.size := by omega
            have hWs := HO.out.keeps.size
            have hlt3 := lt_of_heap hb0
            clear hO hb0 hz
            have hlen : (wls (LsOf I K T) k i 2 2).length ≤ 100000 := by rw [wls_here]; have h9 := length_eraseI ((LsOf I K T 2).take i) k; rw [List.length_take] at h9; omega
            have HX : Hid ((LsOf I K T 2)[i]? = some xT) := XT
            skip
            go_region_law ((refine step_append_lies _ (by rfl) _ _ _ (by rfl) W0.heap.size 3 i0 _ 1 8 Try.underlying23 hi0 hz0 hz1 hz2 rfl (by omega) (vs 2) (wls (LsOf I K T) k i 2 2).length ((wls (LsOf I K T) k i 2 2).map (Value.int .i64)) (by rfl) (((HO.out.own 2 (by omega)).alloc _).drew) ⟨w5.heap.size, 0, none⟩ 1 1 [.int .i64 xT] (by rfl) (by rfl) (World.news_of_block (cs := #[.int .i64 xT]) (t := 3) (fr := (0, 0)) (heap_alloc_new w5 _)) (by simp [Value.oneCell']) (by omega) (by unfold maxLen; omega) (by omega) (by simp; omega) (w5.heap.size + 1) (by simp) ?_; intro g cap w1 hown hgrow hat hlt4; have hb3 := HO.out.grown (((Keeps.refl (fun _ => False) w5).alloc _).drew) (by omega : 2 < 3) hgrow; have c1 : w1.cell? ⟨w.heap.size + 1 + 1, 2, none⟩ = some (vs 2) := (cell_of_blk hb3).trans rfl; have z1 : w1.frozen? ⟨w.heap.size + 1 + 1, 2, none⟩ = false := frozen_of_blk hb3; clear hb3))
            all_goals
              have HN := Lib.hid (WRel.step HO.out (by omega : 2 < 3) HX.out HIK.out (((Keeps.refl (fun _ => False) w5).alloc _).drew) hown hgrow (by simpa using hat))
              clear hown hgrow hat
              have HN2 := Lib.hid (WRel.done HN.out)
              go_wp2
              go_roundw
              case rel => exact ⟨i + 1, by go_num, by omega, HN2.out⟩
              case measure => simp [intOf]; omega
    · obtain rfl : i = I.length := by omega
      have zz := hz
      have lz := lt_of_heap hz
      have z0 : wr.cell? ⟨w.heap.size + 1, 0, none⟩ = some (.slice none 0 0) := by rw [cell_of_blk hz]; rfl
      have z1 : wr.cell? ⟨w.heap.size + 1, 1, none⟩ = some (.slice none 0 0) := by rw [cell_of_blk hz]; rfl
      have z2 : wr.cell? ⟨w.heap.size + 1, 2, none⟩ = some (.slice none 0 0) := by rw [cell_of_blk hz]; rfl
      have z3 : wr.cell? ⟨w.heap.size + 1, 3, none⟩ = some (.int .i64 0) := by rw [cell_of_blk hz]; rfl
      have y0 : wr.frozen? ⟨w.heap.size + 1, 0, none⟩ = false := frozen_of_blk hz
      have y1 : wr.frozen? ⟨w.heap.size + 1, 1, none⟩ = false := frozen_of_blk hz
      have y2 : wr.frozen? ⟨w.heap.size + 1, 2, none⟩ = false := frozen_of_blk hz
      have y3 : wr.frozen? ⟨w.heap.size + 1, 3, none⟩ = false := frozen_of_blk hz
      obtain ⟨o0, o1, o2, o3⟩ := hO0.cell
      obtain ⟨a0, d0, v0⟩ := ownsRow_form1 (hO0.own 0 (by omega))
      obtain ⟨a1, d1, v1⟩ := ownsRow_form1 (hO0.own 1 (by omega))
      obtain ⟨a2, d2, v2⟩ := ownsRow_form1 (hO0.own 2 (by omega))
      have HO := Lib.hid hO0
      have HZ := Lib.hid hz
      generalize (wls (LsOf I K T) k I.length 0 0).length = n0 at v0
      generalize (wls (LsOf I K T) k I.length 0 1).length = n1 at v1
      generalize (wls (LsOf I K T) k I.length 0 2).length = n2 at v2
      rw [v0] at o0; rw [v1] at o1; rw [v2] at o2
      have V0 := Lib.hid v0; have V1 := Lib.hid v1; have V2 := Lib.hid v2
      have hk4 : Keeps (fun b => b = w.heap.size + 1) wr ((((wr.setCell ⟨w.heap.size + 1, 0, none⟩ (vs0 0)).setCell ⟨w.heap.size + 1, 1, none⟩ (vs0 1)).setCell ⟨w.heap.size + 1, 2, none⟩ (vs0 2)).setCell ⟨w.heap.size + 1, 3, none⟩ (.int .i64 t)) :=
        ((((Keeps.refl (fun b => b = w.heap.size + 1) wr).setCell (p := ⟨w.heap.size + 1, 0, none⟩) (.inl rfl) _).setCell (p := ⟨w.heap.size + 1, 1, none⟩) (.inl rfl) _).setCell (p := ⟨w.heap.size + 1, 2, none⟩) (.inl rfl) _).setCell (p := ⟨w.heap.size + 1, 3, none⟩) (.inl rfl) _
      have hb4 : ((((wr.setCell ⟨w.heap.size + 1, 0, none⟩ (vs0 0)).setCell ⟨w.heap.size + 1, 1, none⟩ (vs0 1)).setCell ⟨w.heap.size + 1, 2, none⟩ (vs0 2)).setCell ⟨w.heap.size + 1, 3, none⟩ (.int .i64 t)).heap[w.heap.size + 1]? = some (.cells #[vs0 0, vs0 1, vs0 2, .int .i64 t] 46 (0, 0)) := by
        rw [blk_set_same (blk_set_same (blk_set_same (blk_set_same hz _) _) _) _]; rfl
      have hfin : Out3 w (w.heap.size + 1 + 1) t vs0 (fun f => eraseI (LsOf I K T f) k) ((((wr.setCell ⟨w.heap.size + 1, 0, none⟩ (vs0 0)).setCell ⟨w.heap.size + 1, 1, none⟩ (vs0 1)).setCell ⟨w.heap.size + 1, 2, none⟩ (vs0 2)).setCell ⟨w.heap.size + 1, 3, none⟩ (.int .i64 t)) := by
        have h3 : ∀ f, f < 3 → wls (LsOf I K T) k I.length 0 f = eraseI (LsOf I K T f) k := fun f hf => by
          unfold wls
          rw [if_neg (Nat.not_lt_zero _), List.take_of_length_le]
          unfold LsOf; have := H1.out; have := H2.out; (repeat' split) <;> omega
        have he := HO.out.ext h3
        refine ⟨hk4.heap he.blk (by omega), fun i hi => ownsRow_mono (hk4.ownsRow (he.own i hi) (fun b hb e => by have := ((he.own i hi).lt b hb).1; have := HSZ.out; omega)) HKW.out.size, he.far, he.apart, by omega, ?_⟩
        exact (HKW.out.trans he.keeps).trans' hk4 (fun b hb => .inr (by omega))
      rw [v0, v1, v2] at hfin hb4
      have HF := Lib.hid hfin
      have HB4 := Lib.hid hb4
      clear hO0 hz zz hk4 hb4 hfin v0 v1 v2
      go_wp2_with fail
      refine bodyPost_ret (results_cell_row rfl _ _ (w.heap.size + 1) 46 _ (0, 0) _ rfl HB4.out Try.underlying46 rfl (by kernel_rfl)) rfl ?_
      exact ⟨vs0, by rw [V0.out, V1.out, V2.out], HF.out⟩

end Go.Proofs.Ytlghadoejmnllaa
