/- play: the loop over the operations. -/
import Derived.Test.YtlghadoejmnllaaPlayA
import Derived.Test.YtlghadoejmnllaaRes
namespace Go.Proofs.Ytlghadoejmnllaa
open Go.RowKit

/-- What play leaves. -/
def PlayPost (w : World) (ops : List QOp) (e : Ending) (w' : World) : Prop :=
  Keeps (fun _ => False) w w' ∧ match playQ ops with
  | .error (c, n) => e = .returned (.tuple #[.pointer none, .slice none 0 0, .agg #[.int .i64 c, .int .i64 n]])
  | .ok (tk, A) => ∃ Q v t, e = .returned (.tuple #[.pointer (some ⟨Q, 0, none⟩), v, .agg #[.int .i64 0, .int .i64 0]]) ∧ 0 ≤ t ∧ t ≤ 1000 ∧ A.length ≤ 60 ∧ tk.length ≤ 60 ∧
      w'.ownsRow w.heap.size 3 1 v tk.length (tk.map (Value.int .i64)) ∧ QRep w' Q A t (fun b => w.heap.size ≤ b ∧ v.ownBlock ≠ some b)

structure PlayInv (w : World) (Q : Nat) (ops : List QOp) (n : Nat) (A : List (Int × Int)) (tk : List Int) (t : Int) (v : Value) (wr : World) : Prop where
  eq : playFrom (ops.drop n) n A tk = playFrom ops 0 [] []
  t0 : 0 ≤ t
  tn : t ≤ n
  An : A.length ≤ n
  tkn : tk.length ≤ n
  keeps : Keeps (fun _ => False) w wr
  fault : wr.heap[w.heap.size]? = some (.cells #[.int .i64 0, .int .i64 0] 25 (0, 0))
  own : wr.ownsRow (w.heap.size + 1) 3 1 v tk.length (tk.map (Value.int .i64))
  rep : QRep wr Q A t (fun b => w.heap.size < b ∧ v.ownBlock ≠ some b)

theorem drop_get {ops : List QOp} {n : Nat} {o : QOp} (h : ops[n]? = some o) : ops.drop n = o :: ops.drop (n + 1) := by
  obtain ⟨h1, h2⟩ := List.getElem?_eq_some_iff.1 h
  rw [← h2, List.getElem_cons_drop]

theorem PlayInv.call {w wr : World} {Q : Nat} {ops : List QOp} {n : Nat} {A : List (Int × Int)} {tk : List Int} {t : Int} {v : Value} (h : PlayInv w Q ops n A tk t v wr) (o : Obj) :
    QRep (wr.alloc o) Q A t (fun b => (w.heap.size < b ∧ v.ownBlock ≠ some b) ∧ b < wr.heap.size) :=
  (h.rep.mono (F' := fun b => (w.heap.size < b ∧ v.ownBlock ≠ some b) ∧ b < wr.heap.size) (fun b hb hF => ⟨hF, hb⟩)).keeps ((Keeps.refl (fun _ => False) _).alloc _) (fun _ _ h => h)

/-- What is known behind the call of step. -/
structure PlayMid (w : World) (Q : Nat) (A' : List (Int × Int)) (tk : List Int) (t' : Int) (v : Value) (w2 : World) : Prop where
  keeps : Keeps (fun _ => False) w w2
  fault : w2.heap[w.heap.size]? = some (.cells #[.int .i64 0, .int .i64 0] 25 (0, 0))
  own : w2.ownsRow (w.heap.size + 1) 3 1 v tk.length (tk.map (Value.int .i64))
  rep : QRep w2 Q A' t' (fun b => w.heap.size < b ∧ v.ownBlock ≠ some b)

theorem PlayInv.mid {w wr w2 : World} {Q : Nat} {ops : List QOp} {n : Nat} {A A' : List (Int × Int)} {tk : List Int} {t : Int} {v : Value} (h : PlayInv w Q ops n A tk t v wr) {o : Obj}
    (hs : StepPost (wr.alloc o) Q A' t (fun b => (w.heap.size < b ∧ v.ownBlock ≠ some b) ∧ b < wr.heap.size) w2) : ∃ t', t ≤ t' ∧ t' ≤ t + 1 ∧ PlayMid w Q A' tk t' v w2 := by
  obtain ⟨t', h1, h2, hr⟩ := hs.rep
  have hlt := lt_of_heap h.fault
  have k1 : Keeps (fun b => w.heap.size < b ∧ v.ownBlock ≠ some b) wr w2 := ((Keeps.refl _ wr).alloc o).trans (hs.keeps.mono (fun _ _ h => h.1))
  have own2 := k1.ownsRow h.own (fun k hk hb => hb.2 hk)
  refine ⟨t', h1, h2, ?_, k1.heap h.fault (fun hb => Nat.lt_irrefl _ hb.1), own2, hr.mono ?_⟩
  · refine h.keeps.trans' k1 ?_
    intro i hi; right; omega
  · intro b hb hF
    rcases hF with hF | hF
    · exact hF.1
    · have : wr.heap.size + 1 ≤ b := by simpa using hF
      refine ⟨by omega, fun e => ?_⟩
      have := (h.own.lt b e).2
      omega

theorem play_next {w wr w2 : World} {Q : Nat} {ops : List QOp} {n : Nat} {A : List (Int × Int)} {tk : List Int} {t t' : Int} {v : Value} (h : PlayInv w Q ops n A tk t v wr) {o : QOp} (ho : ops[n]? = some o)
    (hc : (stepR A o.k o.i o.y).1 = 0) (h3 : o.k ≠ 3) (h1 : t ≤ t') (h2 : t' ≤ t + 1) (hm : PlayMid w Q (stepR A o.k o.i o.y).2.2 tk t' v w2) : PlayInv w Q ops (n + 1) (stepR A o.k o.i o.y).2.2 tk t' v w2 := by
  have e := h.eq
  have := length_stepR A o.k o.i o.y
  have := h.An; have := h.tkn; have := h.t0; have := h.tn
  refine ⟨?_, by omega, by omega, by omega, by omega, hm.keeps, hm.fault, hm.own, hm.rep⟩
  rw [drop_get ho, playFrom, if_neg (by simpa using hc), if_neg h3] at e
  rw [← e]; rfl

theorem play_take {w wr w2 w3 : World} {Q : Nat} {ops : List QOp} {n : Nat} {A : List (Int × Int)} {tk : List Int} {t t' : Int} {v : Value} (h : PlayInv w Q ops n A tk t v wr) {o : QOp} (ho : ops[n]? = some o)
    (hc : (stepR A o.k o.i o.y).1 = 0) (h3 : o.k = 3) (h1 : t ≤ t') (h2 : t' ≤ t + 1) (hm : PlayMid w Q (stepR A o.k o.i o.y).2.2 tk t' v w2) {x : Obj} {g cap : Nat}
    (hown : w3.ownsRow (w.heap.size + 1) 3 1 (.slice (some ⟨g, 0, none⟩) (tk.length + 1) cap) (tk.length + 1) (tk.map (Value.int .i64) ++ [.int .i64 (stepR A o.k o.i o.y).2.1]))
    (hgrow : (w2.alloc x).grownBy w3 v.ownBlock) (hat : v.ownBlock = some g ∨ g = w2.heap.size + 1) : PlayInv w Q ops (n + 1) (stepR A o.k o.i o.y).2.2 (tk ++ [(stepR A o.k o.i o.y).2.1]) t' (.slice (some ⟨g, 0, none⟩) (tk.length + 1) cap) w3 := by
  have e := h.eq
  have := length_stepR A o.k o.i o.y
  have := h.An; have := h.tkn; have := h.t0; have := h.tn
  have hlt := lt_of_heap hm.fault
  have k3 : Keeps (fun b => v.ownBlock = some b) w2 w3 := ((Keeps.refl _ w2).alloc x).grown hgrow (fun k hk => .inl hk)
  refine ⟨?_, by omega, by omega, by omega, by simp; omega, ?_, ?_, by simpa using hown, ?_⟩
  · rw [drop_get ho, playFrom, if_neg (by simpa using hc), if_pos h3] at e
    rw [← e]; rfl
  · refine hm.keeps.trans' k3 ?_
    intro i hi; right; have := (hm.own.lt i hi).1; omega
  · exact k3.heap hm.fault (fun hb => by have := (hm.own.lt _ hb).1; omega)
  · have r1 := hm.rep.mono (F' := fun b => (w.heap.size < b ∧ v.ownBlock ≠ some b) ∧ b < w2.heap.size) (fun b hb hF => ⟨hF, hb⟩)
    have r2 := r1.keeps k3 (fun b hb hv => hb.1.2 hv)
    refine r2.mono ?_
    rintro b hb ⟨⟨hb1, hb2⟩, hb3⟩
    refine ⟨hb1, ?_⟩
    intro e
    simp [Value.ownBlock] at e
    subst e
    rcases hat with hat | hat
    · exact hb2 hat
    · omega

set_option maxHeartbeats 1000000 in
theorem play_any (w : World) (v : Value) (ops : List QOp) (h : Sl w v ops.length (opCells ops)) :
    Calls Try.prog 17 #[v] w (PlayPost w ops) := by
  obtain ⟨ao, cap, rfl, hm, hc⟩ := h
  unfold maxLen at hm
  by_cases h60 : 60 < ops.length
  · have hp : playQ ops = .error (2, -1) := by unfold playQ; rw [if_pos h60]
    have HP : Hid (∀ w', Keeps (fun _ => False) w w' → PlayPost w ops (.returned (.tuple #[.pointer none, .slice none 0 0, .agg #[.int .i64 2, .int .i64 (-1)]])) w') := fun w' hk => ⟨hk, by rw [hp]⟩
    clear hp hc
    go_enter Try.func17, Try.ntmps17
    go_wp2
    refine bodyPost_ret (v := .tuple #[.pointer none, .slice none 0 0, .agg #[.int .i64 2, .int .i64 (-1)]]) (by simp [results, Try.results17, go_sem]) rfl ?_
    exact HP.out _ ((Keeps.refl _ _).alloc _)
  · have hp : playQ ops = playFrom ops 0 [] [] := by unfold playQ; rw [if_neg h60]
    have HP := Lib.hid hp
    have HC := Lib.hid hc
    clear hp hc
    go_enter Try.func17, Try.ntmps17
    go_wp2_with fail
    refine (new_any _).mono ?_; rintro e w1 ⟨rfl, hr, hk⟩
    have hI : PlayInv w (w.heap.size + 1 + 1) ops 0 [] [] 0 (.slice none 0 0) w1 := by
      have hsz : (w.alloc (.cells #[.int .i64 0, .int .i64 0] 25)).heap.size = w.heap.size + 1 := by simp
      rw [hsz] at hr
      refine ⟨rfl, Int.le_refl _, Int.le_refl _, by simp, by simp, ((Keeps.refl _ _).alloc _).trans hk, hk.heap (heap_alloc_new w _) (fun h => h), World.ownsRow_nil _ _ _ _, hr.mono (fun b _ hb => ⟨by omega, by simp [Value.ownBlock]⟩)⟩
    have HI := Lib.hid hI
    clear hI hr hk
    go_wp2_with fail
    go_loopw [6, 18] (fun ov iv wr => ∃ (n : Nat) (A : List (Int × Int)) (tk : List Int) (t : Int), iv = .int .i64 (n : Int) ∧ n ≤ ops.length ∧ PlayInv w (w.heap.size + 1 + 1) ops n A tk t ov wr) (fun _ iv _ => ops.length - (intOf iv).toNat)
    case atStart => exact ⟨0, [], [], 0, rfl, Nat.zero_le _, HI.out⟩
    case round =>
      obtain ⟨n, A, tk, t, rfl, hn, hJ⟩ := hrel
      have HJ := Lib.hid hJ
      clear hJ
      by_cases hlt : n < ops.length
      · obtain ⟨b, off, rfl, hcell⟩ := HC.out (by omega)
        obtain ⟨o, ho⟩ : ∃ o, ops[n]? = some o := ⟨_, List.getElem?_eq_getElem hlt⟩
        obtain ⟨o1, o2, o3⟩ := opCells_get ops n o ho
        have p1 := HJ.out.keeps.cell (hcell _ _ o1) (fun h => h)
        have p2 := HJ.out.keeps.cell (hcell _ _ o2) (fun h => h)
        have p3 := HJ.out.keeps.cell (hcell _ _ o3) (fun h => h)
        rw [← Nat.add_assoc] at p2 p3
        clear hcell o1 o2 o3
        have hn60 : n ≤ 60 := by omega
        have HO := Lib.hid ho
        clear ho
        by_cases hc : (stepR A o.k o.i o.y).1 = 0
        · have HCO := Lib.hid hc
          by_cases h3 : o.k = 3
          · have b3 : (o.k == 3) = true := by simpa using h3
            have H3 := Lib.hid h3
            clear hc h3
            go_wp2_with fail
            refine (step_any _ _ A t _ (HJ.out.call _) o.k o.i o.y ⟨HJ.out.t0, by have := HJ.out.tn; omega⟩ (by have := HJ.out.An; omega)).mono ?_; rintro e w2 ⟨he, hS⟩; rw [HCO.out] at he; subst he
            have hb := box_cellS hS.keeps (fun hb => Nat.lt_irrefl _ hb.2) 0 (x := .int .i64 o.k) rfl
            obtain ⟨t', ht1, ht2, hM⟩ := HJ.out.mid hS
            have HM := Lib.hid hM
            obtain ⟨i0, hi0, hz0, hz1, hz2⟩ := info_parts Try.info3
            obtain ⟨ao', cap', rfl⟩ := ownsRow_form1 HM.out.own
            clear hS hM
            go_wp2_with (at_builtin; refine wpList_append_lies _ rfl _ _ _ rfl (w.heap.size + 1) 3 i0 _ 1 8 Try.underlying23 hi0 hz0 hz1 hz2 rfl (by omega) _ tk.length _ (by rfl) (HM.out.own.alloc _) ⟨w2.heap.size, 0, none⟩ 1 1 [.int .i64 (stepR A o.k o.i o.y).2.1] (by rfl) (by rfl) ?hnews ?hone (by omega) (by have := HJ.out.tkn; unfold maxLen; omega) (by have := HJ.out.tkn; omega) (by have := lt_of_heap HM.out.fault; simp; omega) (w2.heap.size + 1) (by simp) ?_)
            case hnews => exact World.news_of_block (cs := #[.int .i64 (stepR A o.k o.i o.y).2.1]) (t := 3) (fr := (0, 0)) (heap_alloc_new _ _)
            case hone => simp [Value.oneCell']
            intro g cap2 w3 hown hgrow hat hlt3
            have HN := Lib.hid (play_take HJ.out HO.out HCO.out H3.out ht1 ht2 HM.out hown hgrow hat)
            clear hown hgrow hat
            go_wp2_with fail
            go_roundw
            case rel => exact ⟨n + 1, _, _, _, by go_num, by omega, HN.out⟩
            case measure => simp [intOf]; omega
          · have b3 : (o.k == 3) = false := by simpa using h3
            have H3 := Lib.hid h3
            clear hc h3
            go_wp2_with fail
            refine (step_any _ _ A t _ (HJ.out.call _) o.k o.i o.y ⟨HJ.out.t0, by have := HJ.out.tn; omega⟩ (by have := HJ.out.An; omega)).mono ?_; rintro e w2 ⟨he, hS⟩; rw [HCO.out] at he; subst he
            have hb := box_cellS hS.keeps (fun hb => Nat.lt_irrefl _ hb.2) 0 (x := .int .i64 o.k) rfl
            obtain ⟨t', ht1, ht2, hM⟩ := HJ.out.mid hS
            have HN := Lib.hid (play_next HJ.out HO.out HCO.out H3.out ht1 ht2 hM)
            clear hS hM
            go_wp2_with fail
            go_roundw
            case rel => exact ⟨n + 1, _, _, _, by go_num, by omega, HN.out⟩
            case measure => simp [intOf]; omega
        · have hpe : playQ ops = .error ((stepR A o.k o.i o.y).1, (n : Int)) := by
            rw [HP.out, ← HJ.out.eq, drop_get HO.out, playFrom, if_pos hc]
          generalize hcc : (stepR A o.k o.i o.y).1 = c at *
          have bc : (c != 0) = true := by simpa using hc
          have HCO := Lib.hid hcc
          have HPE : Hid (∀ w', Keeps (fun _ => False) w w' → PlayPost w ops (.returned (.tuple #[.pointer none, .slice none 0 0, .agg #[.int .i64 c, .int .i64 (n : Int)]])) w') := fun w' hk => ⟨hk, by rw [hpe]⟩
          clear hc hpe hcc
          go_wp2_with fail
          refine (step_any _ _ A t _ (HJ.out.call _) o.k o.i o.y ⟨HJ.out.t0, by have := HJ.out.tn; omega⟩ (by have := HJ.out.An; omega)).mono ?_; rintro e w2 ⟨he, hS⟩; rw [HCO.out] at he; subst he
          obtain ⟨t', ht1, ht2, hM⟩ := HJ.out.mid hS
          have f0 : w2.cell? ⟨w.heap.size, 0, none⟩ = some (.int .i64 0) := by rw [cell_of_blk hM.fault]; rfl
          have f1 : w2.cell? ⟨w.heap.size, 1, none⟩ = some (.int .i64 0) := by rw [cell_of_blk hM.fault]; rfl
          have g0 : w2.frozen? ⟨w.heap.size, 0, none⟩ = false := frozen_of_blk hM.fault
          have g1 : w2.frozen? ⟨w.heap.size, 1, none⟩ = false := frozen_of_blk hM.fault
          have HK := Lib.hid hM.keeps
          clear hS hM
          go_wp2_with fail
          refine bodyPost_ret (v := .tuple #[.pointer none, .slice none 0 0, .agg #[.int .i64 c, .int .i64 (n : Int)]]) (by simp [results, Try.results17, go_sem, f0, f1]) rfl ?_
          refine HPE.out _ (HK.out.trans' (((Keeps.refl (fun b => b = w.heap.size) w2).setCell (p := ⟨w.heap.size, 0, none⟩) (.inl rfl) _).setCell (p := ⟨w.heap.size, 1, none⟩) (.inl rfl) _) (fun i hi => .inr (by omega)))
      · obtain rfl : n = ops.length := by omega
        have hfin : PlayPost w ops (.returned (.tuple #[.pointer (some ⟨w.heap.size + 1 + 1, 0, none⟩), u6, .agg #[.int .i64 0, .int .i64 0]])) ((wr.setCell ⟨w.heap.size, 0, none⟩ (.int .i64 0)).setCell ⟨w.heap.size, 1, none⟩ (.int .i64 0)) := by
          have e := HJ.out.eq
          rw [List.drop_length, playFrom] at e
          have kk : Keeps (fun b => b = w.heap.size) wr ((wr.setCell ⟨w.heap.size, 0, none⟩ (.int .i64 0)).setCell ⟨w.heap.size, 1, none⟩ (.int .i64 0)) := ((Keeps.refl (fun b => b = w.heap.size) wr).setCell (p := ⟨w.heap.size, 0, none⟩) (.inl rfl) _).setCell (p := ⟨w.heap.size, 1, none⟩) (.inl rfl) _
          refine ⟨HJ.out.keeps.trans' kk (fun i hi => .inr (by omega)), ?_⟩
          rw [HP.out, ← e]
          refine ⟨_, _, t, rfl, HJ.out.t0, by have := HJ.out.tn; omega, by have := HJ.out.An; omega, by have := HJ.out.tkn; omega, ?_, ?_⟩
          · have := kk.ownsRow HJ.out.own (fun k hk hb => by have := (HJ.out.own.lt k hk).1; omega)
            exact ownsRow_mono this (by omega)
          · exact (HJ.out.rep.keeps kk (fun b hb e => by have := hb.1; omega)).mono (fun b _ hb => ⟨by have := hb.1; omega, hb.2⟩)
        have f0 : wr.cell? ⟨w.heap.size, 0, none⟩ = some (.int .i64 0) := by rw [cell_of_blk HJ.out.fault]; rfl
        have f1 : wr.cell? ⟨w.heap.size, 1, none⟩ = some (.int .i64 0) := by rw [cell_of_blk HJ.out.fault]; rfl
        have g0 : wr.frozen? ⟨w.heap.size, 0, none⟩ = false := frozen_of_blk HJ.out.fault
        have g1 : wr.frozen? ⟨w.heap.size, 1, none⟩ = false := frozen_of_blk HJ.out.fault
        have HF := Lib.hid hfin; clear hfin
        go_wp2_with fail
        refine bodyPost_ret (v := .tuple #[.pointer (some ⟨w.heap.size + 1 + 1, 0, none⟩), u6, .agg #[.int .i64 0, .int .i64 0]]) (by simp [results, Try.results17, go_sem, f0, f1]) rfl ?_
        exact HF.out

end Go.Proofs.Ytlghadoejmnllaa
