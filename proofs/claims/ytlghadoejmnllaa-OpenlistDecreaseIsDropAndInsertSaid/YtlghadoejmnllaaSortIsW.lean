/- OpenlistSortIsPlay: the walk. -/
import Derived.Test.YtlghadoejmnllaaLawOps
import Derived.Test.YtlghadoejmnllaaEx
namespace Go.Proofs.Ytlghadoejmnllaa
open Go.RowKit

theorem Try.info_op : (Try.prog.info? 38).map (fun i => (i.zero, i.size, i.bytes)) = some (some (.agg #[.int .i64 0, .int .i64 0, .int .i64 0]), 3, 24) := by kernel_rfl

theorem keysFrom_neL {keys : List Int} : ∀ {n : Int} {c i : Int}, keysFrom keys n = some (c, i) → c ≠ 0 := by
  induction keys with
  | nil => intro n c i h; cases h
  | cons k r ih =>
    intro n c i h
    rw [keysFrom] at h
    split at h
    · cases h; decide
    · exact ih h

theorem length_opCells (ops : List QOp) : (opCells ops).length = ops.length * 3 := by
  induction ops with
  | nil => rfl
  | cons o r ih =>
    have e : opCells (o :: r) = .int .i64 o.k :: .int .i64 o.i :: .int .i64 o.y :: opCells r := rfl
    rw [e]; simp only [List.length_cons]; omega

theorem opCells_append (a b : List QOp) : opCells (a ++ b) = opCells a ++ opCells b := by unfold opCells; exact List.flatMap_append

/-- A slice of operations in a row of one's own. -/
def OwnOps (B : Nat) (w : World) (v : Value) (ops : List QOp) : Prop := w.ownsRow B 38 3 v ops.length (opCells ops)

theorem OwnOps.nil (B : Nat) (w : World) : OwnOps B w (.slice none 0 0) [] := World.ownsRow_nil _ _ _ _

theorem OwnOps.form {B : Nat} {w : World} {v : Value} {ops : List QOp} (h : OwnOps B w v ops) : ∃ ao cap, v = .slice ao ops.length cap := by
  rcases h.2 with ⟨hv, h0⟩ | ⟨g, cap, cur, hv, _⟩
  · exact ⟨none, 0, by rw [hv, h0]⟩
  · exact ⟨_, cap, hv⟩

theorem OwnOps.keeps {S : Nat → Prop} {B : Nat} {w w' : World} {v : Value} {ops : List QOp} (h : OwnOps B w v ops) (hk : Keeps S w w') (hs : ∀ b, v.ownBlock = some b → ¬ S b) : OwnOps B w' v ops := hk.ownsRow h hs

theorem OwnOps.sl {B : Nat} {w : World} {v : Value} {ops : List QOp} (h : OwnOps B w v ops) : Sl w v ops.length (opCells ops) := by
  rcases h.2 with ⟨hv, h0⟩ | ⟨g, cap, cur, hv, hb, hg, hn, hm, hs, ht⟩
  · exact ⟨none, 0, by rw [hv, h0], by omega, fun h => by omega⟩
  · refine ⟨_, cap, hv, by omega, fun _ => ⟨g, 0, rfl, fun j x hj => ?_⟩⟩
    rw [Nat.zero_add, cell_of_blk hg]
    rw [← ht, List.getElem?_take] at hj
    split at hj
    · simpa using hj
    · cases hj

theorem OwnOps.snoc {B n : Nat} {w4 : World} {V : Value} {ops : List QOp} {o : QOp} (hn : ops.length = n) (hown : w4.ownsRow B 38 3 V (n + 1) (opCells ops ++ [.int .i64 o.k, .int .i64 o.i, .int .i64 o.y])) : OwnOps B w4 V (ops ++ [o]) := by
  unfold OwnOps
  rw [List.length_append, opCells_append, hn]
  exact hown

theorem OwnOps.grown {w2 wr Wa w4 : World} {v : Value} {ops : List QOp} (h : OwnOps w2.heap.size wr v ops) (hk : Keeps (fun _ => False) w2 wr) (hWa : Keeps (fun _ => False) wr Wa) (hgrow : Wa.grownBy w4 v.ownBlock) : Keeps (fun _ => False) w2 w4 :=
  (hk.trans hWa).trans' ((Keeps.refl (fun k => v.ownBlock = some k) Wa).grown hgrow (fun k hk => .inl hk)) (fun b hb => .inr (World.ownsRow.lt h b hb).1)

theorem sortIs_ok (w : World) (v : Value) (keys : List Int) (h : Ints w v keys) (hq : keysQ keys = none) (hl : keys.length ≤ 30) :
    Calls Try.prog 7 #[v] w fun e w' => e = .returned (.bool true) ∧ Keeps (fun _ => False) w w' := by
  obtain ⟨ak, ck, hvk, hmk⟩ := h.form
  have HC := Lib.hid (h.cell hvk)
  have HI := Lib.hid h
  subst hvk
  have hs : sortQ keys = .ok (drainA (keysA keys 0).length (keysA keys 0)) := by unfold sortQ; rw [hq]
  rw [length_keysA] at hs
  have HS := Lib.hid hs
  have HP := Lib.hid (play_sort hq hl)
  clear h hq hs
  go_enter Try.func7, Try.ntmps7
  go_wp2_with fail
  refine (Sort_any _ _ keys HI.out).mono ?_; rintro e w1 ⟨hk, hr⟩
  rw [HS.out] at hr
  obtain ⟨u, rfl, ho⟩ := hr
  have HK := Lib.hid hk
  have HO := Lib.hid ho
  clear hk ho
  go_wp2_with fail
  refine (example_any _).mono ?_; rintro e w2 ⟨rfl, hk⟩
  have b1 : w2.cell? ⟨w1.heap.size, 0, none⟩ = some (.int .i64 0) := hk.cell ((cell_of_blk (heap_alloc_new w1 _)).trans rfl) (fun h => h)
  have K2 := Lib.hid (((Keeps.refl _ w1).alloc _).trans hk)
  have l1 : w1.heap.size < w2.heap.size := by have := hk.size; simp at this; omega
  clear hk
  go_wp2_with fail
  obtain ⟨i0, hi0, hz0, hz1, hz2⟩ := info_parts Try.info_op
  go_loopw [5, 6] (fun ov iv wr => ∃ i : Nat, iv = .int .i64 (i : Int) ∧ i ≤ keys.length ∧ OwnOps w2.heap.size wr ov (insQ (keys.take i) 0) ∧ Keeps (fun _ => False) w2 wr) (fun _ iv _ => keys.length - (intOf iv).toNat)
  case atStart => exact ⟨0, rfl, Nat.zero_le _, OwnOps.nil _ _, Keeps.refl _ _⟩
  case round =>
    obtain ⟨i, rfl, hi, how, hkw⟩ := hrel
    have HW := Lib.hid how; have HKW := Lib.hid hkw
    clear how hkw
    by_cases hlt : i < keys.length
    · obtain ⟨b, off, rfl, hcell⟩ := HC.out (by omega)
      obtain ⟨x, hx⟩ : ∃ k, keys[i]? = some k := ⟨_, List.getElem?_eq_getElem hlt⟩
      have p1 := (HK.out.trans (K2.out.trans HKW.out)).cell (hcell i x hx) (fun h => h)
      have HX := Lib.hid hx
      obtain ⟨ao, co, rfl⟩ := HW.out.form
      have hle : (insQ (keys.take i) 0).length = i := by rw [length_insQ]; simp; omega
      have HLE := Lib.hid hle
      have hs2 : w2.heap.size ≤ wr.heap.size := HKW.out.size
      have hw' : wr.ownsRow w2.heap.size 38 3 (.slice ao i co) i (opCells (insQ (keys.take i) 0)) := by
        have h := HW.out; unfold OwnOps at h; rw [hle] at h; exact h
      have HW' := Lib.hid hw'
      clear hx hcell hw'
      rw [hle]
      clear hle
      go_wp2_with (at_builtin; refine wpList_append_lies _ rfl _ _ _ rfl w2.heap.size 38 i0 _ 3 24 Try.underlying22 hi0 hz0 hz1 hz2 rfl (by omega) _ i (opCells (insQ (keys.take i) 0)) (by rfl) (World.ownsRow.alloc (o := .cells #[.int .i64 1, .int .i64 (i : Int), .int .i64 x] 38) HW'.out) ⟨wr.heap.size, 0, none⟩ 1 1 [.int .i64 1, .int .i64 (i : Int), .int .i64 x] (by rfl) (by rfl) ?hnews ?hone (by omega) (by unfold maxLen; omega) (by omega) (by simp; omega) (wr.heap.size + 1) (by simp) ?_)
      case hnews => exact World.news_of_block (cs := #[.int .i64 1, .int .i64 (i : Int), .int .i64 x]) (t := 38) (fr := (0, 0)) (heap_alloc_new _ _)
      case hone => simp [Value.oneCell']
      intro g cap2 w4 hown hgrow hat hlt4
      have hN : OwnOps w2.heap.size w4 (.slice (some ⟨g, 0, none⟩) (i + 1) cap2) (insQ (keys.take (i + 1)) 0) := by
        rw [take_get HX.out, insQ_snoc]
        have e : (0 : Int) + ((keys.take i).length : Int) = (i : Int) := by simp; omega
        rw [e]
        exact OwnOps.snoc HLE.out hown
      have HN := Lib.hid hN
      have hw'' : OwnOps w2.heap.size wr (.slice ao i co) (insQ (keys.take i) 0) := by unfold OwnOps; rw [HLE.out]; exact HW'.out
      have HKN := Lib.hid (hw''.grown HKW.out ((Keeps.refl _ wr).alloc (.cells #[.int .i64 1, .int .i64 (i : Int), .int .i64 x] 38)) hgrow)
      clear hown hgrow hat hN hw''
      go_wp2_with fail
      go_roundw
      case rel => exact ⟨i + 1, by go_num, by omega, HN.out, HKN.out⟩
      case measure => simp [intOf]; omega
    · obtain rfl : i = keys.length := by omega
      have hfin := HW.out
      rw [List.take_length] at hfin
      have HW2 := Lib.hid hfin
      clear hfin
      go_wp2_with fail
      go_loopw [5, 7] (fun ov iv w5 => ∃ j : Nat, iv = .int .i64 (j : Int) ∧ j ≤ keys.length ∧ OwnOps w2.heap.size w5 ov (insQ keys 0 ++ List.replicate j ⟨3, 0, 0⟩) ∧ Keeps (fun _ => False) w2 w5) (fun _ iv _ => keys.length - (intOf iv).toNat)
      case atStart => exact ⟨0, rfl, Nat.zero_le _, by simpa using HW2.out, HKW.out⟩
      case round =>
        obtain ⟨j, rfl, hj, how, hkw⟩ := hrel
        have HU := Lib.hid how; have HKU := Lib.hid hkw
        clear how hkw
        by_cases hlj : j < keys.length
        · obtain ⟨ao, co, rfl⟩ := HU.out.form
          have hle : (insQ keys 0 ++ List.replicate j (⟨3, 0, 0⟩ : QOp)).length = keys.length + j := by simp [length_insQ]
          have HLE := Lib.hid hle
          have hs2 : w2.heap.size ≤ wr.heap.size := HKU.out.size
          have hw' : wr.ownsRow w2.heap.size 38 3 (.slice ao (keys.length + j) co) (keys.length + j) (opCells (insQ keys 0 ++ List.replicate j ⟨3, 0, 0⟩)) := by
            have h := HU.out; unfold OwnOps at h; rw [hle] at h; exact h
          have HW' := Lib.hid hw'
          clear hw'
          rw [hle]
          clear hle
          go_wp2_with (at_builtin; refine wpList_append_lies _ rfl _ _ _ rfl w2.heap.size 38 i0 _ 3 24 Try.underlying22 hi0 hz0 hz1 hz2 rfl (by omega) _ (keys.length + j) (opCells (insQ keys 0 ++ List.replicate j ⟨3, 0, 0⟩)) (by rfl) (World.ownsRow.alloc (o := .cells #[.int .i64 3, .int .i64 0, .int .i64 0] 38) HW'.out) ⟨wr.heap.size, 0, none⟩ 1 1 [.int .i64 3, .int .i64 0, .int .i64 0] (by rfl) (by rfl) ?hnews ?hone (by omega) (by unfold maxLen; omega) (by omega) (by simp; omega) (wr.heap.size + 1) (by simp) ?_)
          case hnews => exact World.news_of_block (cs := #[.int .i64 3, .int .i64 0, .int .i64 0]) (t := 38) (fr := (0, 0)) (heap_alloc_new _ _)
          case hone => simp [Value.oneCell']
          intro g cap2 w4 hown hgrow hat hlt4
          have hN : OwnOps w2.heap.size w4 (.slice (some ⟨g, 0, none⟩) (keys.length + j + 1) cap2) (insQ keys 0 ++ List.replicate (j + 1) ⟨3, 0, 0⟩) := by
            rw [List.replicate_succ', ← List.append_assoc]
            exact OwnOps.snoc (o := ⟨3, 0, 0⟩) HLE.out hown
          have HN := Lib.hid hN
          have hw'' : OwnOps w2.heap.size wr (.slice ao (keys.length + j) co) (insQ keys 0 ++ List.replicate j ⟨3, 0, 0⟩) := by unfold OwnOps; rw [HLE.out]; exact HW'.out
          have HKN := Lib.hid (hw''.grown HKU.out ((Keeps.refl _ wr).alloc (.cells #[.int .i64 3, .int .i64 0, .int .i64 0] 38)) hgrow)
          clear hown hgrow hat hN hw''
          go_wp2_with fail
          go_roundw
          case rel => exact ⟨j + 1, by go_num, by omega, HN.out, HKN.out⟩
          case measure => simp [intOf]; omega
        · obtain rfl : j = keys.length := by omega
          have HSL := Lib.hid HU.out.sl
          have htk : takenQ (insQ keys 0 ++ List.replicate keys.length ⟨3, 0, 0⟩) = .ok (drainA keys.length (keysA keys 0)) := by unfold takenQ; rw [HP.out]; rfl
          have HTK := Lib.hid htk
          have hb : (drainA keys.length (keysA keys 0) == drainA keys.length (keysA keys 0)) = true := by simp
          have HB := Lib.hid hb
          clear htk hb
          go_wp2_with fail
          refine (Play_any _ _ _ HSL.out).mono ?_; rintro e w6 ⟨hk6, hr⟩
          rw [HTK.out] at hr
          obtain ⟨va, rfl, ho⟩ := hr
          have K6 := Lib.hid hk6
          have OA := Lib.hid (Ints.of_own ho)
          clear hk6 ho
          go_wp2_with fail
          refine (ints_any _ _ _ _ _ (OA.out.keeps0 ((Keeps.refl _ w6).alloc _)) ((Ints.of_own HO.out).keeps0 ((K2.out.trans (HKU.out.trans K6.out)).alloc _))).mono ?_; rintro e w7 ⟨rfl, hk⟩
          rw [HB.out]
          have K7 := Lib.hid (HK.out.trans (K2.out.trans (HKU.out.trans (K6.out.trans (((Keeps.refl _ w6).alloc _).trans hk)))))
          clear hk
          go_wp2_with fail
          go_ret
          exact ⟨rfl, K7.out⟩

theorem sortIs_skip (w : World) (v : Value) (keys : List Int) (h : Ints w v keys) (hq : keysQ keys = none) (hl : 30 < keys.length) :
    Calls Try.prog 7 #[v] w fun e w' => e = .returned (.bool true) ∧ Keeps (fun _ => False) w w' := by
  obtain ⟨ak, ck, hvk, hmk⟩ := h.form
  have HI := Lib.hid h
  subst hvk
  have hs : sortQ keys = .ok (drainA (keysA keys 0).length (keysA keys 0)) := by unfold sortQ; rw [hq]
  have HS := Lib.hid hs
  clear h hq hs
  go_enter Try.func7, Try.ntmps7
  go_wp2_with fail
  refine (Sort_any _ _ keys HI.out).mono ?_; rintro e w1 ⟨hk, hr⟩
  rw [HS.out] at hr
  obtain ⟨u, rfl, ho⟩ := hr
  have HK := Lib.hid hk
  clear hk ho
  go_wp2_with fail
  refine (example_any _).mono ?_; rintro e w2 ⟨rfl, hk⟩
  have b1 : w2.cell? ⟨w1.heap.size, 0, none⟩ = some (.int .i64 0) := hk.cell ((cell_of_blk (heap_alloc_new w1 _)).trans rfl) (fun h => h)
  have K2 := Lib.hid (HK.out.trans (((Keeps.refl _ w1).alloc _).trans hk))
  clear hk
  go_wp2_with fail
  go_ret
  exact ⟨rfl, K2.out⟩

theorem sortIs_err (w : World) (v : Value) (keys : List Int) (h : Ints w v keys) (c n : Int) (hq : keysQ keys = some (c, n)) :
    Calls Try.prog 7 #[v] w fun e w' => e = .returned (.bool true) ∧ Keeps (fun _ => False) w w' := by
  obtain ⟨ak, ck, hvk, hmk⟩ := h.form
  have HI := Lib.hid h
  subst hvk
  have hs : sortQ keys = .error (c, n) := by unfold sortQ; rw [hq]
  have hc : c ≠ 0 := by
    unfold keysQ at hq
    split at hq
    · cases hq; decide
    · exact keysFrom_neL hq
  have hc2 : (c != 0) = true := by simpa using hc
  have HS := Lib.hid hs
  clear h hq hs hc
  go_enter Try.func7, Try.ntmps7
  go_wp2_with fail
  refine (Sort_any _ _ keys HI.out).mono ?_; rintro e w1 ⟨hk, hr⟩
  rw [HS.out] at hr
  subst hr
  have HK := Lib.hid hk
  clear hk
  go_wp2_with fail
  refine (example_any _).mono ?_; rintro e w2 ⟨rfl, hk⟩
  have b1 : w2.cell? ⟨w1.heap.size, 0, none⟩ = some (.int .i64 c) := hk.cell ((cell_of_blk (heap_alloc_new w1 _)).trans rfl) (fun h => h)
  have K2 := Lib.hid (HK.out.trans (((Keeps.refl _ w1).alloc _).trans hk))
  clear hk
  go_wp2_with fail
  go_ret
  exact ⟨rfl, K2.out⟩

theorem sortIs_any (w : World) (v : Value) (keys : List Int) (h : Ints w v keys) :
    Calls Try.prog 7 #[v] w fun e w' => e = .returned (.bool true) ∧ Keeps (fun _ => False) w w' := by
  cases hq : keysQ keys with
  | some p => obtain ⟨c, n⟩ := p; exact sortIs_err w v keys h c n hq
  | none =>
    by_cases hl : keys.length ≤ 30
    · exact sortIs_ok w v keys h hq hl
    · exact sortIs_skip w v keys h hq (by omega)

end Go.Proofs.Ytlghadoejmnllaa
