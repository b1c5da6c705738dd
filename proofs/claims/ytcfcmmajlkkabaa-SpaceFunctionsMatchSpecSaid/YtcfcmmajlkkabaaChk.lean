/- space.Checked. -/
import Derived.Test.YtcfcmmajlkkabaaAll
import Derived.Test.YtcfcmmajlkkabaaValid
namespace Go.Proofs.Ytcfcmmajlkkabaa
open Go.RowKit

theorem wops_ok {t : Tsk} (ok : t.Ok) : WopsOk (wordsOf t.ops) := by
  intro o ho
  unfold wordsOf at ho
  obtain ⟨p, hp, rfl⟩ := List.mem_map.1 ho
  have h := ok.ops p hp
  have hn : t.n ≤ 32 := by have := ok.n1; omega
  exact ⟨wd_lt32 hn h.pre, wd_lt32 hn h.add, wd_lt32 hn h.del⟩

/-- The states that a task explores, if they are few. -/
def explored (t : Tsk) : Option (List Nat) := reached (wordsOf t.ops) (wd t.init)

/-- What Checked hands back. -/
def CheckedPost (t : Tsk) (w : World) (e : Ending) (w' : World) : Prop := Keeps (fun _ => False) w w' ∧
  (((taskFault t).1 ≠ 0 ∧ e = .returned (.tuple #[.pointer none, .slice none 0 0, .agg #[.int .i64 (taskFault t).1, .int .i64 (taskFault t).2]])) ∨
   (t.Ok ∧ explored t = none ∧ e = .returned (.tuple #[.pointer none, .slice none 0 0, .agg #[.int .i64 10, .int .i64 (-7)]])) ∨
   (t.Ok ∧ ∃ l, explored t = some l ∧ ∃ (b : Nat) (v vl : Value) (ws : List Nat), e = .returned (.tuple #[.pointer (some ⟨b, 0, none⟩), vl, .agg #[.int .i64 0, .int .i64 0]]) ∧ WordsAt w' w.heap.size b (wd t.init) (wd t.goal) v (wordsOf t.ops) ∧
      ws.Perm l ∧ ws.Pairwise (fun a b => ¬ cmpW b a < 0) ∧ w'.ownsRow w.heap.size 90 1 vl ws.length (ws.map encW)))

theorem WordsAt.keepsS {S : Nat → Prop} {w w' : World} {base b s g : Nat} {v : Value} {ops : List Wop} (h : WordsAt w base b s g v ops) (hk : Keeps S w w') (hb : ¬ S b) (hv : ∀ k, v.ownBlock = some k → ¬ S k) : WordsAt w' base b s g v ops :=
  ⟨hk.heap h.blk hb, hk.ownsRow h.own hv, h.low, h.ne⟩
theorem WordsAt.mono {w : World} {base base' b s g : Nat} {v : Value} {ops : List Wop} (h : WordsAt w base b s g v ops) (hb : base' ≤ base) : WordsAt w base' b s g v ops :=
  ⟨h.blk, ownsRow_mono h.own hb, Nat.le_trans hb h.low, h.ne⟩

set_option maxHeartbeats 2000000 in
theorem checked_any (w : World) (vi vg vo : Value) (t : Tsk) (h : TaskAt w vi vg vo t) :
    Calls Try.prog 57 #[.agg #[.int .i64 t.n, vi, vg, vo]] w (CheckedPost t w) := by
  obtain ⟨ai, ci, h1, _⟩ := h.init.form
  obtain ⟨ag, cg, h2, _⟩ := h.goal.form
  obtain ⟨ao, co, h3, hmo⟩ := h.ops.form
  subst h1 h2 h3
  have K1 := (Keeps.refl (fun _ => False) w).alloc (.cells #[.int .i64 t.n, .slice ai t.init.length ci, .slice ag t.goal.length cg, .slice ao t.ops.length co] 25)
  have HT := h.keeps0 (K1.alloc (.cells #[.int .i64 0, .int .i64 0] 29))
  have HB := (Four.new w (.int .i64 t.n) (.slice ai t.init.length ci) (.slice ag t.goal.length cg) (.slice ao t.ops.length co) 25).keeps0 ((Keeps.refl _ _).alloc (.cells #[.int .i64 0, .int .i64 0] 29))
  have HF : Flt w ((w.alloc (.cells #[.int .i64 t.n, .slice ai t.init.length ci, .slice ag t.goal.length cg, .slice ao t.ops.length co] 25)).alloc (.cells #[.int .i64 0, .int .i64 0] 29)) (w.heap.size + 1) 29 :=
    ⟨by have := heap_alloc_new (w.alloc (.cells #[.int .i64 t.n, .slice ai t.init.length ci, .slice ag t.goal.length cg, .slice ao t.ops.length co] 25)) (.cells #[.int .i64 0, .int .i64 0] 29); rwa [World.size_alloc] at this, by omega, K1.alloc _⟩
  replace HT := Lib.hid HT; replace HB := Lib.hid HB; replace HF := Lib.hid HF
  clear h K1
  go_enter Try.func57, Try.ntmps57
  go_upto_region 1 with fail
  generalize ((w.alloc (.cells #[.int .i64 t.n, .slice ai t.init.length ci, .slice ag t.goal.length cg, .slice ao t.ops.length co] 25)).alloc (.cells #[.int .i64 0, .int .i64 0] 29)) = w1 at HT HB HF ⊢
  have hbx := HB.out.lt
  obtain ⟨d0, d1, d2, d3⟩ := HB.out
  go_wp2_with fail
  refine (validate_any _ _ _ _ t HT.out).mono ?_; rintro e w2 ⟨rfl, hk⟩
  have K2 := Lib.hid hk
  have hbx2 := (HB.out.keeps0 hk).lt
  have l2 : w1.heap.size ≤ w2.heap.size := hk.size
  clear d0 d1 d2 d3 hk
  have KA := Lib.hid (K2.out.alloc (.cells #[.int .i64 (taskFault t).1, .int .i64 (taskFault t).2] 29))
  obtain ⟨d0, d1, d2, d3⟩ := HB.out.keeps0 K2.out
  by_cases hc : (taskFault t).1 = 0
  · have hok := taskFault_zero.1 hc
    have hft := taskFault_ok hok
    have OK := Lib.hid hok
    rw [hft] at KA ⊢
    clear hc hft hok
    go_wp2_with fail
    have HTA := Lib.hid (HT.out.keeps0 KA.out)
    refine (of_any _ _ _ _ t HTA.out OK.out).mono ?_; rintro e w3 ⟨b, v, rfl, hw, hk3⟩
    have KB := Lib.hid (KA.out.trans hk3)
    have HW := Lib.hid hw
    have hs3 : w1.heap.size ≤ w3.heap.size := KB.out.size
    have hstl := wd_lt32 (by have := OK.out.n1; omega : t.n ≤ 32) OK.out.init
    clear hk3 hw
    go_wp2_with fail
    refine (all_any w3 b (wd t.init) (wd t.goal) _ v (wordsOf t.ops) HW.out (wops_ok OK.out) (by unfold wordsOf; rw [List.length_map]; exact OK.out.few) hstl).mono ?_
    rintro e w4 ⟨hk4, hr⟩
    have KC := Lib.hid (KB.out.trans hk4)
    have HW4 := Lib.hid (HW.out.keeps0 hk4)
    clear hk4
    rcases hr with ⟨hr1, rfl⟩ | ⟨l, hr1, vl, out, rfl, hp, hown⟩
    · have HR := Lib.hid hr1
      obtain ⟨e0, e1, z0, z1, hF⟩ := (HF.out.keeps0 KC.out).cells
      clear hr1
      go_wp2_with fail
      refine bodyPost_ret (results_tmp2_cell _ _ (w.heap.size + 1) 29 #[.int .i64 10, .int .i64 (-7)] (0, 0) _ rfl rfl ((HF.out.keeps0 KC.out).set (.int .i64 10) (.int .i64 (-7))).1 Try.underlying29 rfl (by kernel_rfl)) rfl ?_
      exact ⟨((HF.out.keeps0 KC.out).set _ _).2, .inr (.inl ⟨OK.out, HR.out, rfl⟩)⟩
    · have HR := Lib.hid hr1
      obtain ⟨av, cv, hav⟩ := ownsRow_form1 hown
      subst hav
      have HO := Lib.hid hown; have HP := Lib.hid hp
      have hrl := reached_some hr1
      have hlen : out.length ≤ 2000 := by rw [hp.length_eq]; exact hrl.2.1
      clear hr1 hown hp hrl
      go_wp2_with fail
      refine (sort_any _ _ _ _ out HO.out (by omega)).mono ?_; rintro e w5 ⟨rfl, ws, hp2, hs2, hown2, hk5⟩
      have KD := Lib.hid (KC.out.trans' hk5 (fun i hi => .inr (by have := (World.ownsRow.lt HO.out i hi).1; omega)))
      have hvl : ∀ k, (Value.slice av out.length cv).ownBlock = some k → w3.heap.size ≤ k := fun k hk => (World.ownsRow.lt HO.out k hk).1
      have HW5 := Lib.hid (show WordsAt w5 w.heap.size b (wd t.init) (wd t.goal) v (wordsOf t.ops) from
        (HW4.out.keepsS hk5 (fun hs => by have := hvl b hs; have := lt_of_heap HW.out.blk; omega) (fun k hk hs => by have := hvl k hs; have := (World.ownsRow.lt HW.out.own k hk).2; omega)).mono (by have := KA.out.size; have := HF.out.keep.size; simp at *; omega))
      have HO5 := Lib.hid (ownsRow_mono hown2 (by have := KB.out.size; have := HF.out.keep.size; omega : w.heap.size ≤ w3.heap.size))
      have HP2 := Lib.hid (hp2.trans HP.out); have HS2 := Lib.hid hs2
      have HF5 := Lib.hid (HF.out.keeps0 KD.out)
      obtain ⟨e0, e1, z0, z1, hF⟩ := HF5.out.cells
      clear hp2 hs2 hown2 hk5 hvl
      go_wp2_with fail
      refine bodyPost_ret (results_tmp2_cell _ _ (w.heap.size + 1) 29 #[.int .i64 0, .int .i64 0] (0, 0) _ rfl rfl (HF5.out.set (.int .i64 0) (.int .i64 0)).1 Try.underlying29 rfl (by kernel_rfl)) rfl ?_
      have kS := keeps_pair (w := w5) (w.heap.size + 1) (.int .i64 0) (.int .i64 0)
      refine ⟨(HF5.out.set _ _).2, .inr (.inr ⟨OK.out, l, HR.out, b, v, _, ws, rfl, ?_, HP2.out, (HS2.out.imp (fun h => by first | exact h | omega)), ?_⟩)⟩
      · refine HW5.out.keepsS kS (fun e => ?_) (fun k hk e => ?_)
        · have h1 := HW5.out.blk; rw [e, HF5.out.blk] at h1; simp at h1
        · subst e
          have h1 := HF5.out.blk
          rcases HW5.out.own.2 with ⟨e, _⟩ | ⟨gq, cq, curq, e, _, hgq, _⟩
          · rw [e] at hk; simp [Value.ownBlock] at hk
          · rw [e] at hk; simp [Value.ownBlock] at hk; subst hk; rw [hgq] at h1; simp at h1
      · refine kS.ownsRow HO5.out (fun k hk e => ?_)
        subst e
        have h1 := HF5.out.blk
        rcases HO5.out.2 with ⟨e, _⟩ | ⟨gq, cq, curq, e, _, hgq, _⟩
        · rw [e] at hk; simp [Value.ownBlock] at hk
        · rw [e] at hk; simp [Value.ownBlock] at hk; subst hk; rw [hgq] at h1; simp at h1
  · have hc2 : ((taskFault t).1 == 0) = false := by simpa using hc
    have HC := Lib.hid hc
    obtain ⟨e0, e1, z0, z1, hF⟩ := (HF.out.keeps0 K2.out).cells
    have HFA := Lib.hid (HF.out.keeps0 KA.out)
    clear hc
    generalize hfe : taskFault t = f at hc2 HC HFA KA ⊢
    have HFE := Lib.hid hfe
    clear hfe
    go_wp2_with fail
    have HF2 := Lib.hid (HF.out.keeps0 K2.out)
    go_region
    all_goals
      go_wp2
      refine bodyPost_ret (results_tmp2_cell _ _ (w.heap.size + 1) 29 #[.int .i64 f.1, .int .i64 f.2] (0, 0) _ rfl rfl ((((Keeps.refl (fun _ => False) _).alloc _).drew).heap (HF2.out.set (.int .i64 f.1) (.int .i64 f.2)).1 (fun h => h)) Try.underlying29 rfl (by kernel_rfl)) rfl ?_
      refine ⟨((HF2.out.set (.int .i64 f.1) (.int .i64 f.2)).2.alloc _).drew, .inl ?_⟩
      rw [HFE.out]
      exact ⟨HC.out, rfl⟩

end Go.Proofs.Ytcfcmmajlkkabaa
