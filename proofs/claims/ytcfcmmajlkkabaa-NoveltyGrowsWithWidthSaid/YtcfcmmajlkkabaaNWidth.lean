/- novelty.Width. -/
import Derived.Test.YtcfcmmajlkkabaaNPlan
import Derived.Test.YtcfcmmajlkkabaaSmall
namespace Go.Proofs.Ytcfcmmajlkkabaa
open Go.RowKit

def widthHit (t : Tsk) (k : Nat) : Prop := ∃ p m, NovRes (accW (wd t.goal)) (covW k) (wordsOf t.ops) (wd t.init) (some p) m
def widthMiss (t : Tsk) (k : Nat) : Prop := ∃ m, NovRes (accW (wd t.goal)) (covW k) (wordsOf t.ops) (wd t.init) none m

def WidthPost (t : Tsk) (w : World) (e : Ending) (w' : World) : Prop := Keeps (fun _ => False) w w' ∧ ∃ n ok c i, e = .returned (.tuple #[.int .i64 n, .bool ok, fltV c i]) ∧
  ((expF t = (c, i) ∧ c ≠ 0 ∧ n = 0 ∧ ok = false) ∨
   (expF t = (0, 0) ∧ c = 0 ∧ i = 0 ∧ t.Ok ∧ ∃ l, explored t = some l ∧
    ((∃ k : Nat, k ≤ 4 ∧ n = (k : Int) ∧ ok = true ∧ widthHit t k ∧ ∀ j, j < k → widthMiss t j) ∨ (n = 0 ∧ ok = false ∧ ∀ j, j ≤ 4 → widthMiss t j))))

set_option maxRecDepth 100000 in
set_option maxHeartbeats 2000000 in
theorem width_any (w : World) (vi vg vo : Value) (t : Tsk) (h : TaskAt w vi vg vo t) :
    Calls Try.prog 38 #[.agg #[.int .i64 t.n, vi, vg, vo]] w (WidthPost t w) := by
  obtain ⟨ai, ci, h1, _⟩ := h.init.form
  obtain ⟨ag, cg, h2, _⟩ := h.goal.form
  obtain ⟨ao, co, h3, hmo⟩ := h.ops.form
  subst h1 h2 h3
  have K1 := (Keeps.refl (fun _ => False) w).alloc (.cells #[.int .i64 t.n, .slice ai t.init.length ci, .slice ag t.goal.length cg, .slice ao t.ops.length co] 25)
  have HT := h.keeps0 (K1.alloc (.cells #[.int .i64 0, .int .i64 0] 29))
  have HB := (Four.new w (.int .i64 t.n) (.slice ai t.init.length ci) (.slice ag t.goal.length cg) (.slice ao t.ops.length co) 25).keeps0 ((Keeps.refl _ _).alloc (.cells #[.int .i64 0, .int .i64 0] 29))
  have HF : Flt w ((w.alloc (.cells #[.int .i64 t.n, .slice ai t.init.length ci, .slice ag t.goal.length cg, .slice ao t.ops.length co] 25)).alloc (.cells #[.int .i64 0, .int .i64 0] 29)) (w.heap.size + 1) 29 :=
    ⟨by have := heap_alloc_new (w.alloc (.cells #[.int .i64 t.n, .slice ai t.init.length ci, .slice ag t.goal.length cg, .slice ao t.ops.length co] 25)) (.cells #[.int .i64 0, .int .i64 0] 29); rwa [World.size_alloc] at this, by omega, K1.alloc _⟩
  replace HT := Lib.hid HT; replace HB := Lib.hid HB; replace HF := Lib.hid HF
  clear h K1
  go_enter Try.func38, Try.ntmps38
  go_upto_region 1 with fail
  generalize ((w.alloc (.cells #[.int .i64 t.n, .slice ai t.init.length ci, .slice ag t.goal.length cg, .slice ao t.ops.length co] 25)).alloc (.cells #[.int .i64 0, .int .i64 0] 29)) = w1 at HT HB HF ⊢
  have hbx := HB.out.lt
  obtain ⟨d0, d1, d2, d3⟩ := HB.out
  go_wp2_with fail
  refine (checked_any _ _ _ _ t HT.out).mono ?_; rintro e w2 ⟨hk, hr⟩
  have K2 := Lib.hid hk
  have HF2 := Lib.hid (HF.out.keeps0 hk)
  clear d0 d1 d2 d3 hk
  have hb0 := HF2.out.keep.size
  rcases hr with ⟨hc, rfl⟩ | ⟨hok, hx, rfl⟩ | ⟨hok, l, hx, b, v, vl, ws, rfl, hw, _, _, _⟩
  · have hc2 : ((taskFault t).1 == 0) = false := by simpa using hc
    have HC := Lib.hid (show expF t = ((taskFault t).1, (taskFault t).2) ∧ (taskFault t).1 ≠ 0 from ⟨by unfold expF; rw [if_neg hc], hc⟩)
    clear hc
    generalize hfe : taskFault t = f at hc2 HC ⊢
    clear hfe
    have HF3 := Lib.hid (HF2.out.keeps0 ((Keeps.refl _ _).alloc (.cells #[.int .i64 f.1, .int .i64 f.2] 29)))
    obtain ⟨e0, e1, z0, z1, hF⟩ := HF3.out.cells
    go_wp2_with fail
    go_region
    all_goals
      go_wp2
      refine bodyPost_ret (results_tmp2_cell _ _ (w.heap.size + 1) 29 #[.int .i64 f.1, .int .i64 f.2] (0, 0) _ rfl rfl (((Keeps.refl (fun _ => False) _).drew).heap (HF3.out.set (.int .i64 f.1) (.int .i64 f.2)).1 (fun h => h)) Try.underlying29 rfl (by kernel_rfl)) rfl ?_
      exact ⟨((HF3.out.set (.int .i64 f.1) (.int .i64 f.2)).2).drew, 0, false, f.1, f.2, rfl, .inl ⟨HC.out.1, HC.out.2, rfl, rfl⟩⟩
  · have HC := Lib.hid (show expF t = (10, -7) by unfold expF; rw [if_pos (taskFault_zero.2 hok), hx])
    clear hx hok
    have HF3 := Lib.hid (HF2.out.keeps0 ((Keeps.refl _ _).alloc (.cells #[.int .i64 10, .int .i64 (-7)] 29)))
    obtain ⟨e0, e1, z0, z1, hF⟩ := HF3.out.cells
    go_wp2_with fail
    go_region
    all_goals
      go_wp2
      refine bodyPost_ret (results_tmp2_cell _ _ (w.heap.size + 1) 29 #[.int .i64 10, .int .i64 (-7)] (0, 0) _ rfl rfl (((Keeps.refl (fun _ => False) _).drew).heap (HF3.out.set (.int .i64 10) (.int .i64 (-7))).1 (fun h => h)) Try.underlying29 rfl (by kernel_rfl)) rfl ?_
      exact ⟨((HF3.out.set (.int .i64 10) (.int .i64 (-7))).2).drew, 0, false, 10, -7, rfl, .inl ⟨HC.out, by decide, rfl, rfl⟩⟩
  · have HX := Lib.hid hx; have OK := Lib.hid hok
    have HC := Lib.hid (show expF t = (0, 0) by unfold expF; rw [if_pos (taskFault_zero.2 hok), hx])
    have KA := (Keeps.refl (fun _ => False) w2).alloc (.cells #[.int .i64 0, .int .i64 0] 29)
    have HW := Lib.hid (hw.keeps0 KA)
    have HF3 := Lib.hid (HF2.out.keeps0 KA)
    clear hx hok hw KA
    have hs32 : wd t.init < 4294967296 := wd_lt32 (by have := OK.out.n1; omega : t.n ≤ 32) OK.out.init
    go_wp2_with fail
    generalize w2.alloc (.cells #[.int .i64 0, .int .i64 0] 29) = w3 at HW HF3 ⊢
    go_loopw [22] (fun v22 wr => ∃ k : Nat, k ≤ 5 ∧ v22 = .int .i64 (k : Int) ∧ Keeps (fun _ => False) w3 wr ∧ ∀ j, j < k → widthMiss t j) (fun v22 _ => 5 - (intOf v22).toNat)
    case atStart => exact ⟨0, by omega, rfl, Keeps.refl _ _, fun j hj => absurd hj (Nat.not_lt_zero _)⟩
    case round =>
      obtain ⟨k, hk, rfl, hkr, hmiss⟩ := hrel
      have HKR := Lib.hid hkr; have HMS := Lib.hid hmiss
      have HFr := Lib.hid (HF3.out.keeps0 hkr)
      clear hkr hmiss
      by_cases hlt : k < 5
      · go_wp2_with fail
        refine (search_any wr b (wd t.init) (wd t.goal) _ v (wordsOf t.ops) (HW.out.keeps0 HKR.out) (wops_ok OK.out) (by unfold wordsOf; rw [List.length_map]; exact OK.out.few) hs32 l HX.out k (by omega)).mono ?_
        rintro e w6 ⟨hk6, hr⟩
        have HF6 := Lib.hid (HFr.out.keeps0 hk6)
        have HK6 := Lib.hid (HKR.out.trans hk6)
        clear hk6
        rcases hr with ⟨m, hn, rfl⟩ | ⟨p, m, hn, v', rfl, _, _⟩
        · have HM2 := Lib.hid (show ∀ j, j < k + 1 → widthMiss t j by
            intro j hj
            by_cases e : j = k
            · subst e; exact ⟨m, hn⟩
            · exact HMS.out j (by omega))
          clear hn
          go_wp2_with fail
          go_roundw
          case rel => exact ⟨k + 1, by omega, by go_num, HK6.out, HM2.out⟩
          case measure => simp only [intOf]; omega
        · have HHIT := Lib.hid (show widthHit t k from ⟨p, m, hn⟩)
          clear hn
          obtain ⟨e0, e1, z0, z1, hF⟩ := HF6.out.cells
          go_wp2_with fail
          refine bodyPost_ret (results_tmp2_cell _ _ (w.heap.size + 1) 29 #[.int .i64 0, .int .i64 0] (0, 0) _ rfl rfl (HF6.out.set (.int .i64 0) (.int .i64 0)).1 Try.underlying29 rfl (by kernel_rfl)) rfl ?_
          exact ⟨(HF6.out.set _ _).2, (k : Int), true, 0, 0, rfl, .inr ⟨HC.out, rfl, rfl, OK.out, l, HX.out, .inl ⟨k, by omega, rfl, rfl, HHIT.out, HMS.out⟩⟩⟩
      · obtain ⟨e0, e1, z0, z1, hF⟩ := HFr.out.cells
        go_wp2_with fail
        refine bodyPost_ret (results_tmp2_cell _ _ (w.heap.size + 1) 29 #[.int .i64 0, .int .i64 0] (0, 0) _ rfl rfl (HFr.out.set (.int .i64 0) (.int .i64 0)).1 Try.underlying29 rfl (by kernel_rfl)) rfl ?_
        exact ⟨(HFr.out.set _ _).2, 0, false, 0, 0, rfl, .inr ⟨HC.out, rfl, rfl, OK.out, l, HX.out, .inr ⟨rfl, rfl, fun j hj => HMS.out j (by omega)⟩⟩⟩

end Go.Proofs.Ytcfcmmajlkkabaa
