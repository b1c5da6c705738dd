/- astar.Plan, for a kind whose heuristic is admissible. BothendsAgreesWithAstar walked. SymbolicAgreesWithAstar walked. No condition beyond what each theorem says. -/
import Derived.Test.YtjcgkmodmjckjaaGreatQ9
import Derived.Test.YtjcgkmodmjckjaaGreatQ11
import Derived.Test.YtjcgkmodmjckjaaGreatQ10

namespace Go.Proofs.YtjcgkmodmjckjaaGreat
open Go.RowKit Go.Shelf

theorem ret_three {a b c a' b' c' : Value} (h : Ending.returned (.tuple #[a, b, c]) = .returned (.tuple #[a', b', c'])) : a = a' ∧ b = b' ∧ c = c' := by simpa using h
theorem agg_two {a b a' b' : Int} (h : Value.agg #[.int .i64 a, .int .i64 b] = .agg #[.int .i64 a', .int .i64 b']) : a = a' ∧ b = b' := by simpa using h

theorem CheckedPost.past1 {t : Tsk} {w w1 w2 : World} {e : Ending} {b : Nat} {x y : Value} (h : CheckedPost t w1 e w2) (hz : w.heap.size ≤ b) (hb : b < w1.heap.size) (k : Keeps (fun _ => False) w w1) : CheckedPost t w e ((w2.setCell ⟨b, 0, none⟩ x).setCell ⟨b, 1, none⟩ y) :=
  h.past k.size (keeps_pair (w := w2) b x y) (fun k hk => by rw [hk]; exact hb) ((k.trans h.1).trans' (keeps_pair (w := w2) b x y) (fun k hk => .inr (by omega)))
theorem CheckedPost.past2 {t : Tsk} {w w1 w2 : World} {e : Ending} {o : Obj} (h : CheckedPost t w1 e w2) (k : Keeps (fun _ => False) w w1) : CheckedPost t w e (w2.alloc o) :=
  h.past k.size ((Keeps.refl (fun _ => False) w2).alloc o) (fun _ h => h.elim) ((k.trans h.1).alloc o)

/-- What a kind of heuristic says, where it is admissible. -/
def SaysH (t : Tsk) (kind : Int) (H : Nat → Int) : Prop := ∀ l, t.Ok → explored t = some l → ValC t kind l H ∧ Adm (wordsOf t.ops) l (goalB (wd t.goal)) H
/-- What is known of the number n of expanded states when a plan lp is found. -/
def AExp (t : Tsk) (H : Nat → Int) (fnd : Bool) (lp : List Int) (n : Int) : Prop := fnd = true → ∃ (l ws : List Nat) (D : Nat → Bool) (q : List Nat), explored t = some l ∧ ws.Perm l ∧ n = ((ws.filter D).length : Int) ∧ lp = intsP q ∧ ExpOk (wordsOf t.ops) ws (wd t.init) H (wayN 4096 1 (wordsOf t.ops) q) D
def APost (t : Tsk) (H : Nat → Int) (w : World) (e : Ending) (w' : World) : Prop := Keeps (fun _ => False) w w' ∧ ∃ fnd vp lp c n fc fi, e = .returned (.tuple #[resV fnd vp c n, fltV fc fi]) ∧ Ints w' vp lp ∧ BPlanIs t fnd lp c n fc fi ∧ AExp t H fnd lp n
theorem ValC.perm {t : Tsk} {kind : Int} {l ws : List Nat} {H : Nat → Int} (h : ValC t kind l H) (hp : ws.Perm l) : ValC t kind ws H := fun W vi vg vo vs x ht hx hi => h W vi vg vo vs x ht (hp.mem_iff.1 hx) hi
theorem Adm.perm {ops : List Wop} {l ws : List Nat} {acc : Nat → Bool} {H : Nat → Int} (h : Adm ops l acc H) (hp : ws.Perm l) : Adm ops ws acc H := ⟨fun x hx => h.lo x (hp.mem_iff.1 hx), fun x hx => h.low x (hp.mem_iff.1 hx)⟩

theorem aresult_long (w : World) (vi vg vo vp : Value) (t : Tsk) (p : List Int) (found : Bool) (n : Int) (h : TaskAt w vi vg vo t) (ok : t.Ok) (hp : Ints w vp p) (hin : PlanIn t p) (hl : 60 < p.length) :
    Calls Tryz.prog 41 #[.agg #[.int .i64 t.n, vi, vg, vo], vp, .bool found, .int .i64 n] w fun e w' => e = .returned (.tuple #[.agg #[.bool false, .slice none 0 0, .int .i64 0, .int .i64 0], .agg #[.int .i64 10, .int .i64 (-9)]]) ∧ Keeps (fun _ => False) w w' :=
  (result_any w vi vg vo vp t p found n h ok hp hin).mono fun e w' hr => by
    rcases hr.2 with ⟨_, he⟩ | ⟨h2, _⟩
    · exact ⟨he, hr.1⟩
    · omega
theorem aresult_fit (w : World) (vi vg vo vp : Value) (t : Tsk) (p : List Int) (found : Bool) (n : Int) (h : TaskAt w vi vg vo t) (ok : t.Ok) (hp : Ints w vp p) (hin : PlanIn t p) (hl : p.length ≤ 60) :
    Calls Tryz.prog 41 #[.agg #[.int .i64 t.n, vi, vg, vo], vp, .bool found, .int .i64 n] w fun e w' => e = .returned (.tuple #[.agg #[.bool found, vp, .int .i64 (costL t p), .int .i64 n], .agg #[.int .i64 0, .int .i64 0]]) ∧ Keeps (fun _ => False) w w' :=
  (result_any w vi vg vo vp t p found n h ok hp hin).mono fun e w' hr => by
    rcases hr.2 with ⟨h2, _⟩ | ⟨_, he⟩
    · omega
    · exact ⟨he, hr.1⟩

set_option maxRecDepth 100000 in
set_option maxHeartbeats 4000000 in
theorem aplanH_any (w : World) (vi vg vo : Value) (t : Tsk) (kind : Int) (H : Nat → Int) (hA : ∀ W : World, Calls Tryz.prog 49 #[.int .i64 kind] W fun e w' => e = .returned (.bool true) ∧ W = w') (hS : SaysH t kind H) (h : TaskAt w vi vg vo t) :
    Calls Tryz.prog 19 #[.agg #[.int .i64 t.n, vi, vg, vo], .int .i64 kind] w (APost t H w) := by
  obtain ⟨ai, ci, h1, _⟩ := h.init.form
  obtain ⟨ag, cg, h2, _⟩ := h.goal.form
  obtain ⟨ao, co, h3, hmo⟩ := h.ops.form
  have K1 := (Keeps.refl (fun _ => False) w).alloc (.cells #[.int .i64 t.n, vi, vg, vo] 25)
  have KA := (Keeps.refl (fun _ => False) (w.alloc (.cells #[.int .i64 t.n, vi, vg, vo] 25))).alloc (.cells #[.bool false, .slice none 0 0, .int .i64 0, .int .i64 0] 41)
  have KB := (Keeps.refl (fun _ => False) ((w.alloc (.cells #[.int .i64 t.n, vi, vg, vo] 25)).alloc (.cells #[.bool false, .slice none 0 0, .int .i64 0, .int .i64 0] 41))).alloc (.cells #[.int .i64 0, .int .i64 0] 29)
  have HB := Lib.hid ((Four.new w (.int .i64 t.n) vi vg vo 25).keeps0 (KA.trans KB))
  have hr := KB.heap (heap_alloc_new (w.alloc (.cells #[.int .i64 t.n, vi, vg, vo] 25)) (.cells #[.bool false, .slice none 0 0, .int .i64 0, .int .i64 0] 41)) (fun h => h)
  have hf : Flt w _ _ 29 := ⟨heap_alloc_new ((w.alloc (.cells #[.int .i64 t.n, vi, vg, vo] 25)).alloc (.cells #[.bool false, .slice none 0 0, .int .i64 0, .int .i64 0] 41)) (.cells #[.int .i64 0, .int .i64 0] 29), by simp; omega, K1.trans (KA.trans KB)⟩
  have HT := Lib.hid (h.keeps0 (K1.trans (KA.trans KB)))
  rw [World.size_alloc] at hr hf
  rw [World.size_alloc] at hf
  have HR := Lib.hid (show RFl w _ (w.heap.size + 1) (w.heap.size + 1 + 1) from ⟨hr, hf, by omega, by omega⟩)
  have HAD := Lib.hid hA; have HSY := Lib.hid hS
  subst h1 h2 h3
  clear h K1 KA KB hr hf hA hS
  go_enter Tryz.func19, Tryz.ntmps19
  go_upto_region 1 with fail
  generalize ((w.alloc (.cells #[.int .i64 t.n, .slice ai t.init.length ci, .slice ag t.goal.length cg, .slice ao t.ops.length co] 25)).alloc (.cells #[.bool false, .slice none 0 0, .int .i64 0, .int .i64 0] 41)).alloc (.cells #[.int .i64 0, .int .i64 0] 29) = w1 at HB HR HT ⊢
  have KD : Keeps (fun _ => False) w1 w1.drew := (Keeps.refl (fun _ => False) w1).drew
  have KA : Keeps (fun _ => False) w1.drew (w1.alloc (.cells #[.int .i64 0, .int .i64 0] 29)).drew := by
    have h := (Keeps.refl (fun _ => False) w1.drew).alloc (.cells #[.int .i64 0, .int .i64 0] 29)
    exact h
  have HTD := Lib.hid (HT.out.keeps0 KD); have HKD := Lib.hid KD; have HKA := Lib.hid KA
  have HZ8 := Lib.hid (show (w1.alloc (.cells #[.int .i64 0, .int .i64 0] 29)).drew.heap[w1.heap.size]? = some (.cells #[.int .i64 0, .int .i64 0] 29 (0, 0)) from heap_alloc_new w1 _)
  have HB1 := HB.out.keeps0 KD
  have hbx := HB1.lt
  have HBX := Lib.hid (show w.heap.size < w1.heap.size from HB.out.lt)
  obtain ⟨d0, d1, d2, d3⟩ := HB1
  obtain ⟨d0', d1', d2', d3'⟩ := (HB.out.keeps0 KD).keeps0 KA
  clear KD KA
  go_region_held3 (fun w' => w'.cell? ⟨w.heap.size, 0, none⟩ = some (.int .i64 t.n) ∧ w'.cell? ⟨w.heap.size, 1, none⟩ = some (.slice ai t.init.length ci) ∧ w'.cell? ⟨w.heap.size, 2, none⟩ = some (.slice ag t.goal.length cg) ∧ w'.cell? ⟨w.heap.size, 3, none⟩ = some (.slice ao t.ops.length co))
    (first | go_keep | with_reducible exact ⟨(keeps_pair (w := w9) w1.heap.size (.int .i64 fc) (.int .i64 fi)).cell t0 (show ¬ w.heap.size = w1.heap.size by have := HBX.out; omega), (keeps_pair (w := w9) w1.heap.size (.int .i64 fc) (.int .i64 fi)).cell t1 (show ¬ w.heap.size = w1.heap.size by have := HBX.out; omega), (keeps_pair (w := w9) w1.heap.size (.int .i64 fc) (.int .i64 fi)).cell t2 (show ¬ w.heap.size = w1.heap.size by have := HBX.out; omega), (keeps_pair (w := w9) w1.heap.size (.int .i64 fc) (.int .i64 fi)).cell t3 (show ¬ w.heap.size = w1.heap.size by have := HBX.out; omega)⟩)
    (first
      | (go_at_call 49; refine (HAD.out _).mono ?_; rintro e wq ⟨rfl, rfl⟩)
      | (go_at_call 48; refine (acheck_any _ _ _ _ t HTD.out).mono ?_; rintro e w9 hr; obtain ⟨pv, lv, fc, fi, rfl⟩ := hr.form; have HCP := Lib.hid hr; have hk := hr.1; have t0 := hk.cell d0 (fun h => h); have t1 := hk.cell d1 (fun h => h); have t2 := hk.cell d2 (fun h => h); have t3 := hk.cell d3 (fun h => h); clear hk hr)
      | (go_at_call 48; refine (acheck_any _ _ _ _ t (HTD.out.keeps0 HKA.out)).mono ?_; rintro e w9 hr; obtain ⟨pv, lv, fc, fi, rfl⟩ := hr.form; have HCP := Lib.hid hr; have hk := hr.1; have HZ9 := Lib.hid (hk.heap HZ8.out (fun h => h)); obtain ⟨q0, q1, y0, y1, hl6⟩ := pair_cells HZ9.out; have t0 := hk.cell d0' (fun h => h); have t1 := hk.cell d1' (fun h => h); have t2 := hk.cell d2' (fun h => h); have t3 := hk.cell d3' (fun h => h); clear hk hr))
  all_goals
    first
      | (have HC := Lib.hid (HCP.out.past1 (w := w1) (b := w1.heap.size) (x := .int .i64 fc) (y := .int .i64 fi) (Nat.le_refl _) (lt_of_heap HZ8.out) (HKD.out.trans HKA.out))
         have HFZ := Lib.hid (pair_set HZ9.out (.int .i64 fc) (.int .i64 fi))
         clear t0 t1 t2 t3 q0 q1 y0 y1 HZ9 hl6 HCP
         generalize (w9.setCell ⟨w1.heap.size, 0, none⟩ (.int .i64 fc)).setCell ⟨w1.heap.size, 1, none⟩ (.int .i64 fi) = wz at HFZ HC ⊢
         generalize w1.heap.size = b8 at HFZ ⊢)
      | (have HC := Lib.hid (HCP.out.past2 (w := w1) (o := .cells #[.int .i64 fc, .int .i64 fi] 29) HKD.out)
         have HFZ := Lib.hid (heap_alloc_new w9 (.cells #[.int .i64 fc, .int .i64 fi] 29))
         clear t0 t1 t2 t3 HCP
         generalize w9.alloc (.cells #[.int .i64 fc, .int .i64 fi] 29) = wz at HFZ HC ⊢
         generalize w9.heap.size = b8 at HFZ ⊢)
  all_goals
    have HB4 := Lib.hid (HB.out.keeps0 HC.out.1); have HT4 := Lib.hid (HT.out.keeps0 HC.out.1); have HR4 := Lib.hid (HR.out.keeps0 HC.out.1)
    have HWB := Lib.hid (show w.heap.size + 1 + 1 < w1.heap.size from lt_of_heap HR.out.flt.blk)
    obtain ⟨f0, f1, y0, y1, hlf⟩ := pair_cells HFZ.out
    clear y0 y1 hlf d0 d1 d2 d3 d0' d1' d2' d3' hbx HB HT HR HZ8 HTD HKD HKA
    rcases HC.out.2 with ⟨hc, he⟩ | ⟨hok, hx, he⟩ | ⟨hok, l, hx, b, v, vl, ws, he, hw, hperm, _, _⟩
    · obtain ⟨rfl, rfl, he2⟩ := ret_three he
      obtain ⟨rfl, rfl⟩ := agg_two he2; clear he2
      have NF := Lib.hid (expF_bad hc)
      have HCC := Lib.hid hc
      have hc2 : ((taskFault t).1 == 0) = false := by simpa using hc
      clear hc he
      generalize hfe : taskFault t = f at hc2 NF HCC f0 f1 ⊢
      clear hfe HC
      have HFIN := Lib.hid (HR4.out.fin (.int .i64 f.1) (.int .i64 f.2))
      obtain ⟨r0, r1, r2, r3, y0, y1, y2, y3, hlR⟩ := HR4.out.cells
      obtain ⟨e0, e1, z0, z1, hF⟩ := HR4.out.flt.cells
      obtain ⟨s0, s1, s2, s3⟩ := HR4.out.ids
      go_wp2_with fail
      go_region
      all_goals
        go_wp2
        refine bodyPost_ret (results_cell_cell _ _ (w.heap.size + 1 + 1) 29 #[.int .i64 f.1, .int .i64 f.2] (0, 0) _ rfl rfl HFIN.out.2.1 Tryz.underlying29 rfl (by kernel_rfl) rfl HFIN.out.1 Tryz.underlying41 rfl (by kernel_rfl)) rfl ?_
        exact ⟨HFIN.out.2.2, false, _, [], 0, 0, f.1, f.2, rfl, Ints.nil _, .inl ⟨HCC.out, NF.out, rfl, rfl, rfl, rfl⟩, (fun h => by cases h)⟩
    · obtain ⟨rfl, rfl, he2⟩ := ret_three he
      obtain ⟨rfl, rfl⟩ := agg_two he2; clear he2
      have NF := Lib.hid (expF_many hok hx)
      clear hok hx he HC
      have HFIN := Lib.hid (HR4.out.fin (.int .i64 10) (.int .i64 (-7)))
      obtain ⟨r0, r1, r2, r3, y0, y1, y2, y3, hlR⟩ := HR4.out.cells
      obtain ⟨e0, e1, z0, z1, hF⟩ := HR4.out.flt.cells
      obtain ⟨s0, s1, s2, s3⟩ := HR4.out.ids
      go_wp2_with fail
      go_region
      all_goals
        go_wp2
        refine bodyPost_ret (results_cell_cell _ _ (w.heap.size + 1 + 1) 29 #[.int .i64 10, .int .i64 (-7)] (0, 0) _ rfl rfl HFIN.out.2.1 Tryz.underlying29 rfl (by kernel_rfl) rfl HFIN.out.1 Tryz.underlying41 rfl (by kernel_rfl)) rfl ?_
        exact ⟨HFIN.out.2.2, false, _, [], 0, 0, 10, (-7), rfl, Ints.nil _, .inl ⟨by decide, NF.out, rfl, rfl, rfl, rfl⟩, (fun h => by cases h)⟩
    · obtain ⟨rfl, rfl, he2⟩ := ret_three he
      obtain ⟨rfl, rfl⟩ := agg_two he2; clear he2
      have HX := Lib.hid hx; have OK := Lib.hid hok; have HPM := Lib.hid hperm; have HW := Lib.hid hw
      have HND := Lib.hid (costs_need OK.out HX.out HPM.out)
      obtain ⟨hval, hadm⟩ := HSY.out l hok hx
      have HVL := Lib.hid (hval.perm hperm); have HAM := Lib.hid (hadm.perm hperm)
      clear hok hx hperm hw hval hadm he HFZ HC
      obtain ⟨d0, d1, d2, d3⟩ := HB4.out
      have hbx := HB4.out.lt
      go_wp2_with fail
      refine (heuristic_any wz _ _ _ t kind H HT4.out).mono ?_
      rintro e w6 ⟨kb, tb, qb, mb, rfl, hhm, h1, h2, h3, h4, h5, hk6⟩
      have HM6 := Lib.hid hhm
      have HK6 := Lib.hid hk6
      have HEU := Lib.hid (heur_is t kind ws H HVL.out wz kb tb qb mb wz.heap.size w6.heap.size _ _ _ HT4.out h1 h1 h2 h3 h4 h5)
      have HB6 := Lib.hid (HB4.out.keeps0 hk6); have HT6 := Lib.hid (HT4.out.keeps0 hk6); have HR6 := Lib.hid (HR4.out.keeps0 hk6)
      have HMB := Lib.hid h1
      clear d0 d1 d2 d3 hbx f0 f1 hhm h1 h2 h3 h4 h5 hk6
      go_wp2_with fail
      refine (abest_any wz w6 b (wd t.init) (wd t.goal) _ v _ ws H _ _ _ _ _ HW.out HK6.out (wops_ok OK.out) HND.out.2.2.1 HND.out.2.1 HND.out.2.2.2.1 HND.out.2.2.2.2.1 HND.out.2.2.2.2.2.1 (ops_cost0 OK.out) HND.out.2.2.2.2.2.2.2 HEU.out HM6.out HAM.out).mono ?_
      rintro e w7 ⟨hk7, n, hn, hres⟩
      have K7 : Keeps (fun _ => False) wz w7 := HK6.out.trans' hk7 (fun k hk => .inr (by rw [hk]; exact HMB.out))
      have HB7 := HB4.out.keeps0 K7; have HT7 := Lib.hid (HT4.out.keeps0 K7); have HR7 := Lib.hid (HR4.out.keeps0 K7)
      have HN := Lib.hid (show 0 ≤ (n : Int) ∧ (n : Int) ≤ (l.length : Int) from ⟨by omega, by have := HPM.out.length_eq; omega⟩)
      have HL2 := HND.out.2.2.2.2.1
      have HSZ := HK6.out.size
      have HSW := lt_of_heap HR4.out.flt.blk
      obtain ⟨d0, d1, d2, d3⟩ := HB7
      have hbx := lt_of_heap HR7.out.res
      have hbx2 : w.heap.size < w7.heap.size := by omega
      clear hk7 K7 HB4 HB6 HT6 HR6 HT4 HR4 HM6 HEU hn
      rcases hres with ⟨hbt, rfl⟩ | ⟨q, y, p, v2, rfl, hrow, hql, hrun, hacc, hway, hp0, hbt, D, hD, hexp⟩
      · have HBT := Lib.hid hbt
        clear hbt
        go_wp2_with fail
        refine (result_any w7 _ _ _ _ t [] false (n : Int) HT7.out OK.out (Ints.nil _) (fun z hz => by simp at hz)).mono ?_
        rintro e w8 ⟨hk8, hr8⟩
        rcases hr8 with ⟨h60, rfl⟩ | ⟨h60, rfl⟩
        · simp at h60
        have HR8 := Lib.hid (HR7.out.keeps0 hk8)
        obtain ⟨r0, r1, r2, r3, y0, y1, y2, y3, hlR⟩ := HR8.out.cells
        obtain ⟨e0, e1, z0, z1, hF⟩ := HR8.out.flt.cells
        have HFIN := Lib.hid (HR8.out.set (.bool false) (.slice none 0 0) (.int .i64 (costL t [])) (.int .i64 (n : Int)) (.int .i64 0) (.int .i64 0))
        simp only [resV, fltV]
        clear d0 d1 d2 d3 hbx hk8 h60
        go_wp2_with fail
        refine bodyPost_ret (results_cell_cell _ _ (w.heap.size + 1 + 1) 29 #[.int .i64 0, .int .i64 0] (0, 0) _ rfl rfl HFIN.out.2.1 Tryz.underlying29 rfl (by kernel_rfl) rfl HFIN.out.1 Tryz.underlying41 rfl (by kernel_rfl)) rfl ?_
        exact ⟨HFIN.out.2.2.1, false, _, [], 0, (n : Int), 0, 0, rfl, Ints.nil _, bplan_none OK.out HX.out HBT.out HN.out, (fun h => by cases h)⟩
      · have HEX := Lib.hid (show AExp t H true (intsP q) (n : Int) from fun _ => ⟨l, ws, D, q, HX.out, HPM.out, by rw [hD], rfl, by rw [hway]; exact hexp⟩)
        clear hD hexp
        rw [show q.length = (intsP q).length from by unfold intsP; rw [List.length_map]] at hrow
        have hi := Ints.of_own hrow
        have HLO := Lib.hid (show ∀ k, v2.ownBlock = some k → w6.heap.size ≤ k from fun k hk => (hrow.lt k hk).1)
        obtain ⟨a3, c3, hv3, _⟩ := hi.form
        subst hv3
        have HI := Lib.hid hi; have HBT := Lib.hid hbt; have HRUN := Lib.hid hrun
        have hsp := wayN_split (wordsOf t.ops) q
        have HPIN := Lib.hid (planIn_run hrun)
        have HLC := Lib.hid (show (q.length : Int) = p % 4096 ∧ costN (wordsOf t.ops) q = p / 4096 by omega)
        clear hrow hi hbt hrun
        by_cases h60 : (intsP q).length ≤ 60
        · have H60 := Lib.hid (show q.length ≤ 60 by unfold intsP at h60; rwa [List.length_map] at h60)
          go_wp2_with fail
          refine (aresult_fit w7 _ _ _ _ t (intsP q) true (n : Int) HT7.out OK.out HI.out HPIN.out h60).mono ?_
          rintro e w8 ⟨rfl, hk8⟩
          have HR8 := Lib.hid (HR7.out.keeps0 hk8); have HI8 := Lib.hid (HI.out.keeps0 hk8)
          obtain ⟨r0, r1, r2, r3, x0, x1, x2, x3, hlR⟩ := HR8.out.cells
          obtain ⟨e0, e1, z0, z1, hF⟩ := HR8.out.flt.cells
          have HFIN := Lib.hid (HR8.out.set (.bool true) (.slice a3 (intsP q).length c3) (.int .i64 (costL t (intsP q))) (.int .i64 (n : Int)) (.int .i64 0) (.int .i64 0))
          clear d0 d1 d2 d3 hbx hk8
          go_wp2_with fail
          refine bodyPost_ret (results_cell_cell _ _ (w.heap.size + 1 + 1) 29 #[.int .i64 0, .int .i64 0] (0, 0) _ rfl rfl HFIN.out.2.1 Tryz.underlying29 rfl (by kernel_rfl) rfl HFIN.out.1 Tryz.underlying41 rfl (by kernel_rfl)) rfl ?_
          refine ⟨HFIN.out.2.2.1, true, _, _, _, (n : Int), 0, 0, rfl, ?_, bplan_short OK.out HX.out HBT.out hp0 HRUN.out hacc HLC.out.1 HLC.out.2 H60.out HN.out, HEX.out⟩
          refine HI8.out.keepsS HFIN.out.2.2.2 (fun h0 j hj e' => ?_)
          have h1 := HLO.out j hj
          omega
        · have H60 := Lib.hid (show 60 < q.length by unfold intsP at h60; rw [List.length_map] at h60; omega)
          go_wp2_with fail
          refine (aresult_long w7 _ _ _ _ t (intsP q) true (n : Int) HT7.out OK.out HI.out HPIN.out (by omega)).mono ?_
          rintro e w8 ⟨rfl, hk8⟩
          have HR8 := Lib.hid (HR7.out.keeps0 hk8)
          obtain ⟨r0, r1, r2, r3, x0, x1, x2, x3, hlR⟩ := HR8.out.cells
          obtain ⟨e0, e1, z0, z1, hF⟩ := HR8.out.flt.cells
          have HFIN := Lib.hid (HR8.out.set (.bool false) (.slice none 0 0) (.int .i64 0) (.int .i64 0) (.int .i64 10) (.int .i64 (-9)))
          clear d0 d1 d2 d3 hbx hk8
          go_wp2_with fail
          refine bodyPost_ret (results_cell_cell _ _ (w.heap.size + 1 + 1) 29 #[.int .i64 10, .int .i64 (-9)] (0, 0) _ rfl rfl HFIN.out.2.1 Tryz.underlying29 rfl (by kernel_rfl) rfl HFIN.out.1 Tryz.underlying41 rfl (by kernel_rfl)) rfl ?_
          exact ⟨HFIN.out.2.2.1, false, _, [], 0, 0, 10, -9, rfl, Ints.nil _, bplan_long OK.out HX.out HBT.out hp0 HLC.out.1 H60.out, (fun h => by cases h)⟩

theorem aplan_any (w : World) (vi vg vo : Value) (t : Tsk) (kind : Int) {H : Nat → Int} (hA : ∀ W : World, Calls Tryz.prog 49 #[.int .i64 kind] W fun e w' => e = .returned (.bool true) ∧ W = w') (hS : SaysH t kind H) (h : TaskAt w vi vg vo t) :
    Calls Tryz.prog 19 #[.agg #[.int .i64 t.n, vi, vg, vo], .int .i64 kind] w (BPlanPost t w) :=
  (aplanH_any w vi vg vo t kind H hA hS h).mono fun _ _ ⟨h1, fnd, vp, lp, c, n, fc, fi, h2, h3, h4, _⟩ => ⟨h1, fnd, vp, lp, c, n, fc, fi, h2, h3, h4⟩

end Go.Proofs.YtjcgkmodmjckjaaGreat

namespace Go.Proofs.YtjcgkmodmjckjaaGreat
open Go.RowKit Go.Shelf

theorem says_zero (t : Tsk) : SaysH t 0 (fun _ => 0) := fun l ok hx => ⟨value0_any t l, ⟨fun x _ => ⟨by decide, by decide⟩, fun x _ p y _ _ => ⟨(costN_bound (ops_cost0 ok) p).1, by decide⟩⟩⟩

theorem bplan_agree {t : Tsk} {f f' : Bool} {p p' : List Int} {c c' n n' a a' b b' : Int} (h : BPlanIs t f p c n a b) (h' : BPlanIs t f' p' c' n' a' b') : a = a' ∧ b = b' ∧ f = f' ∧ c = c' ∧ p.length = p'.length := by
  rcases h with ⟨h1, h2, rfl, rfl, rfl, _⟩ | ⟨h1, ok, l, m, hx, hb, hh⟩
  · rcases h' with ⟨k1, k2, rfl, rfl, rfl, _⟩ | ⟨k1, _⟩
    · rw [h2] at k2; cases k2; exact ⟨rfl, rfl, rfl, rfl, rfl⟩
    · rw [h2] at k1; cases k1; exact absurd rfl h1
  · rcases h' with ⟨k1, k2, _⟩ | ⟨_, _, l', m', hx', hb', hh'⟩
    · rw [h1] at k2; cases k2; exact absurd rfl k1
    · have e : m = m' := hb.unique hb'
      subst e
      rcases hh with ⟨g1, rfl, rfl, rfl, rfl, rfl, _⟩ | ⟨g1, rfl, rfl, g⟩
      · rcases hh' with ⟨k1, rfl, rfl, rfl, rfl, rfl, _⟩ | ⟨k1, _⟩
        · exact ⟨rfl, rfl, rfl, rfl, rfl⟩
        · omega
      · rcases hh' with ⟨k1, _⟩ | ⟨k1, rfl, rfl, k⟩
        · omega
        · by_cases hm : m < 0
          · obtain ⟨rfl, rfl, rfl⟩ := g.none_ hm
            obtain ⟨rfl, rfl, rfl⟩ := k.none_ hm
            exact ⟨rfl, rfl, rfl, rfl, rfl⟩
          · obtain ⟨rfl, q, y, rfl, hr, _, hl, hc, rfl⟩ := g.some_ (by omega)
            obtain ⟨rfl, q', y', rfl, hr', _, hl', hc', rfl⟩ := k.some_ (by omega)
            refine ⟨rfl, rfl, rfl, ?_, ?_⟩
            · rw [costL_is, costL_is]; omega
            · unfold intsP; rw [List.length_map, List.length_map]; omega

end Go.Proofs.YtjcgkmodmjckjaaGreat

namespace Go.Proofs.YtjcgkmodmjckjaaGreat
open Go.RowKit Go.Shelf

theorem splanB_any (w : World) (vi vg vo : Value) (t : Tsk) (h : TaskAt w vi vg vo t) : Calls Tryz.prog 14 #[.agg #[.int .i64 t.n, vi, vg, vo]] w (BPlanPost t w) :=
  (splan_any w vi vg vo t h).mono fun _ _ ⟨hk, fnd, vp, lp, c, n, fc, fi, he, hi, hr⟩ => ⟨hk, fnd, vp, lp, c, n, fc, fi, he, hi, hr.1⟩

set_option maxRecDepth 100000 in
set_option maxHeartbeats 1000000 in
theorem symAstarLaw_any (w : World) (vi vg vo : Value) (t : Tsk) (h : TaskAt w vi vg vo t) :
    Calls Tryz.prog 5 #[.agg #[.int .i64 t.n, vi, vg, vo]] w fun e w' => e = .returned (.bool true) ∧ Keeps (fun _ => False) w w' := by
  obtain ⟨ai, ci, h1, _⟩ := h.init.form
  obtain ⟨ag, cg, h2, _⟩ := h.goal.form
  obtain ⟨ao, co, h3, hmo⟩ := h.ops.form
  subst h1 h2 h3
  have HB := Lib.hid (Four.new w (.int .i64 t.n) (.slice ai t.init.length ci) (.slice ag t.goal.length cg) (.slice ao t.ops.length co) 25)
  have K1 := (Keeps.refl (fun _ => False) w).alloc (.cells #[.int .i64 t.n, .slice ai t.init.length ci, .slice ag t.goal.length cg, .slice ao t.ops.length co] 25)
  have HT := Lib.hid (h.keeps0 K1); have HK := Lib.hid K1
  clear h K1
  go_enter Tryz.func5, Tryz.ntmps5
  go_upto_region 1 with fail
  generalize (w.alloc (.cells #[.int .i64 t.n, .slice ai t.init.length ci, .slice ag t.goal.length cg, .slice ao t.ops.length co] 25)) = w1 at HB HT HK ⊢
  generalize w.heap.size = bt at HB ⊢
  go_wp2_with fail
  refine (symExample_any _).mono ?_; rintro e w2 ⟨rfl, hk⟩
  have HB1 := Lib.hid (HB.out.keeps0 hk); have HT1 := Lib.hid (HT.out.keeps0 hk); have HK1 := Lib.hid (HK.out.trans hk)
  clear HB HT HK
  clear hk
  have hbxd := HB1.out.lt
  obtain ⟨d0, d1, d2, d3⟩ := HB1.out
  go_wp2_with fail
  refine (splanB_any _ _ _ _ t HT1.out).mono ?_; rintro e w4 ⟨hk, fndx, vp, lpx, cx, nx, fcx, fix, rfl, hi, hr⟩
  obtain ⟨apx, cpx, hvp, _⟩ := hi.form
  subst hvp
  have HISx := Lib.hid hr
  clear hr
  clear hbxd d0 d1 d2 d3
  simp only [resV, fltV]
  have KA := (Keeps.refl (fun _ => False) w4).alloc (.cells #[.bool fndx, .slice apx lpx.length cpx, .int .i64 cx, .int .i64 nx] 41)
  have KB := (Keeps.refl (fun _ => False) (w4.alloc (.cells #[.bool fndx, .slice apx lpx.length cpx, .int .i64 cx, .int .i64 nx] 41))).alloc (.cells #[.int .i64 fcx, .int .i64 fix] 29)
  have KC := hk.trans (KA.trans KB)
  have HB2 := Lib.hid (HB1.out.keeps0 KC); have HT2 := Lib.hid (HT1.out.keeps0 KC); have HK2 := Lib.hid (HK1.out.trans KC)
  clear HB1 HT1 HK1
  have HRx := Lib.hid (KB.heap (heap_alloc_new w4 (.cells #[.bool fndx, .slice apx lpx.length cpx, .int .i64 cx, .int .i64 nx] 41)) (fun h => h))
  have hf := heap_alloc_new (w4.alloc (.cells #[.bool fndx, .slice apx lpx.length cpx, .int .i64 cx, .int .i64 nx] 41)) (.cells #[.int .i64 fcx, .int .i64 fix] 29)
  rw [World.size_alloc] at hf
  have HFx := Lib.hid (hf)
  clear hk KA KB KC hf hi
  go_upto_region 4 with fail
  generalize (w4.alloc (.cells #[.bool fndx, .slice apx lpx.length cpx, .int .i64 cx, .int .i64 nx] 41)).alloc (.cells #[.int .i64 fcx, .int .i64 fix] 29) = w5 at HB2 HT2 HK2 HRx HFx ⊢
  generalize w4.heap.size = b4 at HRx HFx ⊢
  have hbxd := HB2.out.lt
  obtain ⟨d0, d1, d2, d3⟩ := HB2.out
  go_wp2_with fail
  refine (aplan_any _ _ _ _ t 0 (fun W => admissible0_any W) (says_zero t) HT2.out).mono ?_; rintro e w6 ⟨hk, fndy, vp, lpy, cy, ny, fcy, fiy, rfl, hi, hr⟩
  obtain ⟨apy, cpy, hvp, _⟩ := hi.form
  subst hvp
  have HISy := Lib.hid hr
  clear hr
  clear hbxd d0 d1 d2 d3
  simp only [resV, fltV]
  have KA := (Keeps.refl (fun _ => False) w6).alloc (.cells #[.bool fndy, .slice apy lpy.length cpy, .int .i64 cy, .int .i64 ny] 41)
  have KB := (Keeps.refl (fun _ => False) (w6.alloc (.cells #[.bool fndy, .slice apy lpy.length cpy, .int .i64 cy, .int .i64 ny] 41))).alloc (.cells #[.int .i64 fcy, .int .i64 fiy] 29)
  have KC := hk.trans (KA.trans KB)
  have HB3 := Lib.hid (HB2.out.keeps0 KC); have HT3 := Lib.hid (HT2.out.keeps0 KC); have HK3 := Lib.hid (HK2.out.trans KC); have HRx1 := Lib.hid (KC.heap HRx.out (fun h => h)); have HFx1 := Lib.hid (KC.heap HFx.out (fun h => h))
  clear HB2 HT2 HK2 HRx HFx
  have HRy := Lib.hid (KB.heap (heap_alloc_new w6 (.cells #[.bool fndy, .slice apy lpy.length cpy, .int .i64 cy, .int .i64 ny] 41)) (fun h => h))
  have hf := heap_alloc_new (w6.alloc (.cells #[.bool fndy, .slice apy lpy.length cpy, .int .i64 cy, .int .i64 ny] 41)) (.cells #[.int .i64 fcy, .int .i64 fiy] 29)
  rw [World.size_alloc] at hf
  have HFy := Lib.hid (hf)
  clear hk KA KB KC hf hi
  go_upto_region 5 with fail
  generalize (w6.alloc (.cells #[.bool fndy, .slice apy lpy.length cpy, .int .i64 cy, .int .i64 ny] 41)).alloc (.cells #[.int .i64 fcy, .int .i64 fiy] 29) = w7 at HB3 HT3 HK3 HRx1 HFx1 HRy HFy ⊢
  generalize w6.heap.size = b6 at HRy HFy ⊢
  obtain ⟨g1, g2, g3, g4, g5⟩ := bplan_agree HISx.out HISy.out
  subst g1 g2 g3 g4
  have hlen : (lpx.length : Int) = (lpy.length : Int) := by rw [g5]
  obtain ⟨r0, r1, r2, r3, rl⟩ := quad_cells HRx1.out
  obtain ⟨f0, f1, _, _, fl⟩ := pair_cells HFx1.out
  obtain ⟨s0, s1, s2, s3, sl⟩ := quad_cells HRy.out
  obtain ⟨e0, e1, _, _, el⟩ := pair_cells HFy.out
  go_wp2_with fail
  go_ret
  exact ⟨rfl, HK3.out⟩

end Go.Proofs.YtjcgkmodmjckjaaGreat
