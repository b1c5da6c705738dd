/- space.Steps. -/
import Derived.Test.YtcfcmmajlkkabaaDepA
import Derived.Test.YtcfcmmajlkkabaaExpl
namespace Go.Proofs.Ytcfcmmajlkkabaa
open Go.RowKit Go.Shelf
attribute [local go_sem] Oper.semAt_some

def StepsPost (t : Tsk) (w : World) (e : Ending) (w' : World) : Prop := Keeps (fun _ => False) w w' ∧
  ((∃ c i, c ≠ 0 ∧ expF t = (c, i) ∧ e = .returned (.tuple #[.slice none 0 0, fltV c i])) ∨
   (t.Ok ∧ ∃ (l ws : List Nat) (v : Value) (i : Nat), explored t = some l ∧ ws.Perm l ∧ ws.Pairwise ordW ∧ (tree (wordsOf t.ops) (wd t.init) i).length ≤ i ∧
     e = .returned (.tuple #[v, fltV 0 0]) ∧ Ints w' v (ws.map (depT (tree (wordsOf t.ops) (wd t.init) i)))))

set_option maxRecDepth 100000 in
set_option maxHeartbeats 4000000 in
theorem spsteps_in (we : World) (vi vg vo : Value) (t : Tsk) (h : TaskAt we vi vg vo t) :
    CallsIn Fence.wide 9 Try.prog 46 #[.agg #[.int .i64 t.n, vi, vg, vo]] we (StepsPost t we) := by
  have hmm := @run_makeMap Try.prog
  obtain ⟨i0, hi0, hz0, hz1, hz2⟩ := info_parts Try.info_u32
  obtain ⟨j0, hj0, jz0, jz1, jz2⟩ := info_parts Try.info3
  obtain ⟨ai, ci, h1, _⟩ := h.init.form
  obtain ⟨ag, cg, h2, _⟩ := h.goal.form
  obtain ⟨ao, co, h3, hmo⟩ := h.ops.form
  subst h1 h2 h3
  have K1 := (Keeps.refl (fun _ => False) we).alloc (.cells #[.int .i64 t.n, .slice ai t.init.length ci, .slice ag t.goal.length cg, .slice ao t.ops.length co] 25)
  have HT := h.keeps0 (K1.alloc (.cells #[.int .i64 0, .int .i64 0] 29))
  have HB := (Four.new we (.int .i64 t.n) (.slice ai t.init.length ci) (.slice ag t.goal.length cg) (.slice ao t.ops.length co) 25).keeps0 ((Keeps.refl _ _).alloc (.cells #[.int .i64 0, .int .i64 0] 29))
  have HF : Flt we ((we.alloc (.cells #[.int .i64 t.n, .slice ai t.init.length ci, .slice ag t.goal.length cg, .slice ao t.ops.length co] 25)).alloc (.cells #[.int .i64 0, .int .i64 0] 29)) (we.heap.size + 1) 29 :=
    ⟨by have := heap_alloc_new (we.alloc (.cells #[.int .i64 t.n, .slice ai t.init.length ci, .slice ag t.goal.length cg, .slice ao t.ops.length co] 25)) (.cells #[.int .i64 0, .int .i64 0] 29); rwa [World.size_alloc] at this, by omega, K1.alloc _⟩
  replace HT := Lib.hid HT; replace HB := Lib.hid HB; replace HF := Lib.hid HF
  clear h K1
  have hbx := HB.out.lt
  obtain ⟨d0, d1, d2, d3⟩ := HB.out
  refine callsIn_of_wp_marks Try.func46 rfl trivial ?_ rfl
  simp only [Try.ntmps46, List.size_toArray, List.length_cons, List.length_nil, Nat.reduceAdd, Nat.reduceSub, Array.replicate_succ, Array.replicate_zero, List.push_toArray, List.append_toArray, List.nil_append, List.cons_append]
  gi_wp2
  refine ⟨trivial, ?_⟩
  refine (callsIn_wide.2 (checked_any _ _ _ _ t HT.out)).mono ?_; rintro e w2 ⟨hk, hr⟩
  have HF2 := Lib.hid (HF.out.keeps0 hk)
  clear d0 d1 d2 d3 hbx
  have hb0 := HF2.out.keep.size
  rcases hr with ⟨hc, rfl⟩ | ⟨hok, hx, rfl⟩ | ⟨hok, l, hx, b, v, vl, ws, rfl, hw, hperm, hord, hown⟩
  · have hc2 : ((taskFault t).1 == 0) = false := by simpa using hc
    have HE := Lib.hid (show expF t = taskFault t by unfold expF; rw [if_neg hc])
    have HC := Lib.hid hc
    clear hc hk
    generalize hfe : taskFault t = f at hc2 HC HE ⊢
    clear hfe
    have HF3 := Lib.hid (HF2.out.keeps0 ((Keeps.refl _ _).alloc (.cells #[.int .i64 f.1, .int .i64 f.2] 29)))
    obtain ⟨e0, e1, z0, z1, hF⟩ := HF3.out.cells
    gi_wp2
    gi_region
    all_goals
      gi_wp2
      refine leaves_marks (B := we.heap.size) (Marks.nil _ _) (fun W' hk' => ?_)
      have HX := (((Keeps.refl (fun _ => False) _).drew).heap (HF3.out.set (.int .i64 f.1) (.int .i64 f.2)).1 (fun h => h))
      exact ⟨_, results_tmp_cell _ _ (we.heap.size + 1) 29 #[.int .i64 f.1, .int .i64 f.2] (0, 0) _ rfl rfl (hk'.heap HX (fun hs => cells_not_deferred HX hs.2)) Try.underlying29 rfl (by kernel_rfl), ((HF3.out.set (.int .i64 f.1) (.int .i64 f.2)).2).drew.trans' hk' (fun i hi => .inr hi.1), .inl ⟨f.1, f.2, HC.out, HE.out, rfl⟩⟩
  · have HE := Lib.hid (show expF t = (10, -7) by unfold expF; rw [if_pos (taskFault_zero.2 hok), hx])
    clear hx hok hk
    have HF3 := Lib.hid (HF2.out.keeps0 ((Keeps.refl _ _).alloc (.cells #[.int .i64 10, .int .i64 (-7)] 29)))
    obtain ⟨e0, e1, z0, z1, hF⟩ := HF3.out.cells
    gi_wp2
    gi_region
    all_goals
      gi_wp2
      refine leaves_marks (B := we.heap.size) (Marks.nil _ _) (fun W' hk' => ?_)
      have HX := (((Keeps.refl (fun _ => False) _).drew).heap (HF3.out.set (.int .i64 10) (.int .i64 (-7))).1 (fun h => h))
      exact ⟨_, results_tmp_cell _ _ (we.heap.size + 1) 29 #[.int .i64 10, .int .i64 (-7)] (0, 0) _ rfl rfl (hk'.heap HX (fun hs => cells_not_deferred HX hs.2)) Try.underlying29 rfl (by kernel_rfl), ((HF3.out.set (.int .i64 10) (.int .i64 (-7))).2).drew.trans' hk' (fun i hi => .inr hi.1), .inl ⟨10, -7, by decide, HE.out, rfl⟩⟩
  · have HX0 := Lib.hid hx; have OK := Lib.hid hok; have PERM := Lib.hid hperm; have ORD := Lib.hid (show ws.Pairwise ordW from hord)
    have hfew : ws.length ≤ 2000 := by rw [hperm.length_eq]; exact (reached_some hx).2.1
    have KA := (Keeps.refl (fun _ => False) w2).alloc (.cells #[.int .i64 0, .int .i64 0] 29)
    have HV := Lib.hid (show Sl _ vl ws.length (ws.map encW) from (Sl.of_own hown).keeps0 KA)
    have HWA := Lib.hid (hw.keeps0 KA)
    have HF3 := Lib.hid (HF2.out.keeps0 KA)
    have F0 := heap_alloc_new w2 (.cells #[.int .i64 0, .int .i64 0] 29)
    have f0 : (w2.alloc (.cells #[.int .i64 0, .int .i64 0] 29)).cell? ⟨w2.heap.size, 0, none⟩ = some (.int .i64 0) := by rw [cell_of_blk F0]; rfl
    have f1 : (w2.alloc (.cells #[.int .i64 0, .int .i64 0] 29)).cell? ⟨w2.heap.size, 1, none⟩ = some (.int .i64 0) := by rw [cell_of_blk F0]; rfl
    obtain ⟨av, cv, hav⟩ := ownsRow_form1 hown
    subst hav
    clear hx hok hw KA hperm hord hown hk F0
    have hops : WopsOk (wordsOf t.ops) := wops_ok OK.out
    have hmany : (wordsOf t.ops).length ≤ 40 := by unfold wordsOf; rw [List.length_map]; exact OK.out.few
    have hst : wd t.init < 4294967296 := wd_lt32 (by have := OK.out.n1; omega : t.n ≤ 32) OK.out.init
    have HL0 : Hid (reached (wordsOf t.ops) (wd t.init) = some l) := HX0
    gi_wp2
    obtain ⟨w, hW⟩ : ∃ w, w2.alloc (.cells #[.int .i64 0, .int .i64 0] 29) = w := ⟨_, rfl⟩
    have hz : w.heap.size = w2.heap.size + 1 := by rw [← hW]; simp
    rw [hW] at HV HWA HF3 ⊢
    rw [← hz]
    clear hW hz f0 f1
    generalize w2.heap.size = bf
    generalize hstx : wd t.init = st at hst HL0 HWA ⊢
    generalize hopx : wordsOf t.ops = ops at hops hmany HL0 HWA ⊢
    have HSTX := Lib.hid hstx; have HOPX := Lib.hid hopx
    clear hstx hopx
    generalize wd t.goal = g0 at HWA
    obtain ⟨base, HWA⟩ : ∃ base, Hid (WordsAt w base b st g0 v ops) := ⟨_, HWA⟩
    have hbase : we.heap.size ≤ w.heap.size := HF3.out.keep.size
    refine ⟨trivial, ?_⟩
    have kM := (Keeps.refl (fun _ => False) w).alloc (.map #[] 0)
    refine (callsIn_wide.2 (start_any _ _ _ _ _ _ _ (HWA.out.keeps0 kM))).mono ?_; rintro e w1 ⟨rfl, rfl⟩
    have hm0 : IMap (w.alloc (.map #[] 0)) w.heap.size .u32 [] := IMap.made w .u32
    obtain ⟨W4, hrun, hI4, hk4⟩ := hm0.run_update_new (P := Try.prog) Try.underlying106 Try.underlying90 (x := (st : Int)) (by simp) (.int .i64 0)
    have hkM : Keeps (fun _ => False) w W4 := kM.trans' hk4 (fun i e => .inr (by omega))
    gi_wp2
    refine ⟨trivial, ?_⟩
    refine (callsIn_wide.2 (start_any _ _ _ _ _ _ _ (HWA.out.keeps0 (hkM.alloc (.cells #[.map (some w.heap.size)] 106))))).mono ?_; rintro e w1 ⟨rfl, rfl⟩
    gi_wp2
    have hS : DepS w (W4.heap.size + 1 + 1) w.heap.size W4.heap.size (tree ops st 0) [st] (.slice (some ⟨W4.heap.size + 1, 0, none⟩) 1 1) (((W4.alloc (.cells #[.map (some w.heap.size)] 106)).alloc (.cells #[.int .u32 (st : Int)] 90)).alloc (.cells #[.slice (some ⟨W4.heap.size + 1, 0, none⟩) 1 1] 85)) := by
      have hsz : w.heap.size + 1 ≤ W4.heap.size := by have := hk4.size; simpa using this
      have kA := (Keeps.refl (fun _ => False) W4).alloc (.cells #[.map (some w.heap.size)] 106)
      have kB := (Keeps.refl (fun _ => False) (W4.alloc (.cells #[.map (some w.heap.size)] 106))).alloc (.cells #[.int .u32 (st : Int)] 90)
      have kC := (Keeps.refl (fun _ => False) ((W4.alloc (.cells #[.map (some w.heap.size)] 106)).alloc (.cells #[.int .u32 (st : Int)] 90))).alloc (.cells #[.slice (some ⟨W4.heap.size + 1, 0, none⟩) 1 1] 85)
      have n1 := Boxed.new ((W4.alloc (.cells #[.map (some w.heap.size)] 106)).alloc (.cells #[.int .u32 (st : Int)] 90)) 85 (.slice (some ⟨W4.heap.size + 1, 0, none⟩) 1 1)
      rw [World.size_alloc, World.size_alloc] at n1
      have nl := Tail.new (W4.alloc (.cells #[.map (some w.heap.size)] 106)) w.heap.size 90 (.int .u32 (st : Int)) (by simp; omega)
      rw [World.size_alloc] at nl
      have n3 := Boxed.new W4 106 (.map (some w.heap.size))
      refine ⟨hkM.trans (kA.trans (kB.trans kC)), n1, kC.heap (kB.heap n3 (fun h => h)) (fun h => h), nl.keeps kC (fun _ _ h => h), ?_, by omega, Nat.le_refl _, by omega⟩
      have h4 : IMap W4 w.heap.size .u32 (depL (tree ops st 0)) := by simpa [depL, tree] using hI4
      exact h4.keeps (kA.trans (kB.trans kC)) (fun h => h)
    have HS := Lib.hid hS
    clear hS hI4 hm0 hk4 hkM kM
    generalize (((W4.alloc (.cells #[.map (some w.heap.size)] 106)).alloc (.cells #[.int .u32 (st : Int)] 90)).alloc (.cells #[.slice (some ⟨W4.heap.size + 1, 0, none⟩) 1 1] 85)) = W5 at HS ⊢
    generalize W4.heap.size + 1 + 1 = b1 at HS ⊢
    generalize W4.heap.size + 1 = ba at HS ⊢
    generalize W4.heap.size = b3 at HS ⊢
    clear hrun
    obtain ⟨b2, hb2⟩ : ∃ b2, w.heap.size = b2 := ⟨_, rfl⟩
    have HSB : Hid (DepS w b1 b2 b3 (tree ops st 0) [st] (.slice (some ⟨ba, 0, none⟩) 1 1) W5) := by rw [← hb2]; exact HS
    clear HS hb2
    refine wpIn_loop (fun a' wr => ∃ (ds : List Deferred) (i : Nat) (q : List Nat) (vl : Value), DepLoop ops st w b1 b2 b3 i q vl ds wr ∧ i ≤ (tree ops st i).length ∧
        ∃ u : Nat → Value, a' = { tmps := #[.agg #[.int .i64 t.n, .slice ai t.init.length ci, .slice ag t.goal.length cg, .slice ao t.ops.length co], .pointer (some ⟨we.heap.size, 0, none⟩), .slice none 0 0, .pointer (some ⟨we.heap.size + 1, 0, none⟩), .pointer (some ⟨b, 0, none⟩), .slice av ws.length cv, .pointer (some ⟨bf, 0, none⟩), .pointer (some ⟨b3, 0, none⟩), .pointer (some ⟨b1, 0, none⟩), u 9, u 10, u 11, u 12, u 13, u 14, u 15, u 16, u 17, u 18, u 19, u 20, u 21, u 22, u 23, u 24, u 25, u 26, u 27, u 28, u 29, u 30, u 31, u 32, u 33, u 34, u 35, u 36, u 37, u 38, u 39, u 40, u 41, u 42, u 43, u 44, u 45, u 46, u 47, u 48, u 49, u 50, u 51, u 52, u 53, u 54, u 55, u 56, u 57, u 58, u 59, u 60, u 61, u 62, u 63, u 64, u 65, u 66, u 67, u 68, u 69, u 70, u 71, u 72, u 73, u 74, u 75, u 76, u 77, u 78, u 79, u 80], defers := ds })
      (fun _ W => l.length + 1 - (mapLen W b2 - boxLen W b1)) ?start ?round
    case start => exact ⟨[], 0, [st], _, ⟨HSB.out, rfl, Marks.nil _ _⟩, by simp, ex_fnD rfl⟩
    case round =>
      rintro a wo ⟨ds, i, q, vl, hL, hil, u, rfl⟩
      have HL := Lib.hid hL
      clear hL HSB
      have x1c := HL.out.s.x1.cell
      have x1f := HL.out.s.x1.frozen
      have x3c := HL.out.s.x3.cell
      have x1l := HL.out.s.x1.lt
      have x3l := HL.out.s.x3.lt
      obtain ⟨gl, off, cap, hv, hqc, hcm, hgb, hgl⟩ := HL.out.s.line.form
      subst hv
      rw [List.length_map] at *
      by_cases hq : q = []
      · subst hq
        have hlen : (tree ops st i).length ≤ i := by
          have h := congrArg List.length HL.out.q
          unfold keysT at h
          simp at h; omega
        have HV2 := Lib.hid (HV.out.keeps0 HL.out.s.keep); have HF5 := Lib.hid (HF3.out.keeps0 HL.out.s.keep); have HM5 := Lib.hid HL.out.marks
        have HMAP := Lib.hid HL.out.s.map; have HX3 := Lib.hid HL.out.s.x3; have HLEN := Lib.hid hlen
        have HCV := Lib.hid (Sl.cellN HV2.out rfl)
        have HIN := Lib.hid (show ∀ x ∈ ws, ∃ e ∈ tree ops st i, e.to = x from fun x hx => (tree_ok ops st i).all hlen (((reached_some HL0.out).2.2.2 x).1 (PERM.out.mem_iff.1 hx)))
        have HND := Lib.hid (tree_ok ops st i).nodup
        clear hlen HL hqc hcm hgb hgl
        gi_wp2
        clear x1c x1f x3c x1l x3l
        gi_loopw [13, 68] (fun v13 v68 wq => ∃ k : Nat, k ≤ ws.length ∧ v68 = .int .i64 (k : Int) ∧ wq.ownsRow wo.heap.size 3 1 v13 k ((ws.take k).map fun x : Nat => Value.int .i64 (depT (tree ops st i) x)) ∧ Keeps (fun _ => False) wo wq) (fun _ v68 _ => ws.length - (intOf v68).toNat)
        case atStart => exact ⟨0, Nat.zero_le _, rfl, World.ownsRow_nil _ _ _ _, Keeps.refl _ _⟩
        case round =>
          obtain ⟨k, hk, rfl, hrow, hkr⟩ := hrel
          have HR := Lib.hid hrow; have HKR := Lib.hid hkr
          have x3 : Boxed wr b3 _ _ := hkr.heap HX3.out (fun h => h)
          have x3c := x3.cell
          have x3l := x3.lt
          have hsz := hkr.size
          obtain ⟨ar, cr, har⟩ := ownsRow_form1 hrow
          subst har
          clear hrow hkr x3
          by_cases hlt : k < ws.length
          · obtain ⟨bl, ol, rfl, hx'⟩ := HCV.out (by omega)
            obtain ⟨x, hx⟩ : ∃ x, ws[k]? = some x := ⟨_, List.getElem?_eq_getElem hlt⟩
            have hu := HKR.out.cell (hx' k (.int .u32 (x : Int)) (by rw [List.getElem?_map, hx]; rfl)) (fun h => h)
            obtain ⟨e, he, hex⟩ := HIN.out x (List.mem_of_getElem? hx)
            have hlk := ((HMAP.out.keeps HKR.out (fun h => h)).run_lookup_hit (P := Try.prog) Try.underlying106 Try.underlying90 (depL_nodup HND.out) (depL_mem he)).2
            rw [hex] at hlk
            have HTK := Lib.hid (show (ws.take (k + 1)).map (fun x : Nat => Value.int .i64 (depT (tree ops st i) x)) = (ws.take k).map (fun x : Nat => Value.int .i64 (depT (tree ops st i) x)) ++ [.int .i64 (e.path.length : Int)] by
              rw [take_getS hx, List.map_append, ← hex]
              simp only [List.map_cons, List.map_nil]
              rw [depT_eq HND.out he])
            clear hx' hx he hex
            gi_wp2_with (gi_at_builtin; refine wpListIn_append_lies _ rfl (.tmp 72) (.tmp 76) 22 rfl wo.heap.size 3 j0 _ 1 8 Try.underlying22 hj0 jz0 jz1 jz2 rfl (by omega) _ k ((ws.take k).map fun x : Nat => Value.int .i64 (depT (tree ops st i) x)) rfl (World.ownsRow.alloc HR.out (.cells #[.int .i64 (e.path.length : Int)] 3)) ⟨wr.heap.size, 0, none⟩ 1 1 [.int .i64 (e.path.length : Int)] rfl rfl ?hnews ?hone (by omega) (by unfold maxLen; omega) (by omega) (by simp; omega) (wr.heap.size + 1) (by simp) ?_)
            case hnews => exact World.news_of_block (cs := #[.int .i64 (e.path.length : Int)]) (t := 3) (fr := (0, 0)) (heap_alloc_new wr _)
            case hone => simp [Value.oneCell']
            intro g2 cap2 w3 hown hgrow hat hlt3
            have HO := Lib.hid hown
            have HK3 := Lib.hid (own_grown HR.out HKR.out ((Keeps.refl _ wr).alloc (.cells #[.int .i64 (e.path.length : Int)] 3)) hgrow)
            clear hown hgrow hat hlt3 hu hlk
            gi_wp2
            go_roundw
            case rel => exact ⟨k + 1, by omega, by go_num, by rw [HTK.out, List.map_take]; exact HO.out, HK3.out⟩
            case measure => simp only [intOf]; omega
          · have hie : k = ws.length := by omega
            subst hie
            have HFr := Lib.hid (HF5.out.keeps0 HKR.out)
            obtain ⟨e0, e1, z0, z1, hF⟩ := HFr.out.cells
            have s0 := setCell_id e0
            have s1 := setCell_id e1
            have HR2 := Lib.hid (show Ints wr (.slice ar ws.length cr) (ws.map (depT (tree ops st i))) ∧ ∀ k, (Value.slice ar ws.length cr).ownBlock = some k → wr.heap[k]? ≠ some (.deferred (some [])) by
              have h := HR.out
              rw [List.take_length] at h
              refine ⟨Ints.of_own (base := wo.heap.size) (e := 3) ?_, fun k hk => row_not_deferred h k hk⟩
              rw [List.length_map, List.map_map]
              exact h)
            have HMR := Lib.hid (HM5.out.keeps (KeepsD.of0 HKR.out))
            gi_wp2
            refine leaves_marks HMR.out (fun W' hk' => ?_)
            refine ⟨_, results_tmp_cell _ _ (we.heap.size + 1) 29 #[.int .i64 0, .int .i64 0] (0, 0) _ rfl rfl (hk'.heap HFr.out.blk (fun hs => cells_not_deferred HFr.out.blk hs.2)) Try.underlying29 rfl (by kernel_rfl), HFr.out.keep.trans' hk' (fun i hi => .inr (Nat.le_trans hbase hi.1)), .inr ⟨OK.out, l, ws, .slice ar ws.length cr, i, HX0.out, PERM.out, ORD.out, ?_, rfl, ?_⟩⟩
            · rw [HOPX.out, HSTX.out]; exact HLEN.out
            · rw [HOPX.out, HSTX.out]; exact HR2.out.1.keepsS hk' (fun _ k hk hs => HR2.out.2 k hk hs.2)
      · obtain ⟨x, q', rfl⟩ : ∃ x q', q = x :: q' := by
          cases q with
          | nil => exact absurd rfl hq
          | cons x q' => exact ⟨x, q', rfl⟩
        rw [List.length_cons] at *
        have hq0 := HL.out.q
        obtain ⟨e, hTi, hex⟩ : ∃ e, (tree ops st i)[i]? = some e ∧ e.to = x := by
          have h := congrArg (fun l : List Nat => l[0]?) hq0
          simp only [List.getElem?_cons_zero, List.getElem?_drop, Nat.add_zero] at h
          unfold keysT at h
          rw [List.getElem?_map] at h
          cases hT : (tree ops st i)[i]? with
          | none => rw [hT] at h; cases h
          | some e => rw [hT] at h; exact ⟨e, rfl, by simpa using h.symm⟩
        subst hex
        have hqq : q' = (keysT (tree ops st i)).drop (i + 1) := by
          have h := congrArg (List.drop 1) hq0
          rw [List.drop_drop] at h
          simpa using h
        have htl : i < (tree ops st i).length := (List.getElem?_eq_some_iff.1 hTi).1
        have hok := tree_ok ops st i
        have hll := (reached_some HL0.out).2.1
        have htf := tree_few HL0.out i
        have hnext := tree_step hTi
        have hpl : e.path.length ≤ i := tree_short i i e hTi
        have hx32 : e.to < 4294967296 := reach_small hops hst (hok.reach e (List.mem_of_getElem? hTi))
        have hqlen : q'.length + (i + 1) = (tree ops st i).length := by rw [hqq, List.length_drop, keysT_length]; omega
        have hcount := HL.out.s.count
        have hcx := Tail.head (by have := HL.out.s.line; rw [List.map_cons] at this; exact this)
        unfold encW at hcx
        have hsz : w.heap.size ≤ wo.heap.size := HL.out.s.keep.size
        have hpop := HL.out.s.pop (n := q'.length) rfl
        have hmk := HL.out.marks
        have hkd : KeepsD wo (wo.setCell ⟨b1, 0, none⟩ (.slice (some (cutAt gl off cap)) q'.length (cap - 1))) :=
          KeepsD.of ((Keeps.refl (fun b => b = b1) wo).setCell (p := ⟨b1, 0, none⟩) (.inl rfl) _) (fun b hb => by subst hb; exact cells_not_deferred HL.out.s.x1)
        have hm2 := hmk.keeps hkd
        have hpl2 : e.path.length ≤ 2000 := by omega
        clear hq hkd
        generalize hT : tree ops st i = T at hTi hqq htl hok htf hnext hqlen hcount hpop hil
        have HTI := Lib.hid hTi; have HQQ := Lib.hid hqq; have HOK := Lib.hid hok; have HNX := Lib.hid hnext; have HCO := Lib.hid hcount; have HMK := Lib.hid hmk; have HTE := Lib.hid hT
        have HTF := Lib.hid (Nat.le_trans htf hll); have HTL := Lib.hid htf; have HIT := Lib.hid htl; have HQL := Lib.hid hqlen
        clear hTi hqq hok hnext hcount hmk hT htf hll htl hqlen hq0 HL hil
        rcases (Classical.em (cap = 1)) with hc1 | hc1
        case' inl =>
          rw [show cutAt gl off cap = ⟨gl, off, none⟩ by simp [cutAt, hc1], show cap - 1 = 0 by omega] at hpop hm2
          have hz : q'.length = 0 := by omega
          rw [hz] at hpop hm2
          have HP := Lib.hid hpop; have HM := Lib.hid hm2
          clear hpop hm2
          subst hc1
          gi_wp2
          generalize (Value.slice (some ⟨gl, off, none⟩) 1 1) = vo
          generalize (Value.slice (some ⟨gl, off, none⟩) 0 0) = vc at HP HM ⊢
          generalize (Value.int .i64 1) = v23
        case' inr =>
          rw [show cutAt gl off cap = ⟨gl, off + 1, none⟩ by simp [cutAt, hc1]] at hpop hm2
          have HP := Lib.hid hpop; have HM := Lib.hid hm2
          clear hpop hm2
          gi_wp2
          generalize (Value.slice (some ⟨gl, off, none⟩) (q'.length + 1) cap) = vo
          generalize (Value.slice (some ⟨gl, off + 1, none⟩) q'.length (cap - 1)) = vc at HP HM ⊢
          generalize (Value.int .i64 ((q'.length : Int) + 1)) = v23
        all_goals
          have hkz : (wo.setCell ⟨b1, 0, none⟩ vc).heap.size = wo.heap.size := by simp
          generalize wo.setCell ⟨b1, 0, none⟩ vc = W2 at HP HM hkz ⊢
          rw [← hkz] at hsz ⊢
          have HB9 := Lib.hid (heap_alloc_new W2 (.cells #[.int .u32 (e.to : Int)] 90))
          have HPA := Lib.hid (HP.out.keeps0 ((Keeps.refl (fun _ => False) W2).alloc (.cells #[.int .u32 (e.to : Int)] 90)))
          have HMA := Lib.hid (HM.out.keeps (KeepsD.of0 ((Keeps.refl (fun _ => False) W2).alloc (.cells #[.int .u32 (e.to : Int)] 90))))
          have hv9 : ∀ k, vc.ownBlock = some k → k ≠ W2.heap.size := fun k hk => by have := (HP.out.line.lt k hk).2; omega
          have HV9 := Lib.hid hv9
          have hb9l : W2.heap.size < (W2.alloc (.cells #[.int .u32 (e.to : Int)] 90)).heap.size := by simp
          have hb9w : w.heap.size ≤ W2.heap.size := hsz
          clear hv9 hkz HP HM hsz
          generalize (W2.alloc (.cells #[.int .u32 (e.to : Int)] 90)) = W4 at HB9 HPA HMA hb9l ⊢
          generalize W2.heap.size = b9 at HB9 HV9 hb9l hb9w ⊢
          refine ⟨trivial, ?_⟩
          refine (callsIn_wide.2 (steps_any W4 b e.to)).mono ?_; rintro en w5 ⟨rfl, rfl⟩
          gi_wp2
          obtain ⟨W6, hW6⟩ : ∃ W6, ((W4.alloc (.cells #[.pointer (some ⟨b, 0, none⟩)] 84)).alloc (.cells #[.int .u32 (e.to : Int)] 90)) = W6 := ⟨_, rfl⟩
          have hz6 : W6.heap.size = W4.heap.size + 1 + 1 := by rw [← hW6]; simp
          have k6 : Keeps (fun _ => False) W4 W6 := by rw [← hW6]; exact ((Keeps.refl _ _).alloc _).alloc _
          have hBw : W6.cell? ⟨W4.heap.size, 0, none⟩ = some (.pointer (some ⟨b, 0, none⟩)) := by
            rw [← hW6]; exact ((Boxed.new W4 _ _).alloc _).cell
          have hBs : W6.heap[W4.heap.size + 1]? = some (.cells #[.int .u32 (e.to : Int)] 90 (0, 0)) := by
            rw [← hW6]
            have := heap_alloc_new (W4.alloc (.cells #[.pointer (some ⟨b, 0, none⟩)] 84)) (.cells #[.int .u32 (e.to : Int)] 90)
            rwa [World.size_alloc] at this
          have hBsc : W6.cell? ⟨W4.heap.size + 1, 0, none⟩ = some (.int .u32 (e.to : Int)) := by rw [cell_of_blk hBs]; rfl
          rw [hW6]
          have hlow4 : w.heap.size ≤ W4.heap.size := HPA.out.keep.size
          have HA6 := Lib.hid (HPA.out.keeps0 k6)
          have HM6 := Lib.hid (HMA.out.keeps (KeepsD.of0 k6))
          have HB96 := Lib.hid (k6.heap HB9.out (fun h => h))
          have HWW := Lib.hid (show ∃ w0 : World, WordsAt w0 base b st g0 v ops ∧ w0.heap.size ≤ w.heap.size ∧ Below w.heap.size w0 W6 from ⟨w, HWA.out, Nat.le_refl _, HA6.out.keep.below⟩)
          have hgrow0 : ∀ k, vc.ownBlock = some k → k ≠ W4.heap.size + 1 := fun k hk => by have := (HPA.out.line.lt k hk).2; omega
          have HG0 := Lib.hid hgrow0
          have HBS := Lib.hid hBs
          have HWL := Lib.hid (show (wsteps ops e.to).length ≤ 40 from Nat.le_trans (wsteps_le ops e.to) hmany)
          have hb6 : w.heap.size ≤ W6.heap.size := by omega
          have hb96 : b9 < W6.heap.size := by omega
          have hb26 : b2 < W6.heap.size := HA6.out.map.lt
          clear hgrow0 hBs HB9 HPA HMA
          refine wpIn_rangeFunc_ownH (α := StpOf ops e.to) rfl (by omega) (gf := 98) (lb := #[.pointer (some ⟨W4.heap.size, 0, none⟩), .pointer (some ⟨W4.heap.size + 1, 0, none⟩)]) rfl trivial (enters_of Try.func98 (by kernel_rfl) rfl)
            (steps_stops Fence.wide 8 trivial rfl (by omega) W4.heap.size (W4.heap.size + 1) w.heap.size base b st g0 e.to v ops hops (by omega) hx32 W6 (by omega) hBw hBsc (by omega) (by omega) HWW.out)
            KpS.trans (kpS_b (by omega) (by omega)) (Below.refl _ _) (fun _ => rfl)
            (fun pre W => DepI w b1 b2 b3 T q' e ds (W4.heap.size + 1) b9 (pre.map fun y => y.1) W)
            (fun _ _ _ => False) ?_ (fun _ _ _ _ _ hs _ _ => hs) ?_
            (fun (y : StpOf ops e.to) (a' : Act) (W : World) => ∃ Bx : Nat, W.heap[Bx]? = some (Obj.cells #[.int .i64 (y.1.op : Int), .int .i64 y.1.cost, .int .u32 (y.1.to : Int)] 113 (0, 0)) ∧ ∃ u : Nat → Value, a' = { tmps := #[.agg #[.int .i64 t.n, .slice ai t.init.length ci, .slice ag t.goal.length cg, .slice ao t.ops.length co], .pointer (some ⟨we.heap.size, 0, none⟩), .slice none 0 0, .pointer (some ⟨we.heap.size + 1, 0, none⟩), .pointer (some ⟨b, 0, none⟩), .slice av ws.length cv, .pointer (some ⟨bf, 0, none⟩), .pointer (some ⟨b3, 0, none⟩), .pointer (some ⟨b1, 0, none⟩), .pointer (some ⟨b9, 0, none⟩), .pointer (some ⟨Bx, 0, none⟩), u 11, u 12, u 13, u 14, u 15, u 16, u 17, u 18, u 19, u 20, u 21, u 22, u 23, u 24, u 25, u 26, u 27, u 28, u 29, u 30, u 31, u 32, u 33, u 34, u 35, u 36, u 37, u 38, u 39, u 40, u 41, u 42, u 43, u 44, u 45, u 46, u 47, u 48, u 49, u 50, u 51, u 52, u 53, u 54, u 55, u 56, u 57, u 58, u 59, u 60, u 61, u 62, u 63, u 64, u 65, u 66, u 67, u 68, u 69, u 70, u 71, u 72, u 73, u 74, u 75, u 76, u 77, u 78, u 79, u 80], defers := [] }) ?_ ?_ ?_ ?_ ?_
          · intro l W W' row hs hg hr
            obtain ⟨vl, h1, h2, h3, h4, h5⟩ := hs
            exact ⟨vl, h1.steady hg hr hb6 hb26, Marks.steady HM6.out h2 hg hr, steady_heap hg (fun r e => (hr r e).2) h3, steady_heap hg (fun r e => (hr r e).2) h4, h5⟩
          · exact ⟨vc, by simpa [frs, keysT] using HA6.out, HM6.out, HBS.out, HB96.out, HG0.out, HV9.out⟩
          · intro y a' _ W W' row hs hg hr
            obtain ⟨Bx, h1, h2⟩ := hs
            exact ⟨Bx, steady_heap hg (fun r e => (hr r e).2) h1, h2⟩
          · intro l pre y W K hi hK
            simp only [Stp.val]
            gi_wp2
            obtain ⟨vl, h1, h2, h3, h4, h5⟩ := hi
            refine hK _ _ ((KeepsOthers.alloc _ _).from _) ((KpS.refl _ _ W).alloc h1.keep.size (lt_of_heap h3) _) ⟨vl, h1.keeps0 ((Keeps.refl _ _).alloc _), h2.keeps (KeepsD.of0 ((Keeps.refl _ _).alloc _)), ((Keeps.refl (fun _ => False) W).alloc _).heap h3 (fun h => h), ((Keeps.refl (fun _ => False) W).alloc _).heap h4 (fun h => h), h5⟩ ⟨W.heap.size, heap_alloc_new W _, ex_fnD rfl⟩
          · rintro l pre y a' W hl - ⟨vl, h1, h2, h3, h4, h5, h6⟩ ⟨Bx, hBx, u, rfl⟩ hlt
            have x1c := h1.x1.cell
            have x1f := h1.x1.frozen
            have x3c := h1.x3.cell
            have c9 : W.cell? ⟨b9, 0, none⟩ = some (.int .u32 (e.to : Int)) := by rw [cell_of_blk h4]; rfl
            have y0 : W.cell? ⟨Bx, 0, none⟩ = some (.int .i64 (y.1.op : Int)) := by rw [cell_of_blk hBx]; rfl
            have y2 : W.cell? ⟨Bx, 2, none⟩ = some (.int .u32 (y.1.to : Int)) := by rw [cell_of_blk hBx]; rfl
            have hBxl := lt_of_heap hBx
            have l1 := h1.x1.lt
            have l3 := h1.x3.lt
            have l9 := lt_of_heap h4
            have hnd : (keysT (T ++ frs e (keysT T) (pre.map fun y => y.1))).Nodup := by
              rw [keysT_append, frs_keys]; exact nodup_freshs HOK.out.nodup
            have hsn := frs_snoc e (pre.map fun y => y.1) y.1 (keysT T)
            by_cases hm : y.1.to ∈ keysT T ++ keysT (frs e (keysT T) (pre.map fun y => y.1))
            · obtain ⟨f, hf, hfy⟩ : ∃ f ∈ T ++ frs e (keysT T) (pre.map fun y => y.1), f.to = y.1.to := by
                rw [← keysT_append] at hm
                obtain ⟨f, h1, h2⟩ := List.mem_map.1 hm
                exact ⟨f, h1, h2⟩
              have hlk := (h1.map.run_lookup_hit (P := Try.prog) Try.underlying106 Try.underlying90 (depL_nodup hnd) (depL_mem hf)).1
              rw [hfy] at hlk
              rw [if_pos hm, List.append_nil] at hsn
              have H1 := Lib.hid h1; have H2 := Lib.hid h2; have H3 := Lib.hid h3; have H4 := Lib.hid h4; have H5 := Lib.hid h5; have H6 := Lib.hid h6; have HSN := Lib.hid hsn
              clear h1 h2 h3 h4 h5 h6 hsn hm hnd hBx hf hfy
              gi_wp2
              refine ⟨⟨Nat.le_refl _, fun _ _ _ h _ => h⟩, KpS.refl _ _ W, ⟨vl, ?_, H2.out, H3.out, H4.out, H5.out, H6.out⟩⟩
              have e1 : frs e (keysT T) ((pre ++ [y]).map fun y => y.1) = frs e (keysT T) (pre.map fun y => y.1) := by rw [List.map_append]; exact HSN.out
              rw [e1]
              exact H1.out
            · have kal := Keeps.refl (fun _ => False) W
              have hm2 : y.1.to ∉ keysT (T ++ frs e (keysT T) (pre.map fun y => y.1)) := by rw [keysT_append]; exact hm
              have hlk := ((h1.map).run_lookup_miss (P := Try.prog) Try.underlying106 Try.underlying90 (z := .int .i64 0) (show (zeroValue 3).run Try.prog W = .ok (.int .i64 0) W by kernel_rfl) (depL_miss hm2)).1
              have hlk2 := (h1.map.run_lookup_hit (P := Try.prog) Try.underlying106 Try.underlying90 (depL_nodup hnd) (depL_mem (List.mem_append_left (frs e (keysT T) (pre.map fun y => y.1)) (List.mem_of_getElem? HTI.out)))).2
              obtain ⟨W1, hrunU, hI1, hK1⟩ := h1.map.run_update_new (P := Try.prog) Try.underlying106 Try.underlying90 (depL_miss hm2) (.int .i64 ((e.path.length : Int) + 1))
              have hpe : ((e.of y.1).path.length : Int) = (e.path.length : Int) + 1 := by simp [Ent.of]
              rw [← hpe] at hI1
              have hS1 := h1.see (e := e.of y.1) hI1 hK1
              have hb2 := box_not_map h1.map h1.x1
              have hbx2 : Bx ≠ b2 := by rintro rfl; obtain ⟨es, c, hb, _⟩ := h1.map; rw [hBx] at hb; cases hb
              have hbs2 : W4.heap.size + 1 ≠ b2 := by rintro rfl; obtain ⟨es, c, hb, _⟩ := h1.map; rw [h3] at hb; cases hb
              have hb92 : b9 ≠ b2 := by rintro rfl; obtain ⟨es, c, hb, _⟩ := h1.map; rw [h4] at hb; cases hb
              have z1c := hS1.x1.cell
              have z1f := hS1.x1.frozen
              have z3c := hS1.x3.cell
              have y2' : W1.cell? ⟨Bx, 2, none⟩ = some (.int .u32 (y.1.to : Int)) := hK1.cell (kal.cell y2 (fun h => h)) hbx2
              have zs := hS1.x1.lt
              have zb := lt_of_heap (hK1.heap (kal.heap hBx (fun h => h)) hbx2)
              rw [if_neg hm] at hsn
              have hfl : (keysT (frs e (keysT T) (pre.map fun y => y.1))).length ≤ 40 := by
                rw [frs_keys]
                have e1 := freshs_le (seen := keysT T) (xs := (pre.map fun y => y.1).map Stp.to)
                rw [List.length_map, List.length_map] at e1
                have := HWL.out; omega
              obtain ⟨sk, hsk⟩ : ∃ sk, q' ++ keysT (frs e (keysT T) (pre.map fun y => y.1)) = sk := ⟨_, rfl⟩
              have hlen : sk.length ≤ 2040 := by
                have := HQL.out; have := HTF.out
                rw [← hsk, List.length_append]; omega
              rw [hsk] at hS1
              have HSK := Lib.hid hsk
              clear hsk
              have hlowW : w.heap.size ≤ W1.heap.size := hS1.keep.size
              have HROW := Lib.hid (hS1.line.keeps ((Keeps.refl (fun _ => False) W1).alloc (.cells #[.int .u32 (y.1.to : Int)] 90)) (fun _ _ h => h))
              have H1 := Lib.hid h1; have H2 := Lib.hid h2; have H3 := Lib.hid h3; have H4 := Lib.hid h4; have H5 := Lib.hid h5; have H6 := Lib.hid h6; have HSN := Lib.hid hsn; have HS1 := Lib.hid hS1; have HK1 := Lib.hid hK1; have HNB := Lib.hid hbs2; have HN9 := Lib.hid hb92; have HI1 := Lib.hid hI1
              clear h1 h2 h3 h4 h5 h6 hsn hm hm2 hnd hBx hS1 hK1 hI1 kal hb2 hbx2 hbs2 hb92 hfl
              gi_wp2_with (gi_at_builtin; refine wpListIn_append_tail _ rfl (.tmp 61) (.tmp 64) 85 rfl w.heap.size 90 i0 _ 4 Try.underlying85 hi0 hz0 hz1 hz2 rfl vl (sk.map encW) rfl HROW.out ⟨W1.heap.size, 0, none⟩ 1 (.int .u32 (y.1.to : Int)) rfl ?_ rfl sk.length (by simp) (by unfold maxLen; omega) (by omega) (by simp; omega) (W1.heap.size + 1) (by simp) ?_)
              · exact (Boxed.new W1 _ _).cell
              intro g4 off4 cap4 W2' hown2 hgrow2 hat2 hlt2
              have hbx1 : W2'.heap[b1]? = some (.cells #[vl] 85 (0, 0)) := ((Keeps.refl (fun b => vl.ownBlock = some b) _).grown hgrow2 (fun k hk => .inl hk)).heap (((Keeps.refl (fun _ => False) W1).alloc _).heap HS1.out.x1 (fun h => h)) HS1.out.row1
              have v1c : W2'.cell? ⟨b1, 0, none⟩ = some vl := (cell_of_blk hbx1).trans rfl
              have v1f : W2'.frozen? ⟨b1, 0, none⟩ = false := frozen_of_blk hbx1
              have v1l := lt_of_heap hbx1
              have HP2 := Lib.hid (HS1.out.push (x := y.1.to) hown2 hgrow2 hat2)
              have HX1 := Lib.hid hbx1
              have HG2 := Lib.hid hgrow2
              have HAT2 := Lib.hid hat2
              clear hown2 hgrow2 hat2 hlt2 hbx1
              gi_wp2
              have hk : Keeps (fun b => b = b2 ∨ b = b1 ∨ vl.ownBlock = some b) W (W2'.setCell ⟨b1, 0, none⟩ (.slice (some ⟨g4, off4, none⟩) (sk.length + 1) cap4)) := by
                have q1 : Keeps (fun b => b = b2 ∨ b = b1 ∨ vl.ownBlock = some b) W W1 := HK1.out.mono (fun _ _ h => .inl h)
                have q2 : Keeps (fun b => b = b2 ∨ b = b1 ∨ vl.ownBlock = some b) W1 W2' := (((Keeps.refl (fun _ => False) W1).alloc (.cells #[.int .u32 (y.1.to : Int)] 90)).mono (fun _ _ h => h.elim)).trans (((Keeps.refl (fun b => vl.ownBlock = some b) _).grown HG2.out (fun k hk => .inl hk)).mono (fun _ _ h => .inr (.inr h)))
                exact (q1.trans q2).trans ((Keeps.refl _ W2').setCell (p := ⟨b1, 0, none⟩) (.inl (.inr (.inl rfl))) _)
              have hS : ∀ b, b = b2 ∨ b = b1 ∨ vl.ownBlock = some b → w.heap.size ≤ b ∧ b < W6.heap.size + W.heap.size ∧ b ≠ W4.heap.size + 1 ∧ b ≠ b9 ∧ W.heap[b]? ≠ some (.deferred (some [])) ∧ (b = b2 ∨ ∃ cs t fr, W.heap[b]? = some (.cells cs t fr)) := by
                rintro b (rfl | rfl | hb)
                · exact ⟨H1.out.l2, by have := H1.out.map.lt; omega, fun e => HNB.out e.symm, fun e => HN9.out e.symm, map_not_deferred H1.out.map, .inl rfl⟩
                · refine ⟨H1.out.l1, by have := H1.out.x1.lt; omega, ?_, ?_, cells_not_deferred H1.out.x1, .inr ⟨_, _, _, H1.out.x1⟩⟩
                  · intro e'
                    have h := (show W.heap[b]? = _ from H1.out.x1)
                    rw [e', H3.out] at h
                    simp at h
                  · intro e'
                    have h := (show W.heap[b]? = _ from H1.out.x1)
                    rw [e', H4.out] at h
                    simp at h
                · obtain ⟨cur, hcur⟩ := H1.out.line.block b hb
                  exact ⟨(H1.out.line.lt b hb).1, by have := (H1.out.line.lt b hb).2; omega, H5.out b hb, H6.out b hb, H1.out.line.not_deferred b hb, .inr ⟨_, _, _, hcur⟩⟩
              refine ⟨⟨hk.size, fun k o hB hk0 hc => ?_⟩, KpS.ofKeeps hk H1.out.keep.size (fun k hlt hs => by have := (hS k hs).1; omega) (lt_of_heap H3.out) (fun hs => (hS _ hs).2.2.1 rfl), ⟨.slice (some ⟨g4, off4, none⟩) (sk.length + 1) cap4, ?_, H2.out.keeps (KeepsD.of hk (fun b hs => (hS b hs).2.2.2.2.1)), hk.heap H3.out (fun hs => (hS _ hs).2.2.1 rfl), hk.heap H4.out (fun hs => (hS _ hs).2.2.2.1 rfl), ?_, ?_⟩⟩
              · refine hk.heap hk0 (fun hs => ?_)
                rcases (hS k hs).2.2.2.2.2 with rfl | ⟨cs, t, fr, e'⟩
                · omega
                · rw [e'] at hk0; cases hk0; cases hc
              · have e1 : frs e (keysT T) ((pre ++ [y]).map fun y => y.1) = frs e (keysT T) (pre.map fun y => y.1) ++ [e.of y.1] := by rw [List.map_append]; exact HSN.out
                rw [e1, keysT_append, ← List.append_assoc, ← List.append_assoc, HSK.out]
                exact HP2.out
              · intro k hk' e'
                simp [Value.ownBlock] at hk'
                subst hk'
                rcases HAT2.out with e2 | e2
                · exact H5.out g4 e2 e'
                · have := lt_of_heap H3.out; have := HK1.out.size; omega
              · intro k hk' e'
                simp [Value.ownBlock] at hk'
                subst hk'
                rcases HAT2.out with e2 | e2
                · exact H6.out g4 e2 e'
                · have := lt_of_heap H4.out; have := HK1.out.size; omega
          · rintro D ys W hD hys ⟨vl, h1, h2, h3, h4, h5, h6⟩ hd
            have hys' : (ys.map fun y => y.1) = wsteps ops e.to := hys
            rw [hys', ← HNX.out] at h1
            have HM7 := Lib.hid (HM6.out.cons h2 hD (by omega) hd)
            have H1 := Lib.hid h1
            have hle : i + 1 ≤ (tree ops st (i + 1)).length := by
              rw [HNX.out, List.length_append]; have := HIT.out; omega
            have HLE := Lib.hid hle
            have HQ2 := Lib.hid (show q' ++ keysT (frs e (keysT T) (wsteps ops e.to)) = (keysT (tree ops st (i + 1))).drop (i + 1) by
              rw [HNX.out, keysT_append, List.drop_append_of_le_length (by rw [keysT_length]; exact HIT.out), HQQ.out])
            have HMEA := Lib.hid (show l.length + 1 - (mapLen W b2 - boxLen W b1) < l.length + 1 - (mapLen wo b2 - boxLen wo b1) by
              obtain ⟨c1, c2⟩ := H1.out.count
              obtain ⟨c3, c4⟩ := HCO.out
              have hq1 := congrArg List.length HQ2.out
              rw [List.length_drop, keysT_length] at hq1
              have hq2 := HQL.out
              have hq3 := HTL.out
              have hq4 := HIT.out
              have hq5 := HLE.out
              rw [c1, c2, c3, c4, List.length_cons, hq1]
              omega)
            clear h1 h2 h3 h4 h5 h6 hd hys hys' hle
            gi_wp2
            exact ⟨⟨mark D :: ds, i + 1, _, vl, ⟨H1.out, HQ2.out, HM7.out⟩, HLE.out, ex_fnD rfl⟩, HMEA.out⟩
          · exact fun _ _ _ _ _ _ h _ => h.elim

theorem spsteps_any (w : World) (vi vg vo : Value) (t : Tsk) (h : TaskAt w vi vg vo t) :
    Calls Try.prog 46 #[.agg #[.int .i64 t.n, vi, vg, vo]] w (StepsPost t w) := callsIn_wide.1 (spsteps_in w vi vg vo t h)

end Go.Proofs.Ytcfcmmajlkkabaa
