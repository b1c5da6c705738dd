/- bothends.meet: the arcs of both sides, and the search from both ends. bothends.Plan. bothends.Middle. breadth: the beginnings of the plan are the least ways to the states on its way. No condition beyond what each theorem says. -/
import Derived.Test.YtcpmjoabhnfddaaGreatA6
import Derived.Test.YtcpmjoabhnfddaaGreatA4
import Derived.Sort.LoopGhostIn
import Derived.Test.YtcpmjoabhnfddaaGreatA5
import Derived.Test.YtcpmjoabhnfddaaGreatA2

namespace Go.Proofs.YtcpmjoabhnfddaaGreat
open Go.RowKit Go.Shelf
attribute [local go_sem] Oper.semAt_some

theorem Tryz.info_barc : (Tryz.prog.info? 173).map (fun i => (i.zero, i.size, i.bytes)) = some (some (.agg #[.int .i64 0, .int .i64 0, .int .u32 0]), 3, 24) := by kernel_rfl

set_option maxRecDepth 100000 in
theorem bprice_any (w : World) (c : Int) (hc : 0 ≤ c ∧ c ≤ 1000000) : Calls Tryz.prog 97 #[.int .i64 c] w fun e w' => e = .returned (.int .i64 (4096 * c + 1)) ∧ w = w' := by
  go_enter Tryz.func97, Tryz.ntmps97
  go_wp2_with fail
  go_ret
  exact ⟨by simp [Int.mul_comm], rfl⟩

theorem sl_of_blk {w : World} {b : Nat} {xs : Array Value} {T : TypeId} (h : w.heap[b]? = some (.cells xs T (0, 0))) (n cap : Nat) (hn : n ≤ maxLen) : Sl w (.slice (some ⟨b, 0, none⟩) n cap) n xs.toList :=
  ⟨_, _, rfl, hn, fun _ => ⟨b, 0, rfl, fun j v hj => by rw [Nat.zero_add, cell_of_blk h, ← Array.getElem?_toList]; exact hj⟩⟩

theorem mst_start (w : World) {ops : List Wop} {L : List Nat} (acc : Nat → Bool) :
    MSt w (nextG ops (L.take 0)) (lastG ops (L.take 0)) ((L.take 0).filter acc) (.slice none 0 0) (fun k => k = w.heap.size + 4) (fun k => k = w.heap.size + 5)
      ((((((((w.alloc (.cells #[.pointer none] 114)).alloc (.cells #[.pointer none] 114)).alloc (.cells #[.int .u32 0] 77)).alloc (.cells #[.bool false] 4)).alloc (.map #[] 0)).alloc (.map #[] 0)).alloc (.cells #[.map (some (w.heap.size + 4))] 119)).alloc (.cells #[.map (some (w.heap.size + 5))] 119)) := by
  obtain ⟨w1, h1⟩ : ∃ w1, w.alloc (.cells #[.pointer none] 114) = w1 := ⟨_, rfl⟩
  obtain ⟨w2, h2⟩ : ∃ w2, w1.alloc (.cells #[.pointer none] 114) = w2 := ⟨_, rfl⟩
  obtain ⟨w3, h3⟩ : ∃ w3, w2.alloc (.cells #[.int .u32 0] 77) = w3 := ⟨_, rfl⟩
  obtain ⟨w4, h4⟩ : ∃ w4, w3.alloc (.cells #[.bool false] 4) = w4 := ⟨_, rfl⟩
  obtain ⟨w5, h5⟩ : ∃ w5, w4.alloc (.map #[] 0) = w5 := ⟨_, rfl⟩
  obtain ⟨w6, h6⟩ : ∃ w6, w5.alloc (.map #[] 0) = w6 := ⟨_, rfl⟩
  obtain ⟨w7, h7⟩ : ∃ w7, w6.alloc (.cells #[.map (some (w.heap.size + 4))] 119) = w7 := ⟨_, rfl⟩
  obtain ⟨w8, h8⟩ : ∃ w8, w7.alloc (.cells #[.map (some (w.heap.size + 5))] 119) = w8 := ⟨_, rfl⟩
  rw [h1, h2, h3, h4, h5, h6, h7, h8]
  have z1 : w1.heap.size = w.heap.size + 1 := by rw [← h1]; simp
  have z2 : w2.heap.size = w.heap.size + 2 := by rw [← h2]; simp [z1]
  have z3 : w3.heap.size = w.heap.size + 3 := by rw [← h3]; simp [z2]
  have z4 : w4.heap.size = w.heap.size + 4 := by rw [← h4]; simp [z3]
  have z5 : w5.heap.size = w.heap.size + 5 := by rw [← h5]; simp [z4]
  have z6 : w6.heap.size = w.heap.size + 6 := by rw [← h6]; simp [z5]
  have z7 : w7.heap.size = w.heap.size + 7 := by rw [← h7]; simp [z6]
  have z8 : w8.heap.size = w.heap.size + 8 := by rw [← h8]; simp [z7]
  have k1 : Keeps (fun _ => False) w w1 := by rw [← h1]; exact (Keeps.refl _ _).alloc _
  have k2 : Keeps (fun _ => False) w1 w2 := by rw [← h2]; exact (Keeps.refl _ _).alloc _
  have k3 : Keeps (fun _ => False) w2 w3 := by rw [← h3]; exact (Keeps.refl _ _).alloc _
  have k4 : Keeps (fun _ => False) w3 w4 := by rw [← h4]; exact (Keeps.refl _ _).alloc _
  have k5 : Keeps (fun _ => False) w4 w5 := by rw [← h5]; exact (Keeps.refl _ _).alloc _
  have k6 : Keeps (fun _ => False) w5 w6 := by rw [← h6]; exact (Keeps.refl _ _).alloc _
  have k7 : Keeps (fun _ => False) w6 w7 := by rw [← h7]; exact (Keeps.refl _ _).alloc _
  have k8 : Keeps (fun _ => False) w7 w8 := by rw [← h8]; exact (Keeps.refl _ _).alloc _
  have k78 := k7.trans k8
  have k68 := k6.trans k78
  have k58 := k5.trans k68
  have k48 := k4.trans k58
  have k38 := k3.trans k48
  have k28 := k2.trans k38
  have no : ∀ {P : Prop}, False → P := fun h => h.elim
  have b1 : w1.heap[w.heap.size]? = some (.cells #[.pointer none] 114 (0, 0)) := by rw [← h1]; exact heap_alloc_new w _
  have b2 : w2.heap[w.heap.size + 1]? = some (.cells #[.pointer none] 114 (0, 0)) := by rw [← h2, ← z1]; exact heap_alloc_new w1 _
  have b3 : w3.heap[w.heap.size + 2]? = some (.cells #[.int .u32 0] 77 (0, 0)) := by rw [← h3, ← z2]; exact heap_alloc_new w2 _
  have b4 : w4.heap[w.heap.size + 3]? = some (.cells #[.bool false] 4 (0, 0)) := by rw [← h4, ← z3]; exact heap_alloc_new w3 _
  have b5 : GMap w.heap.size 173 3 (w.heap.size + 4) sarcC (fun _ => []) (fun k => k = w.heap.size + 4) w5 := by rw [← h5, ← z4]; exact GMap.made w4 _ _ _ _
  have b6 : GMap w.heap.size 173 3 (w.heap.size + 5) sarcC (fun _ => []) (fun k => k = w.heap.size + 5) w6 := by rw [← h6, ← z5]; exact GMap.made w5 _ _ _ _
  have b7 : Boxed w7 (w.heap.size + 6) 119 (.map (some (w.heap.size + 4))) := by rw [← h7, ← z6]; exact Boxed.new w6 _ _
  have b8 : Boxed w8 (w.heap.size + 7) 119 (.map (some (w.heap.size + 5))) := by rw [← h8, ← z7]; exact Boxed.new w7 _ _
  refine ⟨k1.trans k28, k28.heap b1 (fun h => h), k38.heap b2 (fun h => h), k48.heap b3 (fun h => h), k58.heap b4 (fun h => h), k8.heap b7 (fun h => h), b8, ?_, ?_, World.ownsRow_nil _ _ _ _, fun k hk => ?_, fun k hk => ?_, fun k hk => by simp [Value.ownBlock] at hk, fun k hk e => ?_⟩
  · rw [List.take_zero, nextG_nil]; exact b5.keeps k68 (fun _ _ h => h)
  · rw [List.take_zero, lastG_nil]; exact b6.keeps k78 (fun _ _ h => h)
  · subst hk; omega
  · subst hk; omega
  · omega

set_option maxRecDepth 100000 in
set_option maxHeartbeats 4000000 in
theorem meet_in (w : World) (b st g0 base : Nat) (v vl : Value) (ops : List Wop) (L : List Nat) (hw : WordsAt w base b st g0 v ops) (hops : WopsOk ops) (hmany : ops.length ≤ 40) (hg0 : g0 < 4294967296) (hsh : Shut ops L) (hfew : L.length ≤ 2000)
    (hL32 : ∀ x ∈ L, x < 4294967296) (hcost : ∀ o ∈ ops, 0 ≤ o.cost ∧ o.cost ≤ 100) (hst : st ∈ L) (hvl : Sl w vl L.length (L.map encW)) :
    CallsIn Fence.wide 9 Tryz.prog 74 #[.pointer (some ⟨b, 0, none⟩), vl] w (MeetPost ops L st (goalB g0) w) := by
  have hmm := @run_makeMap Tryz.prog
  obtain ⟨av, cv, hav, hmv⟩ := Sl.formN hvl
  subst hav
  have HW := Lib.hid hw; have HV := Lib.hid hvl; have HSH := Lib.hid hsh; have HL32 := Lib.hid hL32; have HCO := Lib.hid hcost; have HST := Lib.hid hst
  clear hw hvl hsh hL32 hcost hst
  refine callsIn_of_wp_marks Tryz.func74 rfl trivial ?_ rfl
  simp only [Tryz.ntmps74, List.size_toArray, List.length_cons, List.length_nil, Nat.reduceAdd, Nat.reduceSub, Array.replicate_succ, Array.replicate_zero, List.push_toArray, List.append_toArray, List.nil_append, List.cons_append]
  gi_wp2
  obtain ⟨i0, hi0, hz0, hz1, hz2⟩ := info_parts Tryz.info_barc
  have hmix : Tryz.prog.follows .mixedOrders = true := by kernel_rfl
  obtain ⟨W3, hW3⟩ : ∃ W3, ((((((((w.alloc (.cells #[.pointer none] 114)).alloc (.cells #[.pointer none] 114)).alloc (.cells #[.int .u32 0] 77)).alloc (.cells #[.bool false] 4)).alloc (.map #[] 0)).alloc (.map #[] 0)).alloc (.cells #[.map (some (w.heap.size + 1 + 1 + 1 + 1))] 119)).alloc (.cells #[.map (some (w.heap.size + 1 + 1 + 1 + 1 + 1))] 119)) = W3 := ⟨_, rfl⟩
  have HST1 : Hid (MSt w (nextG ops (L.take 0)) (lastG ops (L.take 0)) ((L.take 0).filter (goalB g0)) (.slice none 0 0) (fun k => k = w.heap.size + 4) (fun k => k = w.heap.size + 5) W3) := by
    rw [← hW3]
    refine mst_start w _
  rw [hW3, show w.heap.size + 1 + 1 + 1 + 1 + 1 + 1 + 1 = w.heap.size + 7 from rfl, show w.heap.size + 1 + 1 + 1 + 1 + 1 + 1 = w.heap.size + 6 from rfl, show w.heap.size + 1 + 1 + 1 + 1 + 1 = w.heap.size + 5 from rfl, show w.heap.size + 1 + 1 + 1 + 1 = w.heap.size + 4 from rfl, show w.heap.size + 1 + 1 + 1 = w.heap.size + 3 from rfl, show w.heap.size + 1 + 1 = w.heap.size + 2 from rfl]
  clear hW3
  refine wpIn_loop (fun a' wr => ∃ (ds : List Deferred) (i : Nat) (vg : Value), MLoop ops (goalB g0) L w vg i ds wr ∧ i ≤ L.length ∧
      ∃ u : Nat → Value, a' = { tmps := #[.pointer (some ⟨b, 0, none⟩), .slice av L.length cv, u 2, u 3, .pointer (some ⟨w.heap.size, 0, none⟩), .pointer (some ⟨w.heap.size + 1, 0, none⟩), .pointer (some ⟨w.heap.size + 2, 0, none⟩), .pointer (some ⟨w.heap.size + 3, 0, none⟩), .pointer (some ⟨w.heap.size + 6, 0, none⟩), .pointer (some ⟨w.heap.size + 7, 0, none⟩), vg, u 11, u 12, u 13, u 14, u 15, u 16, u 17, u 18, u 19, u 20, u 21, u 22, .slice av L.length cv, .int .i64 (L.length : Int), .int .i64 (i : Int), u 26, u 27, u 28, u 29, u 30, u 31, u 32, u 33, u 34, u 35, u 36, u 37, u 38, u 39, u 40, u 41, u 42, u 43, u 44, u 45, u 46, u 47, u 48, u 49, u 50, u 51, u 52, u 53, u 54, u 55, u 56, u 57, u 58, u 59, u 60, u 61, u 62, u 63, u 64, u 65, u 66, u 67, u 68, u 69, u 70, u 71, u 72, u 73, u 74, u 75, u 76, u 77, u 78, u 79, u 80, u 81, u 82, u 83, u 84, u 85, u 86, u 87, u 88, u 89, u 90, u 91, u 92, u 93, u 94, u 95, u 96, u 97, u 98, u 99, u 100, u 101, u 102, u 103, u 104, u 105, u 106, u 107, u 108, u 109, u 110, u 111, u 112, u 113, u 114, u 115, u 116, u 117, u 118, u 119, u 120, u 121, u 122, u 123, u 124, u 125, u 126, u 127, u 128, u 129, u 130], defers := ds })
    (fun a' _ => L.length - (intOf (a'.tmps.getD 25 undef)).toNat) ?start ?round
  case start => exact ⟨[], 0, _, ⟨⟨_, _, HST1.out⟩, Marks.nil _ _⟩, Nat.zero_le _, ex_fnD rfl⟩
  case round =>
    rintro a wo ⟨ds, i, vg, hL, hil, u, rfl⟩
    have HL := Lib.hid hL
    clear hL HST1
    obtain ⟨FN, FL, hst⟩ := HL.out.st
    have hlow : w.heap.size + 8 ≤ wo.heap.size := hst.size
    by_cases hlt : i < L.length
    · obtain ⟨bl, ol, rfl, hx'⟩ := Sl.cellN HV.out rfl (by omega)
      obtain ⟨s, hs⟩ : ∃ s, L[i]? = some s := ⟨_, List.getElem?_eq_getElem hlt⟩
      have hu := hst.keep.cell (hx' i (.int .u32 (s : Int)) (by rw [List.getElem?_map, hs]; rfl)) (fun h => h)
      have hs32 : s < 4294967296 := HL32.out s (List.mem_of_getElem? hs)
      have hnotin : s ∉ L.take i := fun h => by
        obtain ⟨j, hj⟩ := List.mem_iff_getElem?.1 h
        have hjl := (List.getElem?_eq_some_iff.1 hj).1
        rw [List.length_take] at hjl
        rw [List.getElem?_take_of_lt (by omega)] at hj
        have := nodup_ix HSH.out.1 hj hs
        omega
      have htk : L.take (i + 1) = L.take i ++ [s] := take_getS hs
      have kA := (Keeps.refl (fun _ => False) wo).alloc (.cells #[.int .u32 (s : Int)] 77)
      have HS2 := Lib.hid (hst.keeps0 kA)
      have HB9 := Lib.hid (heap_alloc_new wo (.cells #[.int .u32 (s : Int)] 77))
      have HM2 := Lib.hid (HL.out.marks.keeps (KeepsD.of0 kA))
      have c9 : (wo.alloc (.cells #[.int .u32 (s : Int)] 77)).cell? ⟨wo.heap.size, 0, none⟩ = some (.int .u32 (s : Int)) := by rw [cell_of_blk HB9.out]; rfl
      have HN9 := Lib.hid (show ∀ k, FN k ∨ FL k → k ≠ wo.heap.size from fun k hk => by
        rcases hk with h | h
        · have := (hst.lN k h).2.1; omega
        · have := (hst.lL k h).2.1; omega)
      have HG9 := Lib.hid (show ∀ k, vg.ownBlock = some k → k ≠ wo.heap.size from fun k hk => by have := (hst.lG k hk).2.1; omega)
      have HTK := Lib.hid htk; have HNI := Lib.hid hnotin; have HSI := Lib.hid hs
      clear hx' hs hnotin htk kA hst
      gi_wp2
      refine ⟨trivial, ?_⟩
      refine (callsIn_wide.2 (goal_any _ base b st g0 s v ops (HW.out.keeps0 HS2.out.keep))).mono ?_; rintro e w3 ⟨rfl, q, rfl⟩
      rw [goal_bits hs32 hg0]
      have kq := (Keeps.refl (fun _ => False) (wo.alloc (.cells #[.int .u32 (s : Int)] 77))).drewN q
      have HS3 := Lib.hid (HS2.out.keeps0 kq); have HB3 := Lib.hid (kq.heap HB9.out (fun h => h)); have HM3 := Lib.hid (HM2.out.keeps (KeepsD.of0 kq))
      clear kq HS2 HB9 HM2 c9 hu
      generalize (wo.alloc (.cells #[.int .u32 (s : Int)] 77)).drewN q = Wq at HS3 HB3 HM3 ⊢
      generalize hbb : wo.heap.size = b9 at HB3 HN9 HG9 ⊢
      have c9 : Wq.cell? ⟨b9, 0, none⟩ = some (.int .u32 (s : Int)) := by rw [cell_of_blk HB3.out]; rfl
      have l9 := lt_of_heap HB3.out
      have hb98 : w.heap.size + 8 ≤ b9 := by omega
      clear hbb
      have hfl := List.length_filter_le (goalB g0) (L.take i)
      rw [List.length_take] at hfl
      have hgr := HS3.out.goals
      obtain ⟨ag, cg, hvg⟩ := ownsRow_form1 hgr
      have hfl2 : ((L.take i).filter (goalB g0)).length ≤ 2000 := by omega
      cases hacc : goalB g0 s
      case' true =>
        have HGR := Lib.hid (World.ownsRow.alloc hgr (.cells #[.int .u32 (s : Int)] 77))
        obtain ⟨j0, hj0, hy0, hy1, hy2⟩ := info_parts Tryz.info_u32
        subst hvg
        clear hgr
        gi_wp2_with (gi_at_builtin; refine wpListIn_append_lies _ rfl (.tmp 32) (.tmp 34) 67 rfl w.heap.size 77 j0 _ 1 4 Tryz.underlying67 hj0 hy0 hy1 hy2 rfl (by omega) _ ((L.take i).filter (goalB g0)).length (((L.take i).filter (goalB g0)).map encW) rfl HGR.out ⟨Wq.heap.size, 0, none⟩ 1 1 [.int .u32 (s : Int)] rfl rfl ?hnewsG ?honeG (by omega) (by unfold maxLen; omega) (by omega) (by simp; omega) (Wq.heap.size + 1) (by simp) ?_)
        case hnewsG => exact World.news_of_block (cs := #[.int .u32 (s : Int)]) (t := 77) (fr := (0, 0)) (heap_alloc_new Wq _)
        case honeG => simp [Value.oneCell']
        intro g4 cap4 Wg hown2 hgrow2 hat2 hlt4
        have KG : Keeps (fun k => (Value.slice ag ((L.take i).filter (goalB g0)).length cg).ownBlock = some k) Wq Wg := ((Keeps.refl _ Wq).alloc _).grown hgrow2 (fun k hk => .inl hk)
        have HSN := Lib.hid (show MSt w (nextG ops (L.take i)) (lastG ops (L.take i)) ((L.take (i + 1)).filter (goalB g0)) (.slice (some ⟨g4, 0, none⟩) (((L.take i).filter (goalB g0)).length + 1) cap4) FN FL Wg from HS3.out.goaled (by
            rw [HTK.out, List.filter_append, List.map_append, List.length_append]
            simp only [List.filter_cons, hacc, if_true, List.filter_nil, List.length_cons, List.length_nil, List.map_cons, List.map_nil]
            exact hown2) (fun k hk => by
            simp [Value.ownBlock] at hk
            subst hk
            rcases hat2 with h | h
            · exact .inl h
            · exact .inr (by omega)) KG)
        have HMN := Lib.hid (HM3.out.keeps (KeepsD.of KG (fun k hk => row_not_deferred HS3.out.goals k hk)))
        have HBN := Lib.hid (KG.heap HB3.out (fun e => HG9.out _ e rfl))
        have c9g : Wg.cell? ⟨b9, 0, none⟩ = some (.int .u32 (s : Int)) := by rw [cell_of_blk HBN.out]; rfl
        have l9g := lt_of_heap HBN.out
        clear hown2 hgrow2 hat2 hlt4 KG HS3 HM3 HB3 c9 l9 HGR HG9
        gi_wp2
        clear c9g l9g
        generalize (Value.slice (some ⟨g4, 0, none⟩) (((L.take i).filter (goalB g0)).length + 1) cap4) = vg2 at HSN ⊢
        generalize Wg = Wn at HSN HMN HBN ⊢
      case' false =>
        have HSN : Hid (MSt w (nextG ops (L.take i)) (lastG ops (L.take i)) ((L.take (i + 1)).filter (goalB g0)) vg FN FL Wq) := by
          rw [HTK.out, List.filter_append]
          simp only [List.filter_cons, hacc, Bool.false_eq_true, if_false, List.filter_nil, List.append_nil]
          exact HS3
        have HMN := HM3
        have HBN := HB3
        clear HS3 HM3 HB3 hvg
        gi_wp2
        clear c9 l9 hgr
        generalize vg = vg2 at HSN ⊢
        generalize Wq = Wn at HSN HMN HBN ⊢
      all_goals
        have HS5 := HSN
        clear HSN
        refine ⟨trivial, ?_⟩
        refine (callsIn_wide.2 (steps_any Wn b s)).mono ?_; rintro en w5 ⟨rfl, rfl⟩
        gi_wp2
        obtain ⟨W6, hW6⟩ : ∃ W6, ((Wn.alloc (.cells #[.pointer (some ⟨b, 0, none⟩)] 66)).alloc (.cells #[.int .u32 (s : Int)] 77)) = W6 := ⟨_, rfl⟩
        have hz6 : W6.heap.size = Wn.heap.size + 1 + 1 := by rw [← hW6]; simp
        have k6 : Keeps (fun _ => False) Wn W6 := by rw [← hW6]; exact ((Keeps.refl _ _).alloc _).alloc _
        have hBw : W6.cell? ⟨Wn.heap.size, 0, none⟩ = some (.pointer (some ⟨b, 0, none⟩)) := by
          rw [← hW6]; exact ((Boxed.new Wn _ _).alloc _).cell
        have hBs : W6.heap[Wn.heap.size + 1]? = some (.cells #[.int .u32 (s : Int)] 77 (0, 0)) := by
          rw [← hW6]
          have := heap_alloc_new (Wn.alloc (.cells #[.pointer (some ⟨b, 0, none⟩)] 66)) (.cells #[.int .u32 (s : Int)] 77)
          rwa [World.size_alloc] at this
        have hBsc : W6.cell? ⟨Wn.heap.size + 1, 0, none⟩ = some (.int .u32 (s : Int)) := by rw [cell_of_blk hBs]; rfl
        rw [hW6]
        have hlow4 : w.heap.size + 8 ≤ Wn.heap.size := HS5.out.size
        have HG0 := Lib.hid (show ∀ k, FN k ∨ FL k → k ≠ Wn.heap.size + 1 from fun k hk => by
          rcases hk with h | h
          · have := (HS5.out.lN k h).2.1; omega
          · have := (HS5.out.lL k h).2.1; omega)
        have HA6 := Lib.hid (HS5.out.keeps0 k6)
        have HM6 := Lib.hid (HMN.out.keeps (KeepsD.of0 k6))
        have HB96 := Lib.hid (k6.heap HBN.out (fun h => h))
        have HWW := Lib.hid (show ∃ w0 : World, WordsAt w0 base b st g0 v ops ∧ w0.heap.size ≤ w.heap.size ∧ Below w.heap.size w0 W6 from ⟨w, HW.out, Nat.le_refl _, HA6.out.keep.below⟩)
        have HBS := Lib.hid hBs
        have HWL := Lib.hid (show (wsteps ops s).length ≤ 40 from Nat.le_trans (wsteps_le ops s) hmany)
        have hb6 : w.heap.size + 8 ≤ W6.heap.size := by omega
        have hb96 : b9 < W6.heap.size := lt_of_heap HB96.out
        have HBL := Lib.hid (show ∀ y, (lastG ops (L.take i) y).length ≤ 80000 from fun y => by
          have h1 := lastG_len hmany (L.take i) y
          rw [List.length_take] at h1; omega)
        clear hBs HMN HBN HS5 k6
        refine wpIn_rangeFunc_ownH (α := StpOf ops s) rfl (by omega) (gf := 135) (lb := #[.pointer (some ⟨Wn.heap.size, 0, none⟩), .pointer (some ⟨Wn.heap.size + 1, 0, none⟩)]) rfl trivial (enters_of Tryz.func135 (by kernel_rfl) rfl)
          (steps_stops Fence.wide 8 trivial rfl (by omega) Wn.heap.size (Wn.heap.size + 1) w.heap.size base b st g0 s v ops hops (by omega) hs32 W6 (by omega) hBw hBsc (by omega) (by omega) HWW.out)
          KpS.trans (kpS_b (by omega) (by omega)) (Below.refl _ _) (fun _ => rfl)
          (fun pre W => MI w (nextG ops (L.take i)) (lastG ops (L.take i)) ((L.take (i + 1)).filter (goalB g0)) vg2 s ds (Wn.heap.size + 1) b9 (pre.map fun y => y.1) W)
          (fun _ _ _ => False) ?_ (fun _ _ _ _ _ hs _ _ => hs) ?_
          (fun (y : StpOf ops s) (a' : Act) (W : World) => ∃ Bx : Nat, W.heap[Bx]? = some (Obj.cells #[.int .i64 (y.1.op : Int), .int .i64 y.1.cost, .int .u32 (y.1.to : Int)] 156 (0, 0)) ∧ ∃ u : Nat → Value, a' = { tmps := #[.pointer (some ⟨b, 0, none⟩), .slice (some ⟨bl, ol, none⟩) L.length cv, u 2, u 3, .pointer (some ⟨w.heap.size, 0, none⟩), .pointer (some ⟨w.heap.size + 1, 0, none⟩), .pointer (some ⟨w.heap.size + 2, 0, none⟩), .pointer (some ⟨w.heap.size + 3, 0, none⟩), .pointer (some ⟨w.heap.size + 6, 0, none⟩), .pointer (some ⟨w.heap.size + 7, 0, none⟩), u 10, u 11, .pointer (some ⟨b9, 0, none⟩), .pointer (some ⟨Bx, 0, none⟩), u 14, u 15, u 16, u 17, u 18, u 19, u 20, u 21, u 22, u 23, u 24, u 25, u 26, u 27, u 28, u 29, u 30, u 31, u 32, u 33, u 34, u 35, u 36, u 37, u 38, u 39, u 40, u 41, u 42, u 43, u 44, u 45, u 46, u 47, u 48, u 49, u 50, u 51, u 52, u 53, u 54, u 55, u 56, u 57, u 58, u 59, u 60, u 61, u 62, u 63, u 64, u 65, u 66, u 67, u 68, u 69, u 70, u 71, u 72, u 73, u 74, u 75, u 76, u 77, u 78, u 79, u 80, u 81, u 82, u 83, u 84, u 85, u 86, u 87, u 88, u 89, u 90, u 91, u 92, u 93, u 94, u 95, u 96, u 97, u 98, u 99, u 100, u 101, u 102, u 103, u 104, u 105, u 106, u 107, u 108, u 109, u 110, u 111, u 112, u 113, u 114, u 115, u 116, u 117, u 118, u 119, u 120, u 121, u 122, u 123, u 124, u 125, u 126, u 127, u 128, u 129, u 130], defers := [] }) ?_ ?_ ?_ ?_ ?_
        · intro l W W' row hs hg hr
          obtain ⟨FN', FL', h1, h2, h3, h4, h5⟩ := hs
          exact ⟨FN', FL', h1.steady hg hr hb6, Marks.steady HM6.out h2 hg hr, steady_heap hg (fun r e => (hr r e).2) h3, steady_heap hg (fun r e => (hr r e).2) h4, h5⟩
        · exact ⟨FN, FL, by simpa [addN_nil, addL_nil] using HA6.out, HM6.out, HBS.out, HB96.out, fun k hk => ⟨HG0.out k hk, HN9.out k hk⟩⟩
        · intro y a' _ W W' row hs hg hr
          obtain ⟨Bx, h1, h2⟩ := hs
          exact ⟨Bx, steady_heap hg (fun r e => (hr r e).2) h1, h2⟩
        · intro l pre y W K hi hK
          simp only [Stp.val]
          gi_wp2
          obtain ⟨FN', FL', h1, h2, h3, h4, h5⟩ := hi
          exact hK _ _ ((KeepsOthers.alloc _ _).from _) ((KpS.refl _ _ W).alloc h1.keep.size (lt_of_heap h3) _) ⟨FN', FL', h1.keeps0 ((Keeps.refl _ _).alloc _), h2.keeps (KeepsD.of0 ((Keeps.refl _ _).alloc _)), ((Keeps.refl (fun _ => False) W).alloc _).heap h3 (fun h => h), ((Keeps.refl (fun _ => False) W).alloc _).heap h4 (fun h => h), h5⟩ ⟨W.heap.size, heap_alloc_new W _, ex_fnD rfl⟩
        · rintro l pre y a' W hl - ⟨FN', FL', h1, h2, h3, h4, h5⟩ ⟨Bx, hBx, u', rfl⟩ hlt2
          obtain ⟨o, hoi, hoc, hcc, hto⟩ := wsteps_mem.1 y.2
          have hcst := HCO.out o (List.mem_of_getElem? hoi)
          rw [← hcc] at hcst
          clear hoi hoc hcc hto
          have y1 : W.cell? ⟨Bx, 1, none⟩ = some (.int .i64 y.1.cost) := by rw [cell_of_blk hBx]; rfl
          have hBxl := lt_of_heap hBx
          have H1 := Lib.hid h1; have H2 := Lib.hid h2; have H3 := Lib.hid h3; have H4 := Lib.hid h4; have H5 := Lib.hid h5; have HBX := Lib.hid hBx
          clear h1 h2 h3 h4 h5 hBx
          gi_wp2
          refine ⟨trivial, ?_⟩
          refine (CallsIn.inRound l (callsIn_wide.2 (bprice_any W y.1.cost ⟨hcst.1, by omega⟩))).mono ?_; rintro en w7 ⟨rfl, rfl⟩
          clear y1
          gi_wp2
          have x8c := H1.out.x8.cell
          have c9 : W.cell? ⟨b9, 0, none⟩ = some (.int .u32 (s : Int)) := by rw [cell_of_blk H4.out]; rfl
          have y0 : W.cell? ⟨Bx, 0, none⟩ = some (.int .i64 (y.1.op : Int)) := by rw [cell_of_blk HBX.out]; rfl
          have y2 : W.cell? ⟨Bx, 2, none⟩ = some (.int .u32 (y.1.to : Int)) := by rw [cell_of_blk HBX.out]; rfl
          have l9 := lt_of_heap H4.out
          have KD := (Keeps.refl (fun _ => False) W).drew
          obtain ⟨va, ⟨ml, hml, hlk⟩, hown, hvG, hturn⟩ := (H1.out.keeps0 KD).next.turn (P := Tryz.prog) Tryz.underlying119 Tryz.underlying77 (show (zeroValue 171).run Tryz.prog W.drew = .ok (.slice none 0 0) W.drew by kernel_rfl) s
          have HLK := Lib.hid (show ∀ W', IMap W' (w.heap.size + 4) .u32 ml → (Instr.lookup 119 (.map (some (w.heap.size + 4))) (.int .u32 (s : Int)) false).run Tryz.prog W' = .ok va W' from fun W' h => hlk W' h (by kernel_rfl))
          have hnb : (addN (nextG ops (L.take i)) s (pre.map fun y => y.1) s).length ≤ 80080 := by
            have e1 := addN_len (nextG ops (L.take i)) s (pre.map fun y => y.1) s
            have e2 := nextG_len hmany (L.take i) s
            have e3 := HWL.out
            rw [List.length_map] at e1
            omega
          have HROW := Lib.hid (World.ownsRow.alloc hown (.cells #[.int .i64 (y.1.op : Int), .int .i64 (4096 * y.1.cost + 1), .int .u32 (y.1.to : Int)] 173))
          have hbase := H1.out.keep.size
          have HVX := Lib.hid (show ∀ k, va.ownBlock = some k → k ≠ Bx from fun k hk e => by
            subst e
            rcases hown.2 with ⟨e', _⟩ | ⟨g, cap, cur, e', _, hg, _⟩
            · rw [e'] at hk; simp [Value.ownBlock] at hk
            · rw [e'] at hk; simp [Value.ownBlock] at hk
              subst hk
              have h := (show W.drew.heap[g]? = _ from hg).symm.trans (show W.drew.heap[g]? = _ from KD.heap HBX.out (fun h => h))
              simp at h)
          have HVG := Lib.hid (show ∀ k, va.ownBlock = some k → FN' k ∨ FL' k from fun k hk => .inl (hvG k hk).1)
          have HVM := Lib.hid (show ∀ k, va.ownBlock = some k → k ≠ w.heap.size + 4 from fun k hk => (hvG k hk).2)
          have HV8 := Lib.hid (show ∀ k, va.ownBlock = some k → k ≠ w.heap.size + 6 from fun k hk => (H1.out.lN k (hvG k hk).1).2.2.2.1)
          have HVN := Lib.hid (show ∀ k, va.ownBlock = some k → FN' k from fun k hk => (hvG k hk).1)
          have HOW := Lib.hid hown; have HT := Lib.hid hturn; have HML := Lib.hid hml
          clear hown hturn hml hlk hvG KD
          generalize hnn : (addN (nextG ops (L.take i)) s (pre.map fun y => y.1) s).length = nb at hnb HROW HOW HT
          generalize hxx : (addN (nextG ops (L.take i)) s (pre.map fun y => y.1) s).flatMap sarcC = xs at HROW HOW HT
          refine wpIn_region_held (fun W => W.cell? ⟨w.heap.size + 6, 0, none⟩ = some (.map (some (w.heap.size + 4))) ∧ W.cell? ⟨b9, 0, none⟩ = some (.int .u32 (s : Int)) ∧ W.cell? ⟨Bx, 0, none⟩ = some (.int .i64 (y.1.op : Int)) ∧ W.cell? ⟨Bx, 2, none⟩ = some (.int .u32 (y.1.to : Int)) ∧ IMap W (w.heap.size + 4) .u32 ml ∧ b9 < W.heap.size) (fun j => decide (13 ≤ j)) hmix ?_
          have HS0 : Hid (W.drew.cell? ⟨w.heap.size + 6, 0, none⟩ = some (.map (some (w.heap.size + 4))) ∧ W.drew.cell? ⟨b9, 0, none⟩ = some (.int .u32 (s : Int)) ∧ W.drew.cell? ⟨Bx, 0, none⟩ = some (.int .i64 (y.1.op : Int)) ∧ W.drew.cell? ⟨Bx, 2, none⟩ = some (.int .u32 (y.1.to : Int)) ∧ IMap W.drew (w.heap.size + 4) .u32 ml ∧ b9 < W.drew.heap.size) := ⟨x8c, c9, y0, y2, HML.out, l9⟩
          refine wpAnyHIn_take (Wide.wide.inRound l) 0 (.map (some (w.heap.size + 4))) rfl (by kernel_rfl) (by kernel_rfl) (by kernel_rfl) (by kernel_rfl) (by kernel_rfl) (fun _ _ _ h => h) HS0.out ?_ rfl ?_
          · rintro W ⟨s1, s2, s3, s4, s5, s6⟩; go_simp
          refine wpAnyHIn_take (Wide.wide.inRound l) 1 (.int .u32 (s : Int)) rfl (by kernel_rfl) (by kernel_rfl) (by kernel_rfl) (by kernel_rfl) (by kernel_rfl) (fun _ _ _ h => h) HS0.out ?_ rfl ?_
          · rintro W ⟨s1, s2, s3, s4, s5, s6⟩; go_simp
          refine wpAnyHIn_take (Wide.wide.inRound l) 2 (.map (some (w.heap.size + 4))) rfl (by kernel_rfl) (by kernel_rfl) (by kernel_rfl) (by kernel_rfl) (by kernel_rfl) (fun _ _ _ h => h) HS0.out ?_ rfl ?_
          · rintro W ⟨s1, s2, s3, s4, s5, s6⟩; go_simp
          refine wpAnyHIn_take (Wide.wide.inRound l) 3 (.int .u32 (s : Int)) rfl (by kernel_rfl) (by kernel_rfl) (by kernel_rfl) (by kernel_rfl) (by kernel_rfl) (fun _ _ _ h => h) HS0.out ?_ rfl ?_
          · rintro W ⟨s1, s2, s3, s4, s5, s6⟩; go_simp
          refine wpAnyHIn_take (Wide.wide.inRound l) 4 (va) rfl (by kernel_rfl) (by kernel_rfl) (by kernel_rfl) (by kernel_rfl) (by kernel_rfl) (fun _ _ _ h => h) HS0.out ?_ rfl ?_
          · rintro W ⟨s1, s2, s3, s4, s5, s6⟩; have sl := HLK.out W s5; go_simp
          refine wpAnyHIn_take (Wide.wide.inRound l) 5 (.pointer (some ⟨Bx, 0, none⟩)) rfl (by kernel_rfl) (by kernel_rfl) (by kernel_rfl) (by kernel_rfl) (by kernel_rfl) (fun _ _ _ h => h) HS0.out ?_ rfl ?_
          · rintro W ⟨s1, s2, s3, s4, s5, s6⟩; go_simp
          refine wpAnyHIn_take (Wide.wide.inRound l) 6 (.int .i64 (y.1.op : Int)) rfl (by kernel_rfl) (by kernel_rfl) (by kernel_rfl) (by kernel_rfl) (by kernel_rfl) (fun _ _ _ h => h) HS0.out ?_ rfl ?_
          · rintro W ⟨s1, s2, s3, s4, s5, s6⟩; go_simp
          refine wpAnyHIn_take (Wide.wide.inRound l) 7 (.int .i64 (4096 * y.1.cost + 1)) rfl (by kernel_rfl) (by kernel_rfl) (by kernel_rfl) (by kernel_rfl) (by kernel_rfl) (fun _ _ _ h => h) HS0.out ?_ rfl ?_
          · rintro W ⟨s1, s2, s3, s4, s5, s6⟩; go_simp
          refine wpAnyHIn_take (Wide.wide.inRound l) 8 (.pointer (some ⟨Bx, 2, none⟩)) rfl (by kernel_rfl) (by kernel_rfl) (by kernel_rfl) (by kernel_rfl) (by kernel_rfl) (fun _ _ _ h => h) HS0.out ?_ rfl ?_
          · rintro W ⟨s1, s2, s3, s4, s5, s6⟩; go_simp
          refine wpAnyHIn_take (Wide.wide.inRound l) 9 (.int .u32 (y.1.to : Int)) rfl (by kernel_rfl) (by kernel_rfl) (by kernel_rfl) (by kernel_rfl) (by kernel_rfl) (fun _ _ _ h => h) HS0.out ?_ rfl ?_
          · rintro W ⟨s1, s2, s3, s4, s5, s6⟩; go_simp
          refine wpAnyHIn_take (Wide.wide.inRound l) 10 (.agg #[.int .i64 (y.1.op : Int), .int .i64 (4096 * y.1.cost + 1), .int .u32 (y.1.to : Int)]) rfl (by kernel_rfl) (by kernel_rfl) (by kernel_rfl) (by kernel_rfl) (by kernel_rfl) (fun _ _ _ h => h) HS0.out ?_ rfl ?_
          · rintro W ⟨s1, s2, s3, s4, s5, s6⟩; go_simp
          have KA := (Keeps.refl (fun _ => False) W.drew).alloc (.cells #[.int .i64 (y.1.op : Int), .int .i64 (4096 * y.1.cost + 1), .int .u32 (y.1.to : Int)] 173)
          have HS1 : Hid ((W.drew.alloc (.cells #[.int .i64 (y.1.op : Int), .int .i64 (4096 * y.1.cost + 1), .int .u32 (y.1.to : Int)] 173)).cell? ⟨w.heap.size + 6, 0, none⟩ = some (.map (some (w.heap.size + 4))) ∧ (W.drew.alloc (.cells #[.int .i64 (y.1.op : Int), .int .i64 (4096 * y.1.cost + 1), .int .u32 (y.1.to : Int)] 173)).cell? ⟨b9, 0, none⟩ = some (.int .u32 (s : Int)) ∧ (W.drew.alloc (.cells #[.int .i64 (y.1.op : Int), .int .i64 (4096 * y.1.cost + 1), .int .u32 (y.1.to : Int)] 173)).cell? ⟨Bx, 0, none⟩ = some (.int .i64 (y.1.op : Int)) ∧ (W.drew.alloc (.cells #[.int .i64 (y.1.op : Int), .int .i64 (4096 * y.1.cost + 1), .int .u32 (y.1.to : Int)] 173)).cell? ⟨Bx, 2, none⟩ = some (.int .u32 (y.1.to : Int)) ∧ IMap (W.drew.alloc (.cells #[.int .i64 (y.1.op : Int), .int .i64 (4096 * y.1.cost + 1), .int .u32 (y.1.to : Int)] 173)) (w.heap.size + 4) .u32 ml ∧ b9 < (W.drew.alloc (.cells #[.int .i64 (y.1.op : Int), .int .i64 (4096 * y.1.cost + 1), .int .u32 (y.1.to : Int)] 173)).heap.size) := by
            obtain ⟨s1, s2, s3, s4, s5, s6⟩ := HS0.out
            exact ⟨KA.cell s1 (fun h => h), KA.cell s2 (fun h => h), KA.cell s3 (fun h => h), KA.cell s4 (fun h => h), s5.keeps KA (fun h => h), Nat.lt_of_lt_of_le s6 KA.size⟩
          clear x8c c9 y0 y2
          refine wpAnyHIn_one 11 rfl (by kernel_rfl) rfl (fun K hK => ?_)
          go_simp
          refine hK _ _ (fun _ => HS1.out) ?_
          clear hK K
          refine wpAnyHIn_one 12 rfl (by kernel_rfl) rfl (fun K hK => ?_)
          refine Oper.wpIn_append_lies _ (.tmp 47) (.tmp 54) 171 rfl w.heap.size 173 i0 _ 3 24 Tryz.underlying171 hi0 hz0 hz1 hz2 rfl (by omega) va nb xs rfl HROW.out ⟨W.heap.size, 0, none⟩ 1 1 [.int .i64 (y.1.op : Int), .int .i64 (4096 * y.1.cost + 1), .int .u32 (y.1.to : Int)] rfl rfl ?hnews ?hone (by omega) (by unfold maxLen; omega) (by omega) (by simp; omega) (W.heap.size + 1) (by simp) ?_
          case hnews => exact World.news_of_block (cs := #[.int .i64 (y.1.op : Int), .int .i64 (4096 * y.1.cost + 1), .int .u32 (y.1.to : Int)]) (t := 173) (fr := (0, 0)) (heap_alloc_new W.drew _)
          case hone => simp [Value.oneCell']
          intro g4 cap4 W3 hown2 hgrow2 hat2 hlt4
          obtain ⟨W4, hrunU, hG4, hk4⟩ := HT.out (W.drew.alloc (.cells #[.int .i64 (y.1.op : Int), .int .i64 (4096 * y.1.cost + 1), .int .u32 (y.1.to : Int)] 173)) W3 _ (arcOf y.1) ((Keeps.refl _ _).alloc _) hgrow2 hown2 (fun g hg => by
            simp [Value.ownBlock] at hg
            subst hg
            rcases hat2 with h | h
            · exact .inl h
            · exact .inr (by simp; omega))
          have k3 : Keeps (fun k => va.ownBlock = some k) (W.drew.alloc (.cells #[.int .i64 (y.1.op : Int), .int .i64 (4096 * y.1.cost + 1), .int .u32 (y.1.to : Int)] 173)) W3 := (Keeps.refl _ _).grown hgrow2 (fun k hk => .inl hk)
          have n9 : ¬ va.ownBlock = some b9 := fun e => (H5.out _ (HVG.out _ e)).2 rfl
          have nx : ¬ va.ownBlock = some Bx := fun e => HVX.out _ e rfl
          have nm : ¬ va.ownBlock = some (w.heap.size + 4) := fun e => HVM.out _ e rfl
          have n8 : ¬ va.ownBlock = some (w.heap.size + 6) := fun e => HV8.out _ e rfl
          have HS3 : Hid (W3.cell? ⟨w.heap.size + 6, 0, none⟩ = some (.map (some (w.heap.size + 4))) ∧ W3.cell? ⟨b9, 0, none⟩ = some (.int .u32 (s : Int)) ∧ W3.cell? ⟨Bx, 0, none⟩ = some (.int .i64 (y.1.op : Int)) ∧ W3.cell? ⟨Bx, 2, none⟩ = some (.int .u32 (y.1.to : Int)) ∧ IMap W3 (w.heap.size + 4) .u32 ml ∧ b9 < W3.heap.size) := by
            obtain ⟨s1, s2, s3, s4, s5, s6⟩ := HS1.out
            exact ⟨k3.cell s1 n8, k3.cell s2 n9, k3.cell s3 nx, k3.cell s4 nx, s5.keeps k3 nm, Nat.lt_of_lt_of_le s6 k3.size⟩
          have HKF := Lib.hid (show Keeps (fun k => va.ownBlock = some k ∨ k = w.heap.size + 4) W W4 from (((Keeps.refl (fun _ => False) W).drew.mono (fun _ _ h => h.elim)).trans (KA.mono (fun _ _ h => h.elim))).trans ((k3.mono (fun _ _ h => .inl h)).trans (hk4.mono (fun _ _ h => .inr h))))
          have HG4 := Lib.hid hG4; have HRU := Lib.hid hrunU
          clear hown2 hgrow2 hat2 hlt4 hG4 k3 n9 nx nm n8 KA HS1 hk4 hrunU
          refine hK _ _ (fun _ => HS3.out) ?_
          clear hK K
          have hrunU := HRU.out
          refine wpAnyHIn_one 13 rfl (by kernel_rfl) rfl (fun K hK => ?_)
          go_simp
          refine hK _ _ (fun h => by simp at h) ?_
          clear hK K hrunU HRU HS3 HS0
          refine wpAnyHIn_done (by kernel_rfl) ?_
          skip
          gi_wp2
          have HSG := Lib.hid (show ∀ k, (va.ownBlock = some k ∨ k = w.heap.size + 4) → FN' k from fun k hs => by
            rcases hs with h | rfl
            · exact HVN.out k h
            · exact H1.out.next.fmap)
          have HSD := Lib.hid (show ∀ k, (va.ownBlock = some k ∨ k = w.heap.size + 4) → W.heap[k]? ≠ some (.deferred (some [])) from fun k hs => by
            rcases hs with h | rfl
            · exact (show W.drew.heap[k]? ≠ _ from row_not_deferred HOW.out k h)
            · exact (show W.drew.heap[w.heap.size + 4]? ≠ _ from map_not_deferred HML.out))
          have HSC := Lib.hid (show ∀ k (o : Obj), (va.ownBlock = some k ∨ k = w.heap.size + 4) → W6.heap.size ≤ k → W.heap[k]? = some o → o.isCells = false → False from fun k o hs hB hk0 hc => by
            rcases hs with h | rfl
            · rcases HOW.out.2 with ⟨e', _⟩ | ⟨g, cap, cur, e', _, hg, _⟩
              · rw [e'] at h; simp [Value.ownBlock] at h
              · rw [e'] at h; simp [Value.ownBlock] at h
                subst h
                rw [show W.heap[g]? = _ from hg] at hk0; cases hk0; cases hc
            · omega)
          have HSGb := HSG
          have s9 : ¬ (va.ownBlock = some b9 ∨ b9 = w.heap.size + 4) := fun hs => (H5.out _ (.inl (HSG.out _ hs))).2 rfl
          have ss : ¬ (va.ownBlock = some (Wn.heap.size + 1) ∨ Wn.heap.size + 1 = w.heap.size + 4) := fun hs => (H5.out _ (.inl (HSG.out _ hs))).1 rfl
          have sx : ¬ (va.ownBlock = some Bx ∨ Bx = w.heap.size + 4) := fun hs => by
            rcases hs with h | h
            · exact HVX.out _ h rfl
            · have := H1.out.next
              obtain ⟨lx, gx, _⟩ := this
              obtain ⟨es, c, hb, _⟩ := gx.map
              rw [← h, HBX.out] at hb; cases hb
          have HSS := Lib.hid ss
          have H1b := Lib.hid (show MSt w (addN (nextG ops (L.take i)) s ((pre ++ [y]).map fun y => y.1)) (addL (lastG ops (L.take i)) s (pre.map fun y => y.1)) ((L.take (i + 1)).filter (goalB g0)) vg2 (fun k => k < W4.heap.size ∧ (FN' k ∨ W.drew.heap.size ≤ k)) FL' W4 from by
            have e1 : addN (nextG ops (L.take i)) s ((pre ++ [y]).map fun y => y.1) = fun z => if z = s then addN (nextG ops (L.take i)) s (pre.map fun y => y.1) s ++ [arcOf y.1] else addN (nextG ops (L.take i)) s (pre.map fun y => y.1) z := by rw [List.map_append]; exact addN_snoc _ _ _ _
            rw [e1]
            exact H1.out.nexted HG4.out (fun k h => h) HKF.out HSG.out)
          have H2b := Lib.hid (H2.out.keeps (KeepsD.of HKF.out HSD.out))
          have H3b := Lib.hid (HKF.out.heap H3.out ss)
          have H4b := Lib.hid (HKF.out.heap H4.out s9)
          have HBXb := Lib.hid (HKF.out.heap HBX.out sx)
          have hWW : W.heap.size ≤ W4.heap.size := HKF.out.size
          have H52 := Lib.hid (show ∀ k, (k < W4.heap.size ∧ (FN' k ∨ W.drew.heap.size ≤ k)) ∨ FL' k → k ≠ Wn.heap.size + 1 ∧ k ≠ b9 from fun k hk => by
            rcases hk with ⟨_, h | h⟩ | h
            · exact H5.out k (.inl h)
            · have h1 := lt_of_heap H3.out
              have h2 := lt_of_heap H4.out
              have h3 : W.heap.size ≤ k := h
              exact ⟨by omega, by omega⟩
            · exact H5.out k (.inr h))
          clear s9 ss sx HG4 HVX HVG HVM HV8 HVN HROW HOW HML HLK HT HSG
          have x9c := H1b.out.x9.cell
          have c9 : W4.cell? ⟨b9, 0, none⟩ = some (.int .u32 (s : Int)) := by rw [cell_of_blk H4b.out]; rfl
          have y0 : W4.cell? ⟨Bx, 0, none⟩ = some (.int .i64 (y.1.op : Int)) := by rw [cell_of_blk HBXb.out]; rfl
          have y2 : W4.cell? ⟨Bx, 2, none⟩ = some (.int .u32 (y.1.to : Int)) := by rw [cell_of_blk HBXb.out]; rfl
          have l9 := lt_of_heap H4b.out
          have KD := (Keeps.refl (fun _ => False) W4).drew
          obtain ⟨vb, ⟨ml2, hml, hlk⟩, hown, hvG, hturn⟩ := (H1b.out.keeps0 KD).last.turn (P := Tryz.prog) Tryz.underlying119 Tryz.underlying77 (show (zeroValue 171).run Tryz.prog W4.drew = .ok (.slice none 0 0) W4.drew by kernel_rfl) y.1.to
          have HLK2 := Lib.hid (show ∀ W', IMap W' (w.heap.size + 5) .u32 ml2 → (Instr.lookup 119 (.map (some (w.heap.size + 5))) (.int .u32 (y.1.to : Int)) false).run Tryz.prog W' = .ok vb W' from fun W' h => hlk W' h (by kernel_rfl))
          have hnb2 : (addL (lastG ops (L.take i)) s (pre.map fun y => y.1) y.1.to).length ≤ 80080 := by
            have e1 := addL_len (lastG ops (L.take i)) s (pre.map fun y => y.1) y.1.to
            have e2 := HBL.out y.1.to
            have e3 := HWL.out
            rw [List.length_map] at e1
            omega
          have HROW2 := Lib.hid (World.ownsRow.alloc hown (.cells #[.int .i64 (y.1.op : Int), .int .i64 (4096 * y.1.cost + 1), .int .u32 (s : Int)] 173))
          have hbase2 := H1b.out.keep.size
          have HVX2 := Lib.hid (show ∀ k, vb.ownBlock = some k → k ≠ Bx from fun k hk e => by
            subst e
            rcases hown.2 with ⟨e', _⟩ | ⟨g, cap, cur, e', _, hg, _⟩
            · rw [e'] at hk; simp [Value.ownBlock] at hk
            · rw [e'] at hk; simp [Value.ownBlock] at hk
              subst hk
              have h := (show W4.drew.heap[g]? = _ from hg).symm.trans (show W4.drew.heap[g]? = _ from KD.heap HBXb.out (fun h => h))
              simp at h)
          have HVG2 := Lib.hid (show ∀ k, vb.ownBlock = some k → (k < W4.heap.size ∧ (FN' k ∨ W.drew.heap.size ≤ k)) ∨ FL' k from fun k hk => .inr (hvG k hk).1)
          have HVM2 := Lib.hid (show ∀ k, vb.ownBlock = some k → k ≠ w.heap.size + 5 from fun k hk => (hvG k hk).2)
          have HV82 := Lib.hid (show ∀ k, vb.ownBlock = some k → k ≠ w.heap.size + 7 from fun k hk => (H1b.out.lL k (hvG k hk).1).2.2.2)
          have HVN2 := Lib.hid (show ∀ k, vb.ownBlock = some k → FL' k from fun k hk => (hvG k hk).1)
          have HOW2 := Lib.hid hown; have HT2 := Lib.hid hturn; have HML2 := Lib.hid hml
          clear hown hturn hml hlk hvG KD
          generalize hnn2 : (addL (lastG ops (L.take i)) s (pre.map fun y => y.1) y.1.to).length = nb2 at hnb2 HROW2 HOW2 HT2
          generalize hxx2 : (addL (lastG ops (L.take i)) s (pre.map fun y => y.1) y.1.to).flatMap sarcC = xs2 at HROW2 HOW2 HT2
          refine wpIn_region_held (fun W => W.cell? ⟨w.heap.size + 7, 0, none⟩ = some (.map (some (w.heap.size + 5))) ∧ W.cell? ⟨b9, 0, none⟩ = some (.int .u32 (s : Int)) ∧ W.cell? ⟨Bx, 0, none⟩ = some (.int .i64 (y.1.op : Int)) ∧ W.cell? ⟨Bx, 2, none⟩ = some (.int .u32 (y.1.to : Int)) ∧ IMap W (w.heap.size + 5) .u32 ml2 ∧ b9 < W.heap.size) (fun j => decide (14 ≤ j)) hmix ?_
          have HS02 : Hid (W4.drew.cell? ⟨w.heap.size + 7, 0, none⟩ = some (.map (some (w.heap.size + 5))) ∧ W4.drew.cell? ⟨b9, 0, none⟩ = some (.int .u32 (s : Int)) ∧ W4.drew.cell? ⟨Bx, 0, none⟩ = some (.int .i64 (y.1.op : Int)) ∧ W4.drew.cell? ⟨Bx, 2, none⟩ = some (.int .u32 (y.1.to : Int)) ∧ IMap W4.drew (w.heap.size + 5) .u32 ml2 ∧ b9 < W4.drew.heap.size) := ⟨x9c, c9, y0, y2, HML2.out, l9⟩
          refine wpAnyHIn_take (Wide.wide.inRound l) 0 (.map (some (w.heap.size + 5))) rfl (by kernel_rfl) (by kernel_rfl) (by kernel_rfl) (by kernel_rfl) (by kernel_rfl) (fun _ _ _ h => h) HS02.out ?_ rfl ?_
          · rintro W ⟨s1, s2, s3, s4, s5, s6⟩; go_simp
          refine wpAnyHIn_take (Wide.wide.inRound l) 1 (.pointer (some ⟨Bx, 2, none⟩)) rfl (by kernel_rfl) (by kernel_rfl) (by kernel_rfl) (by kernel_rfl) (by kernel_rfl) (fun _ _ _ h => h) HS02.out ?_ rfl ?_
          · rintro W ⟨s1, s2, s3, s4, s5, s6⟩; go_simp
          refine wpAnyHIn_take (Wide.wide.inRound l) 2 (.int .u32 (y.1.to : Int)) rfl (by kernel_rfl) (by kernel_rfl) (by kernel_rfl) (by kernel_rfl) (by kernel_rfl) (fun _ _ _ h => h) HS02.out ?_ rfl ?_
          · rintro W ⟨s1, s2, s3, s4, s5, s6⟩; go_simp
          refine wpAnyHIn_take (Wide.wide.inRound l) 3 (.map (some (w.heap.size + 5))) rfl (by kernel_rfl) (by kernel_rfl) (by kernel_rfl) (by kernel_rfl) (by kernel_rfl) (fun _ _ _ h => h) HS02.out ?_ rfl ?_
          · rintro W ⟨s1, s2, s3, s4, s5, s6⟩; go_simp
          refine wpAnyHIn_take (Wide.wide.inRound l) 4 (.pointer (some ⟨Bx, 2, none⟩)) rfl (by kernel_rfl) (by kernel_rfl) (by kernel_rfl) (by kernel_rfl) (by kernel_rfl) (fun _ _ _ h => h) HS02.out ?_ rfl ?_
          · rintro W ⟨s1, s2, s3, s4, s5, s6⟩; go_simp
          refine wpAnyHIn_take (Wide.wide.inRound l) 5 (.int .u32 (y.1.to : Int)) rfl (by kernel_rfl) (by kernel_rfl) (by kernel_rfl) (by kernel_rfl) (by kernel_rfl) (fun _ _ _ h => h) HS02.out ?_ rfl ?_
          · rintro W ⟨s1, s2, s3, s4, s5, s6⟩; go_simp
          refine wpAnyHIn_take (Wide.wide.inRound l) 6 (vb) rfl (by kernel_rfl) (by kernel_rfl) (by kernel_rfl) (by kernel_rfl) (by kernel_rfl) (fun _ _ _ h => h) HS02.out ?_ rfl ?_
          · rintro W ⟨s1, s2, s3, s4, s5, s6⟩; have sl := HLK2.out W s5; go_simp
          refine wpAnyHIn_take (Wide.wide.inRound l) 7 (.pointer (some ⟨Bx, 0, none⟩)) rfl (by kernel_rfl) (by kernel_rfl) (by kernel_rfl) (by kernel_rfl) (by kernel_rfl) (fun _ _ _ h => h) HS02.out ?_ rfl ?_
          · rintro W ⟨s1, s2, s3, s4, s5, s6⟩; go_simp
          refine wpAnyHIn_take (Wide.wide.inRound l) 8 (.int .i64 (y.1.op : Int)) rfl (by kernel_rfl) (by kernel_rfl) (by kernel_rfl) (by kernel_rfl) (by kernel_rfl) (fun _ _ _ h => h) HS02.out ?_ rfl ?_
          · rintro W ⟨s1, s2, s3, s4, s5, s6⟩; go_simp
          refine wpAnyHIn_take (Wide.wide.inRound l) 9 (.int .i64 (4096 * y.1.cost + 1)) rfl (by kernel_rfl) (by kernel_rfl) (by kernel_rfl) (by kernel_rfl) (by kernel_rfl) (fun _ _ _ h => h) HS02.out ?_ rfl ?_
          · rintro W ⟨s1, s2, s3, s4, s5, s6⟩; go_simp
          refine wpAnyHIn_take (Wide.wide.inRound l) 10 (.int .u32 (s : Int)) rfl (by kernel_rfl) (by kernel_rfl) (by kernel_rfl) (by kernel_rfl) (by kernel_rfl) (fun _ _ _ h => h) HS02.out ?_ rfl ?_
          · rintro W ⟨s1, s2, s3, s4, s5, s6⟩; go_simp
          refine wpAnyHIn_take (Wide.wide.inRound l) 11 (.agg #[.int .i64 (y.1.op : Int), .int .i64 (4096 * y.1.cost + 1), .int .u32 (s : Int)]) rfl (by kernel_rfl) (by kernel_rfl) (by kernel_rfl) (by kernel_rfl) (by kernel_rfl) (fun _ _ _ h => h) HS02.out ?_ rfl ?_
          · rintro W ⟨s1, s2, s3, s4, s5, s6⟩; go_simp
          have KA2 := (Keeps.refl (fun _ => False) W4.drew).alloc (.cells #[.int .i64 (y.1.op : Int), .int .i64 (4096 * y.1.cost + 1), .int .u32 (s : Int)] 173)
          have HS12 : Hid ((W4.drew.alloc (.cells #[.int .i64 (y.1.op : Int), .int .i64 (4096 * y.1.cost + 1), .int .u32 (s : Int)] 173)).cell? ⟨w.heap.size + 7, 0, none⟩ = some (.map (some (w.heap.size + 5))) ∧ (W4.drew.alloc (.cells #[.int .i64 (y.1.op : Int), .int .i64 (4096 * y.1.cost + 1), .int .u32 (s : Int)] 173)).cell? ⟨b9, 0, none⟩ = some (.int .u32 (s : Int)) ∧ (W4.drew.alloc (.cells #[.int .i64 (y.1.op : Int), .int .i64 (4096 * y.1.cost + 1), .int .u32 (s : Int)] 173)).cell? ⟨Bx, 0, none⟩ = some (.int .i64 (y.1.op : Int)) ∧ (W4.drew.alloc (.cells #[.int .i64 (y.1.op : Int), .int .i64 (4096 * y.1.cost + 1), .int .u32 (s : Int)] 173)).cell? ⟨Bx, 2, none⟩ = some (.int .u32 (y.1.to : Int)) ∧ IMap (W4.drew.alloc (.cells #[.int .i64 (y.1.op : Int), .int .i64 (4096 * y.1.cost + 1), .int .u32 (s : Int)] 173)) (w.heap.size + 5) .u32 ml2 ∧ b9 < (W4.drew.alloc (.cells #[.int .i64 (y.1.op : Int), .int .i64 (4096 * y.1.cost + 1), .int .u32 (s : Int)] 173)).heap.size) := by
            obtain ⟨s1, s2, s3, s4, s5, s6⟩ := HS02.out
            exact ⟨KA2.cell s1 (fun h => h), KA2.cell s2 (fun h => h), KA2.cell s3 (fun h => h), KA2.cell s4 (fun h => h), s5.keeps KA2 (fun h => h), Nat.lt_of_lt_of_le s6 KA2.size⟩
          clear x9c c9 y0 y2
          refine wpAnyHIn_one 12 rfl (by kernel_rfl) rfl (fun K hK => ?_)
          go_simp
          refine hK _ _ (fun _ => HS12.out) ?_
          clear hK K
          refine wpAnyHIn_one 13 rfl (by kernel_rfl) rfl (fun K hK => ?_)
          refine Oper.wpIn_append_lies _ (.tmp 62) (.tmp 68) 171 rfl w.heap.size 173 i0 _ 3 24 Tryz.underlying171 hi0 hz0 hz1 hz2 rfl (by omega) vb nb2 xs2 rfl HROW2.out ⟨W4.heap.size, 0, none⟩ 1 1 [.int .i64 (y.1.op : Int), .int .i64 (4096 * y.1.cost + 1), .int .u32 (s : Int)] rfl rfl ?hnews2 ?hone2 (by omega) (by unfold maxLen; omega) (by omega) (by simp; omega) (W4.heap.size + 1) (by simp) ?_
          case hnews2 => exact World.news_of_block (cs := #[.int .i64 (y.1.op : Int), .int .i64 (4096 * y.1.cost + 1), .int .u32 (s : Int)]) (t := 173) (fr := (0, 0)) (heap_alloc_new W4.drew _)
          case hone2 => simp [Value.oneCell']
          intro g4 cap4 W3 hown2 hgrow2 hat2 hlt4
          obtain ⟨W8, hrunU, hG4, hk4⟩ := HT2.out (W4.drew.alloc (.cells #[.int .i64 (y.1.op : Int), .int .i64 (4096 * y.1.cost + 1), .int .u32 (s : Int)] 173)) W3 _ (arcTo s y.1) ((Keeps.refl _ _).alloc _) hgrow2 hown2 (fun g hg => by
            simp [Value.ownBlock] at hg
            subst hg
            rcases hat2 with h | h
            · exact .inl h
            · exact .inr (by simp; omega))
          have k3 : Keeps (fun k => vb.ownBlock = some k) (W4.drew.alloc (.cells #[.int .i64 (y.1.op : Int), .int .i64 (4096 * y.1.cost + 1), .int .u32 (s : Int)] 173)) W3 := (Keeps.refl _ _).grown hgrow2 (fun k hk => .inl hk)
          have n9 : ¬ vb.ownBlock = some b9 := fun e => (H52.out _ (HVG2.out _ e)).2 rfl
          have nx : ¬ vb.ownBlock = some Bx := fun e => HVX2.out _ e rfl
          have nm : ¬ vb.ownBlock = some (w.heap.size + 5) := fun e => HVM2.out _ e rfl
          have n8 : ¬ vb.ownBlock = some (w.heap.size + 7) := fun e => HV82.out _ e rfl
          have HS32 : Hid (W3.cell? ⟨w.heap.size + 7, 0, none⟩ = some (.map (some (w.heap.size + 5))) ∧ W3.cell? ⟨b9, 0, none⟩ = some (.int .u32 (s : Int)) ∧ W3.cell? ⟨Bx, 0, none⟩ = some (.int .i64 (y.1.op : Int)) ∧ W3.cell? ⟨Bx, 2, none⟩ = some (.int .u32 (y.1.to : Int)) ∧ IMap W3 (w.heap.size + 5) .u32 ml2 ∧ b9 < W3.heap.size) := by
            obtain ⟨s1, s2, s3, s4, s5, s6⟩ := HS12.out
            exact ⟨k3.cell s1 n8, k3.cell s2 n9, k3.cell s3 nx, k3.cell s4 nx, s5.keeps k3 nm, Nat.lt_of_lt_of_le s6 k3.size⟩
          have HKF2 := Lib.hid (show Keeps (fun k => vb.ownBlock = some k ∨ k = w.heap.size + 5) W4 W8 from (((Keeps.refl (fun _ => False) W4).drew.mono (fun _ _ h => h.elim)).trans (KA2.mono (fun _ _ h => h.elim))).trans ((k3.mono (fun _ _ h => .inl h)).trans (hk4.mono (fun _ _ h => .inr h))))
          have HG42 := Lib.hid hG4; have HRU := Lib.hid hrunU
          clear hown2 hgrow2 hat2 hlt4 hG4 k3 n9 nx nm n8 KA2 HS12 hk4 hrunU
          refine hK _ _ (fun _ => HS32.out) ?_
          clear hK K
          have hrunU := HRU.out
          refine wpAnyHIn_one 14 rfl (by kernel_rfl) rfl (fun K hK => ?_)
          go_simp
          refine hK _ _ (fun h => by simp at h) ?_
          clear hK K hrunU HRU HS32 HS02
          refine wpAnyHIn_done (by kernel_rfl) ?_
          skip
          gi_wp2
          have hSG2 : ∀ k, (vb.ownBlock = some k ∨ k = w.heap.size + 5) → FL' k := fun k hs => by
            rcases hs with h | rfl
            · exact HVN2.out k h
            · exact H1b.out.last.fmap
          have hSD2 : ∀ k, (vb.ownBlock = some k ∨ k = w.heap.size + 5) → W4.heap[k]? ≠ some (.deferred (some [])) := fun k hs => by
            rcases hs with h | rfl
            · exact (show W4.drew.heap[k]? ≠ _ from row_not_deferred HOW2.out k h)
            · exact (show W4.drew.heap[w.heap.size + 5]? ≠ _ from map_not_deferred HML2.out)
          have s9 : ¬ (vb.ownBlock = some b9 ∨ b9 = w.heap.size + 5) := fun hs => (H52.out _ (.inr (hSG2 _ hs))).2 rfl
          have ss : ¬ (vb.ownBlock = some (Wn.heap.size + 1) ∨ Wn.heap.size + 1 = w.heap.size + 5) := fun hs => (H52.out _ (.inr (hSG2 _ hs))).1 rfl
          have ss1 := HSS.out
          have KT := (HKF.out.mono (S' := fun k => (va.ownBlock = some k ∨ k = w.heap.size + 4) ∨ (vb.ownBlock = some k ∨ k = w.heap.size + 5)) (fun _ _ h => .inl h)).trans (HKF2.out.mono (fun _ _ h => .inr h))
          refine ⟨⟨KT.size, fun k o hB hk0 hc => ?_⟩, KpS.ofKeeps KT H1.out.keep.size (fun k hlt hs => ?_) (lt_of_heap H3.out) (fun hs => ?_), ⟨fun k => k < W4.heap.size ∧ (FN' k ∨ W.drew.heap.size ≤ k), fun k => k < W8.heap.size ∧ (FL' k ∨ W4.drew.heap.size ≤ k), ?_, H2b.out.keeps (KeepsD.of HKF2.out hSD2), HKF2.out.heap H3b.out ss, HKF2.out.heap H4b.out s9, fun k hk => ?_⟩⟩
          · have n1 : ¬ (va.ownBlock = some k ∨ k = w.heap.size + 4) := fun hs => HSC.out k o hs hB hk0 hc
            have hk4 := HKF.out.heap hk0 n1
            refine HKF2.out.heap hk4 (fun hs => ?_)
            rcases hs with h | rfl
            · rcases HOW2.out.2 with ⟨e', _⟩ | ⟨g, cap, cur, e', _, hg, _⟩
              · rw [e'] at h; simp [Value.ownBlock] at h
              · rw [e'] at h; simp [Value.ownBlock] at h
                subst h
                rw [show W4.heap[g]? = _ from hg] at hk4; cases hk4; cases hc
            · omega
          · rcases hs with hs | hs
            · have := (H1.out.lN k (HSGb.out k hs)).1; omega
            · have := (H1b.out.lL k (hSG2 k hs)).1; omega
          · rcases hs with hs | hs
            · exact ss1 hs
            · exact ss hs
          · have e1 : addL (lastG ops (L.take i)) s ((pre ++ [y]).map fun y => y.1) = fun z => if z = y.1.to then addL (lastG ops (L.take i)) s (pre.map fun y => y.1) y.1.to ++ [arcTo s y.1] else addL (lastG ops (L.take i)) s (pre.map fun y => y.1) z := by rw [List.map_append]; exact addL_snoc _ _ _ _
            rw [e1]
            exact H1b.out.lasted HG42.out (fun k h => h) HKF2.out hSG2
          · rcases hk with h | ⟨_, h | h⟩
            · exact H52.out k (.inl h)
            · exact H52.out k (.inr h)
            · have h1 := lt_of_heap H3b.out
              have h2 := lt_of_heap H4b.out
              have h3 : W4.heap.size ≤ k := h
              exact ⟨by omega, by omega⟩
        · rintro D ys W hD hys ⟨FN', FL', h1, h2, h3, h4, h5⟩ hd
          have hys' : (ys.map fun y => y.1) = wsteps ops s := hys
          rw [hys', ← nextG_snoc ops HNI.out, ← lastG_snoc, ← HTK.out] at h1
          have HM7 := Lib.hid (HM6.out.cons h2 hD (by omega) hd)
          have HST := Lib.hid (show MLoop ops (goalB g0) L w vg2 (i + 1) (mark D :: ds) W from ⟨⟨FN', FL', h1⟩, HM7.out⟩)
          clear h1 h2 h3 h4 h5 hd hys hys'
          gi_wp2
          refine ⟨⟨mark D :: ds, i + 1, vg2, HST.out, by omega, ex_fnD rfl⟩, ?_⟩
          show L.length - (intOf (.int .i64 (((i + 1 : Nat) : Int)))).toNat < L.length - (intOf (.int .i64 (i : Int))).toNat
          simp only [intOf]; omega
        · exact fun _ _ _ _ _ _ h _ => h.elim
    · have hie : i = L.length := by omega
      subst hie
      rw [List.take_length] at hst
      have HMS := Lib.hid hst; have HMK := Lib.hid HL.out.marks
      clear hst HL
      gi_wp2
      have HSV := Lib.hid (Sl.of_own HMS.out.goals)
      have HWD := Lib.hid ((HW.out.keeps0 HMS.out.keep).keeps0 ((Keeps.refl (fun _ => False) wo).drew))
      have x6 : wo.drew.cell? ⟨w.heap.size + 6, 0, none⟩ = some (.map (some (w.heap.size + 4))) := HMS.out.x8.cell
      have x7 : wo.drew.cell? ⟨w.heap.size + 7, 0, none⟩ = some (.map (some (w.heap.size + 5))) := HMS.out.x9.cell
      have hwz : w.heap.size + 8 ≤ wo.heap.size := HMS.out.size
      have hfl := List.length_filter_le (goalB g0) L
      have KA := ((Keeps.refl (fun _ => False) wo).alloc (.cells #[.int .u32 (st : Int)] 77)).drew
      have HN1 : Hid (Sl ((wo.alloc (.cells #[.int .u32 (st : Int)] 77)).drew) (.slice (some ⟨wo.heap.size, 0, none⟩) 1 1) [st].length ([st].map fun x : Nat => Value.int .u32 (x : Int))) := Lib.hid (sl_of_blk (show (wo.alloc (.cells #[.int .u32 (st : Int)] 77)).drew.heap[wo.heap.size]? = some (.cells #[.int .u32 (st : Int)] 77 (0, 0)) from heap_alloc_new wo _) 1 1 (by decide))
      have x6a := KA.cell (show wo.cell? ⟨w.heap.size + 6, 0, none⟩ = _ from x6) (fun h => h)
      have x7a := KA.cell (show wo.cell? ⟨w.heap.size + 7, 0, none⟩ = _ from x7) (fun h => h)
      have hsz : wo.heap.size < (wo.alloc (.cells #[.int .u32 (st : Int)] 77)).drew.heap.size := by rw [show (wo.alloc (.cells #[.int .u32 (st : Int)] 77)).drew.heap.size = (wo.alloc (.cells #[.int .u32 (st : Int)] 77)).heap.size from rfl]; simp
      have HSV1 : Hid (Sl ((wo.alloc (.cells #[.int .u32 (st : Int)] 77)).drew) vg (L.filter (goalB g0)).length ((L.filter (goalB g0)).map fun x : Nat => Value.int .u32 (x : Int))) := Lib.hid (HSV.out.keeps0 KA)
      have HKA := Lib.hid KA
      have HR0 := Lib.hid (And.intro HMS.out.r0 HMS.out.r1)
      clear KA
      have HNS := Lib.hid (newSide_any ((wo.alloc (.cells #[.int .u32 (st : Int)] 77)).drew) (w.heap.size + 4) (.slice (some ⟨wo.heap.size, 0, none⟩) 1 1) [st] HN1.out (by simp))
      refine wpIn_wide.2 ?_
      go_region_held3 (fun w' => w'.cell? ⟨w.heap.size + 6, 0, none⟩ = some (.map (some (w.heap.size + 4))) ∧ w'.cell? ⟨w.heap.size + 7, 0, none⟩ = some (.map (some (w.heap.size + 5))))
        (go_keep)
        (first
          | (go_at_call 51; refine (start_any _ base b st g0 v ops HWD.out).mono ?_; rintro e w9 ⟨rfl, rfl⟩)
          | (go_at_call_of 113 (Value.slice (some ⟨wo.heap.size, 0, none⟩) 1 1); refine HNS.out.mono ?_; rintro e wA ⟨sf, pf, rf, df, qf, F, rfl, hsA, hkA⟩; have x6b := hkA.cell x6a (fun h => h); have x7b := hkA.cell x7a (fun h => h); have KAA := Lib.hid (HKA.out.trans hkA); have HSV2 := Lib.hid (Sl.keeps0 HSV1.out hkA); have HSA := Lib.hid hsA; clear hsA hkA)
          | (go_at_call_of 113 vg; refine (newSide_any wA (w.heap.size + 5) _ (L.filter (goalB g0)) HSV2.out (by omega)).mono ?_; rintro e wB ⟨sb, pb, rb, db, qb, F', rfl, hsB, hkB⟩; have x6c := hkB.cell x6b (fun h => h); have x7c := hkB.cell x7b (fun h => h); have KBB := Lib.hid (KAA.out.trans hkB); have K2 := Lib.hid hkB; have HSB := Lib.hid hsB; have r0c : wB.cell? ⟨w.heap.size, 0, none⟩ = some (.pointer none) := (cell_of_blk (KBB.out.heap HR0.out.1 (fun h => h))).trans rfl; have r1c : wB.cell? ⟨w.heap.size + 1, 0, none⟩ = some (.pointer none) := (cell_of_blk (KBB.out.heap HR0.out.2 (fun h => h))).trans rfl; have r0z := frozen_of_blk (o := 0) (KBB.out.heap HR0.out.1 (fun h => h)); have r1z := frozen_of_blk (o := 0) (KBB.out.heap HR0.out.2 (fun h => h)); have r0l := lt_of_heap (KBB.out.heap HR0.out.1 (fun h => h)); have r1l := lt_of_heap (KBB.out.heap HR0.out.2 (fun h => h)); clear hsB hkB))
      have R0 := KBB.out.heap HR0.out.1 (fun h => h); have R1 := KBB.out.heap HR0.out.2 (fun h => h)
      have R2 := KBB.out.heap HMS.out.r2 (fun h => h); have R3 := KBB.out.heap HMS.out.r3 (fun h => h)
      have KC : Keeps (fun j => w.heap.size ≤ j ∧ j < w.heap.size + 4) wB ((wB.setCell ⟨w.heap.size, 0, none⟩ (.pointer (some ⟨sf, 0, none⟩))).setCell ⟨w.heap.size + 1, 0, none⟩ (.pointer (some ⟨sb, 0, none⟩))) := ((Keeps.refl _ wB).setCell (p := ⟨w.heap.size, 0, none⟩) (.inl ⟨Nat.le_refl _, (by show w.heap.size < w.heap.size + 4; omega)⟩) _).setCell (p := ⟨w.heap.size + 1, 0, none⟩) (.inl ⟨(by show w.heap.size ≤ w.heap.size + 1; omega), (by show w.heap.size + 1 < w.heap.size + 4; omega)⟩) _
      have q0 : ((wB.setCell ⟨w.heap.size, 0, none⟩ (.pointer (some ⟨sf, 0, none⟩))).setCell ⟨w.heap.size + 1, 0, none⟩ (.pointer (some ⟨sb, 0, none⟩))).heap[w.heap.size]? = some (.cells #[.pointer (some ⟨sf, 0, none⟩)] 114 (0, 0)) := by
        rw [blk_set_ne (by omega), blk_set_same R0]; rfl
      have q1 : ((wB.setCell ⟨w.heap.size, 0, none⟩ (.pointer (some ⟨sf, 0, none⟩))).setCell ⟨w.heap.size + 1, 0, none⟩ (.pointer (some ⟨sb, 0, none⟩))).heap[w.heap.size + 1]? = some (.cells #[.pointer (some ⟨sb, 0, none⟩)] 114 (0, 0)) := by
        rw [blk_set_same (show (wB.setCell ⟨w.heap.size, 0, none⟩ (.pointer (some ⟨sf, 0, none⟩))).heap[w.heap.size + 1]? = _ by rw [blk_set_ne (by omega)]; exact R1)]; rfl
      have q2 : ((wB.setCell ⟨w.heap.size, 0, none⟩ (.pointer (some ⟨sf, 0, none⟩))).setCell ⟨w.heap.size + 1, 0, none⟩ (.pointer (some ⟨sb, 0, none⟩))).heap[w.heap.size + 2]? = some (.cells #[.int .u32 0] 77 (0, 0)) := by
        rw [blk_set_ne (by omega), blk_set_ne (by omega)]; exact R2
      have q3 : ((wB.setCell ⟨w.heap.size, 0, none⟩ (.pointer (some ⟨sf, 0, none⟩))).setCell ⟨w.heap.size + 1, 0, none⟩ (.pointer (some ⟨sb, 0, none⟩))).heap[w.heap.size + 3]? = some (.cells #[.bool false] 4 (0, 0)) := by
        rw [blk_set_ne (by omega), blk_set_ne (by omega)]; exact R3
      generalize ((wB.setCell ⟨w.heap.size, 0, none⟩ (.pointer (some ⟨sf, 0, none⟩))).setCell ⟨w.heap.size + 1, 0, none⟩ (.pointer (some ⟨sb, 0, none⟩))) = wC at KC q0 q1 q2 q3 ⊢
      have hmf : ∀ (fn : Fn) (first cap : Array Value) (w : World), (Instr.makeFunc fn first cap).run Tryz.prog w = .ok (.func fn first cap) w := fun _ _ _ _ => rfl
      have KD := (Keeps.refl (fun _ => False) wC).alloc (.cells #[.int .i64 0] 3)
      have HM := Lib.hid (show MetB (wC.alloc (.cells #[.int .i64 0] 3)) w.heap.size (w.heap.size + 1) (w.heap.size + 3) wC.heap.size (w.heap.size + 2) sf sb false 0 0 from ⟨KD.heap q0 (fun h => h), KD.heap q1 (fun h => h), KD.heap q3 (fun h => h), heap_alloc_new wC _, KD.heap q2 (fun h => h)⟩)
      have KCD := Lib.hid (KC.trans (KD.mono (fun _ _ h => h.elim)))
      have h15 : wB.heap.size ≤ wC.heap.size := KC.size
      have KWC := Lib.hid ((HMS.out.keep.trans KBB.out).trans' KC (fun j hj => .inr hj.1))
      have HMKC := Lib.hid ((HMK.out.keeps (KeepsD.of0 KBB.out)).keeps (KeepsD.of KC (fun j hj => by
        have hh : j = w.heap.size ∨ j = w.heap.size + 1 ∨ j = w.heap.size + 2 ∨ j = w.heap.size + 3 := by omega
        rcases hh with h | h | h | h
        · rw [h]; exact cells_not_deferred R0
        · rw [h]; exact cells_not_deferred R1
        · rw [h]; exact cells_not_deferred R2
        · rw [h]; exact cells_not_deferred R3)))
      clear KC q0 q1 q2 q3 x6c x7c x6b x7b x6a x7a x6 x7 r0c r1c r0z r1z r0l r1l R0 R1 R2 R3 HR0 HNS HN1 HSV HSV1 HSV2 KD
      gi_wp2
      refine ⟨trivial, ?_⟩
      refine (callsIn_wide.2 (start_any _ base b st g0 v ops (HW.out.keeps0 (KWC.out.alloc (.cells #[.int .i64 0] 3))))).mono ?_; rintro en w7 ⟨rfl, rfl⟩
      gi_wp2
      obtain ⟨fnd0, best0, at0, hmet0, HMI0⟩ := metStart st (L.filter (goalB g0))
      have HMI := Lib.hid HMI0
      have hAD := (HSA.out.keeps0 K2.out).keeps KCD.out (fun h => by have := HSA.out.lb; have : wo.heap.size ≤ (wo.alloc (.cells #[.int .u32 (st : Int)] 77)).drew.heap.size := Nat.le_of_lt hsz; omega) (fun h => by have := HSA.out.lp; have : wo.heap.size ≤ (wo.alloc (.cells #[.int .u32 (st : Int)] 77)).drew.heap.size := Nat.le_of_lt hsz; omega) (fun h => by have := HSA.out.lr; have : wo.heap.size ≤ (wo.alloc (.cells #[.int .u32 (st : Int)] 77)).drew.heap.size := Nat.le_of_lt hsz; omega) (fun h => by have := HSA.out.ld; have : wo.heap.size ≤ (wo.alloc (.cells #[.int .u32 (st : Int)] 77)).drew.heap.size := Nat.le_of_lt hsz; omega) (fun j hj h => by have := (HSA.out.lF j hj).1; have : wo.heap.size ≤ (wo.alloc (.cells #[.int .u32 (st : Int)] 77)).drew.heap.size := Nat.le_of_lt hsz; omega)
      have hzA : wo.heap.size ≤ wA.heap.size := KAA.out.size
      have hBD := HSB.out.keeps KCD.out (fun h => by have := HSB.out.lb; omega) (fun h => by have := HSB.out.lp; omega) (fun h => by have := HSB.out.lr; omega) (fun h => by have := HSB.out.ld; omega) (fun j hj h => by have := (HSB.out.lF j hj).1; omega)
      refine ⟨trivial, ?_⟩
      refine (callsIn_wide.2 (met_any (wC.alloc (.cells #[.int .i64 0] 3)) w.heap.size (w.heap.size + 1) (w.heap.size + 3) wC.heap.size (w.heap.size + 2) sf sb 0 st false 0 _ _ _ pf _ _ _ _ pb _ _ _ HM.out hAD.blk hBD.blk hAD.price hBD.price (startP_lo _) (startP_lo _))).mono ?_; rintro en W0 ⟨rfl, hm0, hk0⟩
      rw [hmet0] at hm0
      have HD := Lib.hid (duo_start HMS.out KAA.out (Nat.le_of_lt hsz) HSA.out K2.out HSB.out (KCD.out.trans' hk0 (fun j hj => by
        rcases hj with h | h | h
        · exact .inl (by omega)
        · exact .inr (by omega)
        · exact .inl (by omega))) hm0 h15 HMI.out)
      have HKW := Lib.hid (((KWC.out.alloc (.cells #[.int .i64 0] 3))).trans' hk0 (fun j hj => .inr (by
        have := KWC.out.size
        rcases hj with h | h | h <;> omega)))
      have HMK0 := Lib.hid ((HMKC.out.keeps (KeepsD.of0 ((Keeps.refl (fun _ => False) wC).alloc (.cells #[.int .i64 0] 3)))).keeps (KeepsD.of hk0 (fun j hj => by
        rcases hj with h | h | h
        · rw [h]; exact cells_not_deferred HM.out.fo
        · rw [h]; exact cells_not_deferred HM.out.be
        · rw [h]; exact cells_not_deferred HM.out.at_)))
      have hb15 : w.heap.size ≤ wC.heap.size := by have := KBB.out.size; omega
      clear hAD hBD hm0 hk0 HMI0 HMI hmet0 HM KCD KWC HMKC HMK HMS KAA KBB K2 HSA HSB HWD HKA hsz hzA h15
      generalize wC.heap.size = b15 at HD hb15 ⊢
      gi_wp2
      have hl0 : (([st].length : Nat) : Int) = 1 := rfl
      have hw1 := startW L [st] 1000000000
      have hw2 := startW L (L.filter (goalB g0)) 1000000000
      refine wpIn_loop_ghost (fun n a' wr => ∃ (P P' : Nat → Option Int) (par par' : Nat → Option SArc) (dn dn' : Nat → Option Unit) (A A' : List (Int × Int)) (t t' : Int) (F F' : Nat → Prop) (found : Bool) (best : Int) (at_ : Nat), MeetS ops L st (L.filter (goalB g0)) w b15 sf pf rf df qf sb pb rb db qb FN FL ds n P P' par par' dn dn' A A' t t' F F' found best at_ wr ∧
          ∃ u : Nat → Value, a' = { tmps := #[.pointer (some ⟨b, 0, none⟩), .slice av L.length cv, u 2, u 3, .pointer (some ⟨w.heap.size, 0, none⟩), .pointer (some ⟨w.heap.size + 1, 0, none⟩), .pointer (some ⟨w.heap.size + 2, 0, none⟩), .pointer (some ⟨w.heap.size + 3, 0, none⟩), u 8, u 9, u 10, u 11, u 12, u 13, u 14, .pointer (some ⟨b15, 0, none⟩), .func (.func 114) #[] #[.pointer (some ⟨w.heap.size, 0, none⟩), .pointer (some ⟨w.heap.size + 1, 0, none⟩), .pointer (some ⟨w.heap.size + 3, 0, none⟩), .pointer (some ⟨b15, 0, none⟩), .pointer (some ⟨w.heap.size + 2, 0, none⟩)], u 17, u 18, u 19, u 20, u 21, u 22, u 23, u 24, u 25, u 26, u 27, u 28, u 29, u 30, u 31, u 32, u 33, u 34, u 35, u 36, u 37, u 38, u 39, u 40, u 41, u 42, u 43, u 44, u 45, u 46, u 47, u 48, u 49, u 50, u 51, u 52, u 53, u 54, u 55, u 56, u 57, u 58, u 59, u 60, u 61, u 62, u 63, u 64, u 65, u 66, u 67, u 68, u 69, u 70, u 71, u 72, u 73, u 74, u 75, u 76, u 77, u 78, u 79, u 80, u 81, u 82, u 83, u 84, u 85, u 86, u 87, u 88, u 89, u 90, u 91, u 92, u 93, u 94, u 95, u 96, u 97, u 98, u 99, u 100, u 101, u 102, u 103, u 104, u 105, u 106, u 107, u 108, u 109, u 110, u 111, u 112, u 113, u 114, u 115, u 116, u 117, u 118, u 119, u 120, u 121, u 122, u 123, u 124, u 125, u 126, u 127, u 128, u 129, u 130], defers := ds }) ((2 * weightB L 1000000000 (startP [st]) + (startA [st]).length) + (2 * weightB L 1000000000 (startP (L.filter (goalB g0))) + (startA (L.filter (goalB g0))).length)) ?start2 ?round2
      case start2 => exact ⟨_, _, _, _, _, _, _, _, _, _, _, _, _, _, _, ⟨HD.out, SideI.init (by decide) (fun x hx => by rw [List.mem_singleton] at hx; subst hx; exact HST.out) 0, SideI.init (by decide) (fun x hx => (List.mem_filter.1 hx).1) 0, ⟨by omega, by omega⟩, ⟨by omega, by omega⟩, rfl, HKW.out, HMK0.out, hb15⟩, ex_fnD rfl⟩
      case round2 =>
        rintro n a wr ⟨P, P', par, par', dn, dn', A, A', t, t', F, F', found, best, at_, hS, u, rfl⟩
        have HS := Lib.hid hS
        clear hS HD HKW HMK0 hw1 hw2 hl0
        have c0 : wr.cell? ⟨w.heap.size, 0, none⟩ = some (.pointer (some ⟨sf, 0, none⟩)) := (cell_of_blk HS.out.duo.met.f).trans rfl
        have c1 : wr.cell? ⟨w.heap.size + 1, 0, none⟩ = some (.pointer (some ⟨sb, 0, none⟩)) := (cell_of_blk HS.out.duo.met.b).trans rfl
        have f4 : wr.cell? ⟨sf, 4, none⟩ = some (.pointer (some ⟨qf, 0, none⟩)) := (cell_of_blk HS.out.duo.s.blk).trans rfl
        have b4 : wr.cell? ⟨sb, 4, none⟩ = some (.pointer (some ⟨qb, 0, none⟩)) := (cell_of_blk HS.out.duo.s'.blk).trans rfl
        have c3 : wr.cell? ⟨w.heap.size + 3, 0, none⟩ = some (.bool found) := (cell_of_blk HS.out.duo.met.fo).trans rfl
        have c15 : wr.cell? ⟨b15, 0, none⟩ = some (.int .i64 best) := (cell_of_blk HS.out.duo.met.be).trans rfl
        have c2 : wr.cell? ⟨w.heap.size + 2, 0, none⟩ = some (.int .u32 (at_ : Int)) := (cell_of_blk HS.out.duo.met.at_).trans rfl
        have l0 := lt_of_heap HS.out.duo.met.f
        have l1 := lt_of_heap HS.out.duo.met.b
        have l2 := lt_of_heap HS.out.duo.s.blk
        have l3 := lt_of_heap HS.out.duo.s'.blk
        obtain ⟨a1, s1, hc1, hs1⟩ := U.first_any wr qf A t F HS.out.duo.s.q
        obtain ⟨a2, s2, hc2, hs2⟩ := U.first_any wr qb A' t' F' HS.out.duo.s'.q
        have HC1 := Lib.hid hc1; have HC2 := Lib.hid hc2
        clear hc1 hc2
        gi_wp2
        refine ⟨trivial, ?_⟩
        refine (callsIn_wide.2 HC1.out).mono ?_; rintro e w2 ⟨rfl, rfl⟩
        gi_wp2
        refine ⟨trivial, ?_⟩
        refine (callsIn_wide.2 HC2.out).mono ?_; rintro e w3 ⟨rfl, rfl⟩
        have y0 := setCell_id c0; have y1 := setCell_id c1; have y2 := setCell_id c2; have y3 := setCell_id c3
        have z0 := frozen_of_blk (o := 0) HS.out.duo.met.f; have z1 := frozen_of_blk (o := 0) HS.out.duo.met.b; have z2 := frozen_of_blk (o := 0) HS.out.duo.met.at_; have z3 := frozen_of_blk (o := 0) HS.out.duo.met.fo
        have HSD := Lib.hid (HS.out.keeps0 ((Keeps.refl (fun _ => False) wr).drew))
        rcases hs1 with ⟨rfl, hA⟩ | ⟨rfl, x1, hx1⟩
        · clear hs2
          have HE := Lib.hid (show Ends A A' found best from .inl hA)
          gi_wp2
          refine wpIn_wide.2 ?_
          go_region
          all_goals
            gi_wp2
            exact leaves_marks HSD.out.marks (fun W' hk => HSD.out.leave HE.out hk rfl rfl rfl rfl)
        · obtain ⟨y1', rfl, hp1, hq1⟩ := HS.out.i1.firstCap hfew hx1
          rcases hs2 with ⟨rfl, hA⟩ | ⟨rfl, x2, hx2⟩
          · clear hx1
            have HE := Lib.hid (show Ends A A' found best from .inr (.inl hA))
            gi_wp2
            refine wpIn_wide.2 ?_
            go_region
            all_goals
              gi_wp2
              exact leaves_marks HSD.out.marks (fun W' hk => HSD.out.leave HE.out hk rfl rfl rfl rfl)
          · obtain ⟨y2', rfl, hp2, hq2⟩ := HS.out.i2.firstCap hfew hx2
            have HX1 := Lib.hid hx1; have HX2 := Lib.hid hx2
            clear hx1 hx2
            cases found with
            | true =>
              by_cases hbe : best ≤ a1 + a2
              · -- the search ends
                have HE := Lib.hid (show Ends A A' true best from ends_first HX1.out HX2.out hbe)
                gi_wp2
                refine wpIn_wide.2 ?_
                go_region
                all_goals
                  gi_wp2
                  exact leaves_marks HSD.out.marks (fun W' hk => HSD.out.leave HE.out hk rfl rfl rfl rfl)
              · by_cases hab : a1 ≤ a2
                · -- forth
                  gi_wp2
                  refine ⟨trivial, ?_⟩
                  refine (callsIn_wide.2 (HS.out.forth HSH.out hfew HCO.out hmany HX1.out)).mono ?_
                  rintro e w4 ⟨rfl, n1, P1, par1, dn1, A1, t1, F1, found1, best1, at1, hlt1, hS1⟩
                  gi_wp2
                  exact ⟨n1, hlt1, P1, P', par1, par', dn1, dn', A1, A', t1, t', F1, F', found1, best1, at1, hS1, ex_fnD rfl⟩
                · -- back
                  gi_wp2
                  refine ⟨trivial, ?_⟩
                  refine (callsIn_wide.2 (HS.out.rear HSH.out hfew HCO.out hmany HX2.out)).mono ?_
                  rintro e w4 ⟨rfl, n1, P1, par1, dn1, A1, t1, F1, found1, best1, at1, hlt1, hS1⟩
                  gi_wp2
                  exact ⟨n1, hlt1, P, P1, par, par1, dn, dn1, A, A1, t, t1, F, F1, found1, best1, at1, hS1, ex_fnD rfl⟩
            | false =>
              by_cases hab : a1 ≤ a2
              · -- forth
                gi_wp2
                refine ⟨trivial, ?_⟩
                refine (callsIn_wide.2 (HS.out.forth HSH.out hfew HCO.out hmany HX1.out)).mono ?_
                rintro e w4 ⟨rfl, n1, P1, par1, dn1, A1, t1, F1, found1, best1, at1, hlt1, hS1⟩
                gi_wp2
                exact ⟨n1, hlt1, P1, P', par1, par', dn1, dn', A1, A', t1, t', F1, F', found1, best1, at1, hS1, ex_fnD rfl⟩
              · -- back
                gi_wp2
                refine ⟨trivial, ?_⟩
                refine (callsIn_wide.2 (HS.out.rear HSH.out hfew HCO.out hmany HX2.out)).mono ?_
                rintro e w4 ⟨rfl, n1, P1, par1, dn1, A1, t1, F1, found1, best1, at1, hlt1, hS1⟩
                gi_wp2
                exact ⟨n1, hlt1, P, P1, par, par1, dn, dn1, A, A1, t, t1, F, F1, found1, best1, at1, hS1, ex_fnD rfl⟩

theorem meet_any (w : World) (b st g0 base : Nat) (v vl : Value) (ops : List Wop) (L : List Nat) (hw : WordsAt w base b st g0 v ops) (hops : WopsOk ops) (hmany : ops.length ≤ 40) (hg0 : g0 < 4294967296) (hsh : Shut ops L) (hfew : L.length ≤ 2000)
    (hL32 : ∀ x ∈ L, x < 4294967296) (hcost : ∀ o ∈ ops, 0 ≤ o.cost ∧ o.cost ≤ 100) (hst : st ∈ L) (hvl : Sl w vl L.length (L.map encW)) :
    Calls Tryz.prog 74 #[.pointer (some ⟨b, 0, none⟩), vl] w (MeetPost ops L st (goalB g0) w) := callsIn_wide.1 (meet_in w b st g0 base v vl ops L hw hops hmany hg0 hsh hfew hL32 hcost hst hvl)

end Go.Proofs.YtcpmjoabhnfddaaGreat

namespace Go.Proofs.YtcpmjoabhnfddaaGreat
open Go.RowKit Go.Shelf

theorem step_append_src {P : Program} {w : World} {ops : Array Oper} {o : Oper} {a : Act} {K : Act → World → Prop} {Q : Exit → Act → World → Prop} {E : Prop} (hgd : o.guard = none) (s x : Operand) (t : TypeId)
    (ho : o.op = .call { callee := .builtin .append, args := #[s, x], argTypes := #[t, t] })
    (base : Nat) (e : TypeId) (i : TypeInfo) (z : Value) (bytes : Nat) (ht : P.underlying t = some (.slice e)) (hi : P.info? e = some i) (hz : i.zero = some z) (hsize : i.size = 1) (hby : i.bytes = bytes) (hzs : z.cells.size = 1)
    (v : Value) (n : Nat) (xs : List Value) (hs : a.eval s = v) (hown : w.ownsRow base e 1 v n xs) (vx : Value) (m : Nat) (news : List Value) (hx : a.eval x = vx) (hsl : Sl w vx m news) (hl : news.length = m) (h1 : ∀ u ∈ news, u.oneCell' = true)
    (h63 : n + m ≤ maxLen) (hbytes : (n + m) * bytes ≤ 140737488355328) (hbase : base ≤ w.heap.size)
    (h : ∀ v' w', w'.ownsRow base e 1 v' (n + m) (xs ++ news) → w.grownBy w' v.ownBlock → K (a.put o.dst v') w') :
    if Region.wanted o (yielded ops a.tmps) = true then Oper.wp P o a w K Q else E := by
  obtain ⟨ao, c, rfl, hm, hc⟩ := hsl
  have hw : Region.wanted o (yielded ops a.tmps) = true := by simp [Region.wanted, hgd]
  rcases Nat.eq_zero_or_pos m with h0 | h0
  · subst h0
    have : news = [] := List.length_eq_zero_iff.1 hl
    subst this
    rw [if_pos hw]
    have hrun := run_appendS_zero (P := P) (w := w) base t o.type e i 1 ht hi v n xs hown ao c
    unfold Oper.wp
    simp [execOp, ho, resolve, invoke, builtin, hs, hx, hrun, Result.andThen]
    exact h v w (by simpa using hown) (grownBy_refl w _)
  · obtain ⟨b, off, rfl, hcell⟩ := hc h0
    exact step_append_lies w hgd s x t ho base e i z 1 bytes ht hi hz hsize hby hzs (by omega) v n xs hs hown ⟨b, off, none⟩ m c news hx (by omega) (fun j u hj => by
      have h := hcell j u hj
      by_cases hj0 : j = 0
      · subst hj0; simpa [Addr.add] using h
      · simpa [Addr.add, hj0] using h) h1 h0 h63 hbytes hbase w.heap.size rfl (fun g cap w' h2 h3 _ _ => h _ w' h2 h3)

theorem result_long (w : World) (vi vg vo vp : Value) (t : Tsk) (p : List Int) (found : Bool) (n : Int) (h : TaskAt w vi vg vo t) (ok : t.Ok) (hp : Ints w vp p) (hin : PlanIn t p) (hl : 60 < p.length) :
    Calls Tryz.prog 49 #[.agg #[.int .i64 t.n, vi, vg, vo], vp, .bool found, .int .i64 n] w fun e w' => e = .returned (.tuple #[.agg #[.bool false, .slice none 0 0, .int .i64 0, .int .i64 0], .agg #[.int .i64 10, .int .i64 (-9)]]) ∧ Keeps (fun _ => False) w w' :=
  (result_any w vi vg vo vp t p found n h ok hp hin).mono fun e w' hr => by
    rcases hr.2 with ⟨_, he⟩ | ⟨h2, _⟩
    · exact ⟨he, hr.1⟩
    · omega
theorem result_fit (w : World) (vi vg vo vp : Value) (t : Tsk) (p : List Int) (found : Bool) (n : Int) (h : TaskAt w vi vg vo t) (ok : t.Ok) (hp : Ints w vp p) (hin : PlanIn t p) (hl : p.length ≤ 60) :
    Calls Tryz.prog 49 #[.agg #[.int .i64 t.n, vi, vg, vo], vp, .bool found, .int .i64 n] w fun e w' => e = .returned (.tuple #[.agg #[.bool found, vp, .int .i64 (costL t p), .int .i64 n], .agg #[.int .i64 0, .int .i64 0]]) ∧ Keeps (fun _ => False) w w' :=
  (result_any w vi vg vo vp t p found n h ok hp hin).mono fun e w' hr => by
    rcases hr.2 with ⟨h2, _⟩ | ⟨_, he⟩
    · omega
    · exact ⟨he, hr.1⟩

theorem zero_unit (w : World) : (zeroValue 117).run Tryz.prog w = .ok (.agg #[]) w := by kernel_rfl
theorem done_look {w : World} {mb : Nat} {dn : Nat → Option Unit} (hm : FMap w mb unitV dn) (x : Nat) : ∃ bl : Bool, (Instr.lookup 121 (.map (some mb)) (.int .u32 (x : Int)) true).run Tryz.prog w = .ok (.tuple #[.agg #[], .bool bl]) w := by
  cases hx : dn x with
  | none => exact ⟨false, (hm.look_none (P := Tryz.prog) Tryz.underlying121 Tryz.underlying77 (zero_unit w) hx).1⟩
  | some a => exact ⟨true, (hm.look_some (P := Tryz.prog) Tryz.underlying121 Tryz.underlying77 hx).1⟩

set_option maxRecDepth 100000 in
set_option maxHeartbeats 4000000 in
theorem bplan_any (w : World) (vi vg vo : Value) (t : Tsk) (h : TaskAt w vi vg vo t) :
    Calls Tryz.prog 40 #[.agg #[.int .i64 t.n, vi, vg, vo]] w (BPlanPost t w) := by
  obtain ⟨ai, ci, h1, _⟩ := h.init.form
  obtain ⟨ag, cg, h2, _⟩ := h.goal.form
  obtain ⟨ao, co, h3, hmo⟩ := h.ops.form
  have K1 := (Keeps.refl (fun _ => False) w).alloc (.cells #[.int .i64 t.n, vi, vg, vo] 25)
  have KA := (Keeps.refl (fun _ => False) (w.alloc (.cells #[.int .i64 t.n, vi, vg, vo] 25))).alloc (.cells #[.bool false, .slice none 0 0, .int .i64 0, .int .i64 0] 29)
  have KB := (Keeps.refl (fun _ => False) ((w.alloc (.cells #[.int .i64 t.n, vi, vg, vo] 25)).alloc (.cells #[.bool false, .slice none 0 0, .int .i64 0, .int .i64 0] 29))).alloc (.cells #[.int .i64 0, .int .i64 0] 31)
  have HB := Lib.hid ((Four.new w (.int .i64 t.n) vi vg vo 25).keeps0 (KA.trans KB))
  have hr := KB.heap (heap_alloc_new (w.alloc (.cells #[.int .i64 t.n, vi, vg, vo] 25)) (.cells #[.bool false, .slice none 0 0, .int .i64 0, .int .i64 0] 29)) (fun h => h)
  have hf : Flt w _ _ 31 := ⟨heap_alloc_new ((w.alloc (.cells #[.int .i64 t.n, vi, vg, vo] 25)).alloc (.cells #[.bool false, .slice none 0 0, .int .i64 0, .int .i64 0] 29)) (.cells #[.int .i64 0, .int .i64 0] 31), by simp; omega, K1.trans (KA.trans KB)⟩
  have HT := Lib.hid (h.keeps0 (K1.trans (KA.trans KB)))
  rw [World.size_alloc] at hr hf
  rw [World.size_alloc] at hf
  have HR := Lib.hid (show RFl w _ (w.heap.size + 1) (w.heap.size + 1 + 1) from ⟨hr, hf, by omega, by omega⟩)
  subst h1 h2 h3
  clear h K1 KA KB hr hf
  go_enter Tryz.func40, Tryz.ntmps40
  go_upto_region 1 with fail
  generalize ((w.alloc (.cells #[.int .i64 t.n, .slice ai t.init.length ci, .slice ag t.goal.length cg, .slice ao t.ops.length co] 25)).alloc (.cells #[.bool false, .slice none 0 0, .int .i64 0, .int .i64 0] 29)).alloc (.cells #[.int .i64 0, .int .i64 0] 31) = w1 at HB HR HT ⊢
  have hbx := HB.out.lt
  obtain ⟨d0, d1, d2, d3⟩ := HB.out
  go_wp2_with fail
  refine (checked_any _ _ _ _ t HT.out).mono ?_; rintro e w4 ⟨hk, hr⟩
  have HB4 := Lib.hid (HB.out.keeps0 hk); have HT4 := Lib.hid (HT.out.keeps0 hk); have HR4 := Lib.hid (HR.out.keeps0 hk)
  clear d0 d1 d2 d3 hk hbx HB HT HR
  rcases hr with ⟨hc, rfl⟩ | ⟨hok, hx, rfl⟩ | ⟨hok, l, hx, b, v, vl, ws, rfl, hw, hperm, _, hvl⟩
  · have NF := Lib.hid (expF_bad hc)
    have HC := Lib.hid hc
    have hc2 : ((taskFault t).1 == 0) = false := by simpa using hc
    clear hc
    generalize hfe : taskFault t = f at hc2 NF HC ⊢
    clear hfe
    have HR5 := Lib.hid (HR4.out.keeps0 ((Keeps.refl _ _).alloc (.cells #[.int .i64 f.1, .int .i64 f.2] 31)))
    have F0 := heap_alloc_new w4 (.cells #[.int .i64 f.1, .int .i64 f.2] 31)
    go_upto_region 2 with fail
    generalize w4.alloc (.cells #[.int .i64 f.1, .int .i64 f.2] 31) = w5 at HR5 F0 ⊢
    have f0 : w5.cell? ⟨w4.heap.size, 0, none⟩ = some (.int .i64 f.1) := by rw [cell_of_blk F0]; rfl
    have f1 : w5.cell? ⟨w4.heap.size, 1, none⟩ = some (.int .i64 f.2) := by rw [cell_of_blk F0]; rfl
    have HFIN := Lib.hid (HR5.out.fin (.int .i64 f.1) (.int .i64 f.2))
    obtain ⟨r0, r1, r2, r3, y0, y1, y2, y3, hlR⟩ := HR5.out.cells
    obtain ⟨e0, e1, z0, z1, hF⟩ := HR5.out.flt.cells
    obtain ⟨s0, s1, s2, s3⟩ := HR5.out.ids
    clear F0
    go_wp2_with fail
    go_region
    all_goals
      go_wp2
      refine bodyPost_ret (results_cell_cell _ _ (w.heap.size + 1 + 1) 31 #[.int .i64 f.1, .int .i64 f.2] (0, 0) _ rfl rfl HFIN.out.2.1 Tryz.underlying31 rfl (by kernel_rfl) rfl HFIN.out.1 Tryz.underlying29 rfl (by kernel_rfl)) rfl ?_
      exact ⟨HFIN.out.2.2, false, _, [], 0, 0, f.1, f.2, rfl, Ints.nil _, .inl ⟨HC.out, NF.out, rfl, rfl, rfl, rfl⟩⟩
  · have NF := Lib.hid (expF_many hok hx)
    clear hok hx
    have HR5 := Lib.hid (HR4.out.keeps0 ((Keeps.refl _ _).alloc (.cells #[.int .i64 10, .int .i64 (-7)] 31)))
    have F0 := heap_alloc_new w4 (.cells #[.int .i64 10, .int .i64 (-7)] 31)
    go_upto_region 2 with fail
    generalize w4.alloc (.cells #[.int .i64 10, .int .i64 (-7)] 31) = w5 at HR5 F0 ⊢
    have f0 : w5.cell? ⟨w4.heap.size, 0, none⟩ = some (.int .i64 10) := by rw [cell_of_blk F0]; rfl
    have f1 : w5.cell? ⟨w4.heap.size, 1, none⟩ = some (.int .i64 (-7)) := by rw [cell_of_blk F0]; rfl
    have HFIN := Lib.hid (HR5.out.fin (.int .i64 10) (.int .i64 (-7)))
    obtain ⟨r0, r1, r2, r3, y0, y1, y2, y3, hlR⟩ := HR5.out.cells
    obtain ⟨e0, e1, z0, z1, hF⟩ := HR5.out.flt.cells
    obtain ⟨s0, s1, s2, s3⟩ := HR5.out.ids
    clear F0
    go_wp2_with fail
    go_region
    all_goals
      go_wp2
      refine bodyPost_ret (results_cell_cell _ _ (w.heap.size + 1 + 1) 31 #[.int .i64 10, .int .i64 (-7)] (0, 0) _ rfl rfl HFIN.out.2.1 Tryz.underlying31 rfl (by kernel_rfl) rfl HFIN.out.1 Tryz.underlying29 rfl (by kernel_rfl)) rfl ?_
      exact ⟨HFIN.out.2.2, false, _, [], 0, 0, 10, (-7), rfl, Ints.nil _, .inl ⟨by decide, NF.out, rfl, rfl, rfl, rfl⟩⟩
  · have HX := Lib.hid hx; have OK := Lib.hid hok; have HPM := Lib.hid hperm
    have KA := (Keeps.refl (fun _ => False) w4).alloc (.cells #[.int .i64 0, .int .i64 0] 31)
    have HW := Lib.hid (hw.keeps0 KA)
    have HB5 := Lib.hid (HB4.out.keeps0 KA); have HT5 := Lib.hid (HT4.out.keeps0 KA); have HR5 := Lib.hid (HR4.out.keeps0 KA)
    have HVL := Lib.hid (Sl.keeps0 (Sl.of_own hvl) KA)
    have F0 := heap_alloc_new w4 (.cells #[.int .i64 0, .int .i64 0] 31)
    clear hok hx hw KA hperm hvl
    go_upto_region 2 with fail
    generalize w4.alloc (.cells #[.int .i64 0, .int .i64 0] 31) = w5 at HW HB5 HT5 HR5 F0 HVL ⊢
    have f0 : w5.cell? ⟨w4.heap.size, 0, none⟩ = some (.int .i64 0) := by rw [cell_of_blk F0]; rfl
    have f1 : w5.cell? ⟨w4.heap.size, 1, none⟩ = some (.int .i64 0) := by rw [cell_of_blk F0]; rfl
    clear F0
    have HND := Lib.hid (costs_need OK.out HX.out HPM.out)
    obtain ⟨av, cv, hav, hmv⟩ := Sl.formN HVL.out
    subst hav
    go_wp2_with fail
    refine (meet_any w5 b (wd t.init) (wd t.goal) _ v _ (wordsOf t.ops) ws HW.out (wops_ok OK.out) HND.out.2.2.1 HND.out.2.1 HND.out.2.2.2.1 HND.out.2.2.2.2.1 HND.out.2.2.2.2.2.1 (ops_cost0 OK.out) HND.out.2.2.2.2.2.2.2 HVL.out).mono ?_
    rintro e w6 ⟨hk6, sf, sb, at_, found, best, P, P', par, par', dn, dn', A, A', tq, tq', F, F', mf, pf, rf, df, qf, mb, pb, rb, db, qb, rfl, hsf, hsb, hif, hib, hmi, hen⟩
    have HB6 := Lib.hid (HB5.out.keeps0 hk6); have HT6 := Lib.hid (HT5.out.keeps0 hk6); have HR6 := Lib.hid (HR5.out.keeps0 hk6); have HVL6 := Lib.hid (Sl.keeps0 HVL.out hk6)
    have HSF := Lib.hid hsf; have HSB := Lib.hid hsb
    have HPL := Lib.hid (meet_plain OK.out HX.out HPM.out hif hib hmi hen)
    have hl2 := HND.out.2.2.2.2.1
    have HLE := Lib.hid HPM.out.length_eq
    clear f0 f1 hsf hsb hif hib hmi hen HB5 HT5 HR5 HVL HW HB4 HT4 HR4 HND hk6
    go_wp2_with fail
    go_loopw [11, 40] (fun v11 v40 wr => ∃ i n : Nat, v11 = .int .i64 (n : Int) ∧ v40 = .int .i64 (i : Int) ∧ n ≤ i ∧ i ≤ ws.length ∧ Keeps (fun _ => False) w6 wr) (fun _ v40 _ => ws.length - (intOf v40).toNat)
    case atStart => exact ⟨0, 0, rfl, rfl, Nat.le_refl _, Nat.zero_le _, Keeps.refl _ _⟩
    case round =>
      obtain ⟨i, n, rfl, rfl, hni, hil, hkr⟩ := hrel
      by_cases hlt : i < ws.length
      · obtain ⟨bl, ol, rfl, hx'⟩ := Sl.cellN HVL6.out rfl (by omega)
        obtain ⟨s, hs⟩ : ∃ s, ws[i]? = some s := ⟨_, List.getElem?_eq_getElem hlt⟩
        have hu := hkr.cell (hx' i (.int .u32 (s : Int)) (by rw [List.getElem?_map, hs]; rfl)) (fun h => h)
        have hilt : (i : Int) < (ws.length : Int) := by omega
        have HSF1 := Lib.hid (HSF.out.keeps0 hkr); have HSB1 := Lib.hid (HSB.out.keeps0 hkr)
        have c3 : wr.cell? ⟨sf, 3, none⟩ = some (.map (some df)) := (cell_of_blk HSF1.out.blk).trans rfl
        have l3 := lt_of_heap HSF1.out.blk
        obtain ⟨q1, hq1⟩ := done_look HSF1.out.done s
        clear hx' hs
        go_upto_region 10 with fail
        have KA := (Keeps.refl (fun _ => False) wr).alloc (.cells #[] 117)
        have HSB2 := Lib.hid (HSB1.out.keeps0 KA)
        have HKR := Lib.hid (hkr.trans KA)
        generalize (wr.alloc (.cells #[] 117)) = wa at HSB2 HKR ⊢
        clear c3 l3 hq1 hu HSF1 HSB1 hkr KA
        have c3 : wa.cell? ⟨sb, 3, none⟩ = some (.map (some db)) := (cell_of_blk HSB2.out.blk).trans rfl
        have l3 := lt_of_heap HSB2.out.blk
        obtain ⟨q2, hq2⟩ := done_look HSB2.out.done s
        have KB := Lib.hid (HKR.out.alloc (.cells #[] 117))
        cases q1 with
        | true =>
          go_wp2_with fail
          go_roundw
          case rel => exact ⟨i + 1, n + 1, by go_num, by go_num, by omega, by omega, KB.out⟩
          case measure => simp [intOf]; omega
        | false =>
          cases q2 with
          | true =>
            go_wp2_with fail
            go_roundw
            case rel => exact ⟨i + 1, n + 1, by go_num, by go_num, by omega, by omega, KB.out⟩
            case measure => simp [intOf]; omega
          | false =>
            go_wp2_with fail
            go_roundw
            case rel => exact ⟨i + 1, n, rfl, by go_num, by omega, by omega, KB.out⟩
            case measure => simp [intOf]; omega
      · obtain rfl : i = ws.length := by omega
        have HB7 := Lib.hid (HB6.out.keeps0 hkr); have HT7 := Lib.hid (HT6.out.keeps0 hkr); have HR7 := Lib.hid (HR6.out.keeps0 hkr); have HSF7 := Lib.hid (HSF.out.keeps0 hkr); have HSB7 := Lib.hid (HSB.out.keeps0 hkr)
        clear hkr HB6 HT6 HR6 HSF HSB HVL6
        obtain ⟨d0, d1, d2, d3⟩ := HB7.out
        have hbx := HB7.out.lt
        have HN := Lib.hid (show 0 ≤ (n : Int) ∧ (n : Int) ≤ (l.length : Int) from ⟨by omega, by have := HLE.out; omega⟩)
        rcases HPL.out with ⟨rfl, hbt⟩ | ⟨rfl, hbt, hb0, hat, o1, o2, e, a, b', hPa, hPb, hmid⟩
        · have HBT := Lib.hid hbt
          clear HPL hbt
          go_wp2_with fail
          refine (result_any wr _ _ _ _ t [] false (n : Int) HT7.out OK.out (Ints.nil _) (fun z hz => by simp at hz)).mono ?_
          rintro e w8 ⟨hk8, hr8⟩
          rcases hr8 with ⟨h60, rfl⟩ | ⟨h60, rfl⟩
          · simp at h60
          have HR8 := Lib.hid (HR7.out.keeps0 hk8)
          obtain ⟨r0, r1, r2, r3, y0, y1, y2, y3, hlR⟩ := HR8.out.cells
          obtain ⟨e0, e1, z0, z1, hF⟩ := HR8.out.flt.cells
          have HFIN := Lib.hid (HR8.out.set (.bool false) (.slice none 0 0) (.int .i64 (costL t [])) (.int .i64 (n : Int)) (.int .i64 0) (.int .i64 0))
          simp only [resV, fltV]
          clear d0 d1 d2 d3 hbx hk8 h60
          go_wp2_with fail
          refine bodyPost_ret (results_cell_cell _ _ (w.heap.size + 1 + 1) 31 #[.int .i64 0, .int .i64 0] (0, 0) _ rfl rfl HFIN.out.2.1 Tryz.underlying31 rfl (by kernel_rfl) rfl HFIN.out.1 Tryz.underlying29 rfl (by kernel_rfl)) rfl ?_
          exact ⟨HFIN.out.2.2.1, false, _, [], 0, (n : Int), 0, 0, rfl, Ints.nil _, bplan_none OK.out HX.out HBT.out HN.out⟩
        · have HM := Lib.hid hmid; have HBT := Lib.hid hbt
          have hl1 := hmid.l1; have hl2' := hmid.l2
          clear HPL hPa hPb hmid hbt hat
          have e1 : o1.map (fun n : Nat => Value.int .i64 (n : Int)) = (intsP o1).map (Value.int .i64) := by unfold intsP; rw [List.map_map]; rfl
          have e2 : o2.map (fun n : Nat => Value.int .i64 (n : Int)) = (intsP o2).map (Value.int .i64) := by unfold intsP; rw [List.map_map]; rfl
          have n1 : (intsP o1).length = o1.length := by unfold intsP; rw [List.length_map]
          have n2 : (intsP o2).length = o2.length := by unfold intsP; rw [List.length_map]
          go_wp2_with fail
          refine (back_any wr sf rf at_ (wd t.init) _ _ _ _ par o1 HSF7.out.blk HSF7.out.par_ HM.out.c1 (by omega)).mono ?_
          rintro en w8 ⟨v1, rfl, hrow8, hk8⟩
          rw [e1, ← n1] at hrow8
          go_wp2_with fail
          refine (reverse_any w8 wr.heap.size 3 v1 (intsP o1) hrow8 (by omega)).mono ?_
          rintro en w9 ⟨rfl, hrow9, hk9⟩
          have hlo1 : ∀ k, v1.ownBlock = some k → wr.heap.size ≤ k := fun k hk => (hrow9.lt k hk).1
          have K9 : Keeps (fun _ => False) wr w9 := hk8.trans' hk9 (fun i hi => .inr (hlo1 i hi))
          have KD := K9.drew
          have HLO1 := Lib.hid hlo1; have HKD := Lib.hid KD
          have HSBd := Lib.hid (HSB7.out.keeps0 KD)
          have ROW1 := Lib.hid (((Keeps.refl (fun _ => False) w9).drew).ownsRow hrow9 (fun _ _ h => h))
          have D0 := KD.cell d0 (fun h => h); have D1 := KD.cell d1 (fun h => h); have D2 := KD.cell d2 (fun h => h); have D3 := KD.cell d3 (fun h => h)
          clear d0 d1 d2 d3 hrow8 hk8 hrow9 hk9 K9 KD hlo1
          have EQN := Lib.hid (show (intsP (o1.reverse ++ o2)).length = (intsP o1).length + o2.length by unfold intsP; simp)
          have EQL := Lib.hid (show (intsP (o1.reverse ++ o2)).map (Value.int .i64) = (intsP o1).reverse.map (Value.int .i64) ++ o2.map (fun n : Nat => Value.int .i64 (n : Int)) by unfold intsP; simp [Function.comp_def])
          have HPIN := Lib.hid (planIn_run HM.out.run)
          have HNB := Lib.hid (show ∀ k, v1.ownBlock = some k → w.heap.size < k ∧ w.heap.size + 1 < k ∧ w.heap.size + 1 + 1 < k from fun k hk => by
            have h1 := HLO1.out k hk
            have h2 := lt_of_heap HR7.out.flt.blk
            omega)
          have HBA := Lib.hid (show w.heap.size + 1 + 1 < wr.heap.size from lt_of_heap HR7.out.flt.blk)
          obtain ⟨i0, hi0, hz0, hz1, hz2⟩ := info_parts Tryz.info3
          have hn1 : (intsP o1).length ≤ 2000 := by omega
          go_wp2_with fail
          by_cases h60 : (intsP (o1.reverse ++ o2)).length ≤ 60
          · have H60 := Lib.hid h60
            clear h60
            go_region_held3 (fun w' => w'.cell? ⟨w.heap.size, 0, none⟩ = some (.int .i64 t.n) ∧ w'.cell? ⟨w.heap.size, 1, none⟩ = some (.slice ai t.init.length ci) ∧ w'.cell? ⟨w.heap.size, 2, none⟩ = some (.slice ag t.goal.length cg) ∧ w'.cell? ⟨w.heap.size, 3, none⟩ = some (.slice ao t.ops.length co))
              (first | go_keep | with_reducible exact ⟨E0.out, E1.out, E2.out, E3.out⟩)
              (first
                | (go_at_call 75; refine (back_any _ sb rb at_ e _ _ _ _ par' o2 HSBd.out.blk HSBd.out.par_ HM.out.c2 (by omega)).mono ?_; rintro en wA ⟨v2, rfl, hrow2, hkA⟩; have A0 := hkA.cell D0 (fun h => h); have A1 := hkA.cell D1 (fun h => h); have A2 := hkA.cell D2 (fun h => h); have A3 := hkA.cell D3 (fun h => h); have ROW1A := Lib.hid (hkA.ownsRow ROW1.out (fun _ _ h => h)); have SL2 := Lib.hid (Sl.of_own hrow2); have HKA := Lib.hid (HKD.out.trans hkA); have hzA := HKA.out.size; clear hrow2 hkA)
                | (refine step_append_src rfl _ _ _ rfl wr.heap.size 3 i0 _ 8 Tryz.underlying22 hi0 hz0 hz1 hz2 rfl v1 (intsP o1).length ((intsP o1).reverse.map (Value.int .i64)) (by rfl) ROW1A.out v2 o2.length (o2.map fun n : Nat => Value.int .i64 (n : Int)) (by rfl) SL2.out (by simp) (by simp [Value.oneCell']) (by unfold maxLen; omega) (by omega) hzA ?_; rintro v3 wB hrow3 hgr3; have KBG : Keeps (fun k => v1.ownBlock = some k) wA wB := (Keeps.refl _ wA).grown hgr3 (fun k hk => .inl hk); have B0 := KBG.cell A0 (fun e => Nat.lt_irrefl _ (HNB.out _ e).1); have B1 := KBG.cell A1 (fun e => Nat.lt_irrefl _ (HNB.out _ e).1); have B2 := KBG.cell A2 (fun e => Nat.lt_irrefl _ (HNB.out _ e).1); have B3 := KBG.cell A3 (fun e => Nat.lt_irrefl _ (HNB.out _ e).1); have KB := HKA.out.trans' KBG (fun i hi => .inr (HLO1.out i hi)); have HT8 := Lib.hid (HT7.out.keeps0 KB); have HR8 := Lib.hid (HR7.out.keeps0 KB); rw [← EQL.out, ← EQN.out] at hrow3; have HLO3 := Lib.hid (show ∀ k, v3.ownBlock = some k → wr.heap.size ≤ k from fun k hk => (hrow3.lt k hk).1); have hi3 := Ints.of_own hrow3; obtain ⟨a3, c3, hv3, _⟩ := hi3.form; subst hv3; have HI3 := Lib.hid hi3; clear hrow3 hgr3 KBG KB hi3 A0 A1 A2 A3)
                | (go_at_call 49; refine (result_fit _ _ _ _ _ t (intsP (o1.reverse ++ o2)) true (n : Int) HT8.out OK.out HI3.out HPIN.out (by have := H60.out; omega)).mono ?_; rintro en wC ⟨rfl, hkC⟩; have C0 := hkC.cell B0 (fun h => h); have C1 := hkC.cell B1 (fun h => h); have C2 := hkC.cell B2 (fun h => h); have C3 := hkC.cell B3 (fun h => h); have HRC := Lib.hid (HR8.out.keeps0 hkC); have HI4 := Lib.hid (HI3.out.keeps0 hkC); obtain ⟨r0, r1, r2, r3, y0, y1, y2, y3, hlR⟩ := HRC.out.cells; obtain ⟨e0, e1, z0, z1, hF⟩ := HRC.out.flt.cells; have HFIN := Lib.hid (HRC.out.set (.bool true) (.slice a3 (intsP (o1.reverse ++ o2)).length c3) (.int .i64 (costL t (intsP (o1.reverse ++ o2)))) (.int .i64 (n : Int)) (.int .i64 0) (.int .i64 0)); have hne : ¬ (w.heap.size = w.heap.size + 1 ∨ w.heap.size = w.heap.size + 1 + 1) := (by omega); have E0 := Lib.hid (HFIN.out.2.2.2.cell C0 hne); have E1 := Lib.hid (HFIN.out.2.2.2.cell C1 hne); have E2 := Lib.hid (HFIN.out.2.2.2.cell C2 hne); have E3 := Lib.hid (HFIN.out.2.2.2.cell C3 hne); clear hkC B0 B1 B2 B3 hne))
            all_goals
              go_wp2_with fail
              refine bodyPost_ret (results_cell_cell _ _ (w.heap.size + 1 + 1) 31 #[.int .i64 0, .int .i64 0] (0, 0) _ rfl rfl HFIN.out.2.1 Tryz.underlying31 rfl (by kernel_rfl) rfl HFIN.out.1 Tryz.underlying29 rfl (by kernel_rfl)) rfl ?_
              refine ⟨HFIN.out.2.2.1, true, _, _, _, (n : Int), 0, 0, rfl, ?_, bplan_short OK.out HX.out HBT.out hb0 HM.out.run HM.out.acc HM.out.len HM.out.cost (by have h1 := H60.out; unfold intsP at h1; rw [List.length_map] at h1; exact h1) HN.out⟩
              refine HI4.out.keepsS HFIN.out.2.2.2 (fun h0 j hj e' => ?_)
              have h1 := HLO3.out j hj
              have h2 := HBA.out
              omega
          · have H60 := Lib.hid h60
            clear h60
            go_region_held3 (fun w' => w'.cell? ⟨w.heap.size, 0, none⟩ = some (.int .i64 t.n) ∧ w'.cell? ⟨w.heap.size, 1, none⟩ = some (.slice ai t.init.length ci) ∧ w'.cell? ⟨w.heap.size, 2, none⟩ = some (.slice ag t.goal.length cg) ∧ w'.cell? ⟨w.heap.size, 3, none⟩ = some (.slice ao t.ops.length co))
              (first | go_keep | with_reducible exact ⟨E0.out, E1.out, E2.out, E3.out⟩)
              (first
                | (go_at_call 75; refine (back_any _ sb rb at_ e _ _ _ _ par' o2 HSBd.out.blk HSBd.out.par_ HM.out.c2 (by omega)).mono ?_; rintro en wA ⟨v2, rfl, hrow2, hkA⟩; have A0 := hkA.cell D0 (fun h => h); have A1 := hkA.cell D1 (fun h => h); have A2 := hkA.cell D2 (fun h => h); have A3 := hkA.cell D3 (fun h => h); have ROW1A := Lib.hid (hkA.ownsRow ROW1.out (fun _ _ h => h)); have SL2 := Lib.hid (Sl.of_own hrow2); have HKA := Lib.hid (HKD.out.trans hkA); have hzA := HKA.out.size; clear hrow2 hkA)
                | (refine step_append_src rfl _ _ _ rfl wr.heap.size 3 i0 _ 8 Tryz.underlying22 hi0 hz0 hz1 hz2 rfl v1 (intsP o1).length ((intsP o1).reverse.map (Value.int .i64)) (by rfl) ROW1A.out v2 o2.length (o2.map fun n : Nat => Value.int .i64 (n : Int)) (by rfl) SL2.out (by simp) (by simp [Value.oneCell']) (by unfold maxLen; omega) (by omega) hzA ?_; rintro v3 wB hrow3 hgr3; have KBG : Keeps (fun k => v1.ownBlock = some k) wA wB := (Keeps.refl _ wA).grown hgr3 (fun k hk => .inl hk); have B0 := KBG.cell A0 (fun e => Nat.lt_irrefl _ (HNB.out _ e).1); have B1 := KBG.cell A1 (fun e => Nat.lt_irrefl _ (HNB.out _ e).1); have B2 := KBG.cell A2 (fun e => Nat.lt_irrefl _ (HNB.out _ e).1); have B3 := KBG.cell A3 (fun e => Nat.lt_irrefl _ (HNB.out _ e).1); have KB := HKA.out.trans' KBG (fun i hi => .inr (HLO1.out i hi)); have HT8 := Lib.hid (HT7.out.keeps0 KB); have HR8 := Lib.hid (HR7.out.keeps0 KB); rw [← EQL.out, ← EQN.out] at hrow3; have HLO3 := Lib.hid (show ∀ k, v3.ownBlock = some k → wr.heap.size ≤ k from fun k hk => (hrow3.lt k hk).1); have hi3 := Ints.of_own hrow3; obtain ⟨a3, c3, hv3, _⟩ := hi3.form; subst hv3; have HI3 := Lib.hid hi3; clear hrow3 hgr3 KBG KB hi3 A0 A1 A2 A3)
                | (go_at_call 49; refine (result_long _ _ _ _ _ t (intsP (o1.reverse ++ o2)) true (n : Int) HT8.out OK.out HI3.out HPIN.out (by have := H60.out; omega)).mono ?_; rintro en wC ⟨rfl, hkC⟩; have C0 := hkC.cell B0 (fun h => h); have C1 := hkC.cell B1 (fun h => h); have C2 := hkC.cell B2 (fun h => h); have C3 := hkC.cell B3 (fun h => h); have HRC := Lib.hid (HR8.out.keeps0 hkC); have HI4 := Lib.hid (HI3.out.keeps0 hkC); obtain ⟨r0, r1, r2, r3, y0, y1, y2, y3, hlR⟩ := HRC.out.cells; obtain ⟨e0, e1, z0, z1, hF⟩ := HRC.out.flt.cells; have HFIN := Lib.hid (HRC.out.set (.bool false) (.slice none 0 0) (.int .i64 0) (.int .i64 0) (.int .i64 10) (.int .i64 (-9))); have hne : ¬ (w.heap.size = w.heap.size + 1 ∨ w.heap.size = w.heap.size + 1 + 1) := (by omega); have E0 := Lib.hid (HFIN.out.2.2.2.cell C0 hne); have E1 := Lib.hid (HFIN.out.2.2.2.cell C1 hne); have E2 := Lib.hid (HFIN.out.2.2.2.cell C2 hne); have E3 := Lib.hid (HFIN.out.2.2.2.cell C3 hne); clear hkC B0 B1 B2 B3 hne))
            all_goals
              go_wp2_with fail
              refine bodyPost_ret (results_cell_cell _ _ (w.heap.size + 1 + 1) 31 #[.int .i64 10, .int .i64 (-9)] (0, 0) _ rfl rfl HFIN.out.2.1 Tryz.underlying31 rfl (by kernel_rfl) rfl HFIN.out.1 Tryz.underlying29 rfl (by kernel_rfl)) rfl ?_
              exact ⟨HFIN.out.2.2.1, false, _, [], 0, 0, 10, -9, rfl, Ints.nil _, bplan_long OK.out HX.out HBT.out hb0 HM.out.len (by have h1 := H60.out; unfold intsP at h1; rw [List.length_map] at h1; omega)⟩

end Go.Proofs.YtcpmjoabhnfddaaGreat

namespace Go.Proofs.YtcpmjoabhnfddaaGreat
open Go.RowKit Go.Shelf

theorem results_tmp4_cell {P : Program} {fn : Func} {ty : TypeId} (tmps : Array Value) (w : World) (g : Nat) (t : TypeId) (cs : Array Value) (fr : Nat × Nat) (d : TypeDesc) {s1 s2 s3 s4 p : Tmp} (h : fn.results = #[.tmp s1, .tmp s2, .tmp s3, .tmp s4, .cell p ty]) (hp : tmps.getD p undef = .pointer (some ⟨g, 0, none⟩)) (hg : w.heap[g]? = some (.cells cs t fr))
    (hu : P.underlying ty = some d) (hd : (match d with | .struct _ | .array _ _ => true | _ => false) = true) (hi : (P.info? ty).map (·.size) = some cs.size) :
    (results fn tmps).run P w = .ok (.tuple #[tmps.getD s1 undef, tmps.getD s2 undef, tmps.getD s3 undef, tmps.getD s4 undef, .agg cs]) w := by
  have hp' : tmps[p]?.getD undef = .pointer (some ⟨g, 0, none⟩) := by simpa using hp
  simp [results, h, hp', asAddr, run_loadVar_row w g t ty cs fr d hg hu hd hi]

/-- The state m lies on the way of a cheapest plan, and its parts cost a and b. -/
structure MidQ (t : Tsk) (m : Nat) (a b : Int) : Prop where
  ex : ∃ p q e best, BestT t best ∧ 0 ≤ best ∧ runOps (wordsOf t.ops) (wd t.init) p = some m ∧ runOps (wordsOf t.ops) m q = some e ∧ goalB (wd t.goal) e = true ∧ costN (wordsOf t.ops) p = a ∧ costN (wordsOf t.ops) q = b ∧ p.length ≤ 2000 ∧ q.length ≤ 2000 ∧
    (∀ r, runOps (wordsOf t.ops) (wd t.init) r = some m → a ≤ costN (wordsOf t.ops) r) ∧ (∀ r y, runOps (wordsOf t.ops) m r = some y → goalB (wd t.goal) y = true → b ≤ costN (wordsOf t.ops) r) ∧
    (∀ r y, runOps (wordsOf t.ops) (wd t.init) r = some y → goalB (wd t.goal) y = true → a + b ≤ costN (wordsOf t.ops) r)
  lo : 0 ≤ a ∧ a ≤ 1000000000 ∧ 0 ≤ b ∧ b ≤ 1000000000

theorem Mid.q {t : Tsk} {best : Int} {at_ : Nat} {par par' : Nat → Option SArc} {a b : Int} {o1 o2 : List Nat} {e : Nat} (h : Mid t best at_ par par' a b o1 o2 e) (hb : BestT t best) (h0 : 0 ≤ best) : MidQ t at_ (a / 4096) (b / 4096) := by
  have ha := h.a0; have hb' := h.b0
  refine ⟨⟨o1.reverse, o2, e, best, hb, h0, h.r1, h.r2, h.acc, h.m1.symm, h.m2.symm, by rw [List.length_reverse]; exact h.l1, h.l2, by rw [h.m1]; exact h.q1, by rw [h.m2]; exact h.q2, by rw [h.m1, h.m2]; exact h.q3⟩, by omega, by omega, by omega, by omega⟩

def MidIs (t : Tsk) (xs : List Int) (a b : Int) (ok : Bool) (fc fi : Int) : Prop :=
  (fc ≠ 0 ∧ expF t = (fc, fi) ∧ ok = false ∧ xs = [] ∧ a = 0 ∧ b = 0) ∨
  (expF t = (0, 0) ∧ fc = 0 ∧ fi = 0 ∧ t.Ok ∧ ∃ l, explored t = some l ∧ ((BestT t (-1) ∧ ok = false ∧ xs = [] ∧ a = 0 ∧ b = 0) ∨ (∃ m, ok = true ∧ xs = facts m ∧ m ∈ l ∧ MidQ t m a b)))
def MidPost (t : Tsk) (w : World) (e : Ending) (w' : World) : Prop := Keeps (fun _ => False) w w' ∧ ∃ vs xs a b ok fc fi, e = .returned (.tuple #[vs, .int .i64 a, .int .i64 b, .bool ok, fltV fc fi]) ∧ Ints w' vs xs ∧ MidIs t xs a b ok fc fi

theorem price_look {w : World} {mb : Nat} {P : Nat → Option Int} (hm : FMap w mb intV P) {x : Nat} {a : Int} (hx : P x = some a) : (Instr.lookup 75 (.map (some mb)) (.int .u32 (x : Int)) false).run Tryz.prog w = .ok (.int .i64 a) w :=
  (hm.look_some (P := Tryz.prog) Tryz.underlying75 Tryz.underlying77 hx).2

set_option maxRecDepth 100000 in
set_option maxHeartbeats 4000000 in
theorem middle_any (w : World) (vi vg vo : Value) (t : Tsk) (h : TaskAt w vi vg vo t) :
    Calls Tryz.prog 73 #[.agg #[.int .i64 t.n, vi, vg, vo]] w (MidPost t w) := by
  obtain ⟨ai, ci, h1, _⟩ := h.init.form
  obtain ⟨ag, cg, h2, _⟩ := h.goal.form
  obtain ⟨ao, co, h3, hmo⟩ := h.ops.form
  subst h1 h2 h3
  have K1 := (Keeps.refl (fun _ => False) w).alloc (.cells #[.int .i64 t.n, .slice ai t.init.length ci, .slice ag t.goal.length cg, .slice ao t.ops.length co] 25)
  have HT := h.keeps0 (K1.alloc (.cells #[.int .i64 0, .int .i64 0] 31))
  have HB := (Four.new w (.int .i64 t.n) (.slice ai t.init.length ci) (.slice ag t.goal.length cg) (.slice ao t.ops.length co) 25).keeps0 ((Keeps.refl _ _).alloc (.cells #[.int .i64 0, .int .i64 0] 31))
  have HF : Flt w ((w.alloc (.cells #[.int .i64 t.n, .slice ai t.init.length ci, .slice ag t.goal.length cg, .slice ao t.ops.length co] 25)).alloc (.cells #[.int .i64 0, .int .i64 0] 31)) (w.heap.size + 1) 31 :=
    ⟨by have := heap_alloc_new (w.alloc (.cells #[.int .i64 t.n, .slice ai t.init.length ci, .slice ag t.goal.length cg, .slice ao t.ops.length co] 25)) (.cells #[.int .i64 0, .int .i64 0] 31); rwa [World.size_alloc] at this, by omega, K1.alloc _⟩
  replace HT := Lib.hid HT; replace HB := Lib.hid HB; replace HF := Lib.hid HF
  clear h K1
  go_enter Tryz.func73, Tryz.ntmps73
  go_upto_region 1 with fail
  generalize ((w.alloc (.cells #[.int .i64 t.n, .slice ai t.init.length ci, .slice ag t.goal.length cg, .slice ao t.ops.length co] 25)).alloc (.cells #[.int .i64 0, .int .i64 0] 31)) = w1 at HT HB HF ⊢
  have hbx := HB.out.lt
  obtain ⟨d0, d1, d2, d3⟩ := HB.out
  go_wp2_with fail
  refine (checked_any _ _ _ _ t HT.out).mono ?_; rintro e w2 ⟨hk, hr⟩
  have HF2 := Lib.hid (HF.out.keeps0 hk)
  clear d0 d1 d2 d3 hk hbx HT HB
  rcases hr with ⟨hc, rfl⟩ | ⟨hok, hx, rfl⟩ | ⟨hok, l, hx, b, v, vl, ws, rfl, hw, hperm, _, hvl⟩
  · have NF := Lib.hid (expF_bad hc)
    have HC := Lib.hid hc
    have hc2 : ((taskFault t).1 == 0) = false := by simpa using hc
    clear hc
    generalize hfe : taskFault t = f at hc2 NF HC ⊢
    clear hfe
    have HF3 := Lib.hid (HF2.out.keeps0 ((Keeps.refl _ _).alloc (.cells #[.int .i64 f.1, .int .i64 f.2] 31)))
    obtain ⟨e0, e1, z0, z1, hF⟩ := HF3.out.cells
    go_wp2_with fail
    go_region
    all_goals
      go_wp2
      refine bodyPost_ret (results_tmp4_cell _ _ (w.heap.size + 1) 31 #[.int .i64 f.1, .int .i64 f.2] (0, 0) _ rfl rfl (((Keeps.refl (fun _ => False) _).drew).heap (HF3.out.set (.int .i64 f.1) (.int .i64 f.2)).1 (fun h => h)) Tryz.underlying31 rfl (by kernel_rfl)) rfl ?_
      exact ⟨((HF3.out.set (.int .i64 f.1) (.int .i64 f.2)).2).drew, _, [], 0, 0, false, f.1, f.2, rfl, Ints.nil _, .inl ⟨HC.out, NF.out, rfl, rfl, rfl, rfl⟩⟩
  · have NF := Lib.hid (expF_many hok hx)
    clear hok hx
    have HF3 := Lib.hid (HF2.out.keeps0 ((Keeps.refl _ _).alloc (.cells #[.int .i64 10, .int .i64 (-7)] 31)))
    obtain ⟨e0, e1, z0, z1, hF⟩ := HF3.out.cells
    go_wp2_with fail
    go_region
    all_goals
      go_wp2
      refine bodyPost_ret (results_tmp4_cell _ _ (w.heap.size + 1) 31 #[.int .i64 10, .int .i64 (-7)] (0, 0) _ rfl rfl (((Keeps.refl (fun _ => False) _).drew).heap (HF3.out.set (.int .i64 10) (.int .i64 (-7))).1 (fun h => h)) Tryz.underlying31 rfl (by kernel_rfl)) rfl ?_
      exact ⟨((HF3.out.set (.int .i64 10) (.int .i64 (-7))).2).drew, _, [], 0, 0, false, 10, (-7), rfl, Ints.nil _, .inl ⟨by decide, NF.out, rfl, rfl, rfl, rfl⟩⟩
  · have HX := Lib.hid hx; have OK := Lib.hid hok; have HPM := Lib.hid hperm
    have KA := (Keeps.refl (fun _ => False) w2).alloc (.cells #[.int .i64 0, .int .i64 0] 31)
    have HW := Lib.hid (hw.keeps0 KA)
    have HF3 := Lib.hid (HF2.out.keeps0 KA)
    have HVL := Lib.hid (Sl.keeps0 (Sl.of_own hvl) KA)
    clear hx hok hw KA hperm hvl
    have HND := Lib.hid (costs_need OK.out HX.out HPM.out)
    obtain ⟨av, cv, hav, hmv⟩ := Sl.formN HVL.out
    subst hav
    go_wp2_with fail
    generalize w2.alloc (.cells #[.int .i64 0, .int .i64 0] 31) = w5 at HW HF3 HVL ⊢
    refine (meet_any w5 b (wd t.init) (wd t.goal) _ v _ (wordsOf t.ops) ws HW.out (wops_ok OK.out) HND.out.2.2.1 HND.out.2.1 HND.out.2.2.2.1 HND.out.2.2.2.2.1 HND.out.2.2.2.2.2.1 (ops_cost0 OK.out) HND.out.2.2.2.2.2.2.2 HVL.out).mono ?_
    rintro e w6 ⟨hk6, sf, sb, at_, found, best, P, P', par, par', dn, dn', A, A', tq, tq', F, F', mf, pf, rf, df, qf, mb, pb, rb, db, qb, rfl, hsf, hsb, hif, hib, hmi, hen⟩
    have HF6 := Lib.hid (HF3.out.keeps0 hk6)
    have HSF := Lib.hid hsf; have HSB := Lib.hid hsb
    have hF5 := lt_of_heap HF3.out.blk
    have hnf : sf ≠ w.heap.size + 1 := by have := hsf.lb; omega
    have hnb : sb ≠ w.heap.size + 1 := by have := hsb.lb; omega
    clear hF5
    have HPL := Lib.hid (meet_plain OK.out HX.out HPM.out hif hib hmi hen)
    obtain ⟨e0, e1, z0, z1, hF⟩ := HF6.out.cells
    clear hsf hsb hif hib hmi hen HVL HW HND hk6 HF3 HF2
    rcases HPL.out with ⟨rfl, hbt⟩ | ⟨rfl, hbt, hb0, hat, o1, o2, e, a, b', hPa, hPb, hmid⟩
    · have HBT := Lib.hid hbt
      clear HPL hbt HSF HSB
      go_wp2_with fail
      refine bodyPost_ret (results_tmp4_cell _ _ (w.heap.size + 1) 31 #[.int .i64 0, .int .i64 0] (0, 0) _ rfl rfl (HF6.out.set (.int .i64 0) (.int .i64 0)).1 Tryz.underlying31 rfl (by kernel_rfl)) rfl ?_
      exact ⟨(HF6.out.set (.int .i64 0) (.int .i64 0)).2, _, [], 0, 0, false, 0, 0, rfl, Ints.nil _, .inr ⟨expF_ok OK.out HX.out, rfl, rfl, OK.out, l, HX.out, .inl ⟨HBT.out, rfl, rfl, rfl, rfl⟩⟩⟩
    · have HQ := Lib.hid (hmid.q hbt hb0)
      have HAT := Lib.hid (HPM.out.mem_iff.1 hat)
      have ha0 := hmid.a0; have hb1 := hmid.b0
      have KD := (Keeps.refl (fun _ => False) w6).drew
      have HSFd := HSF.out.keeps0 KD; have HSBd := HSB.out.keeps0 KD
      have cf : w6.drew.cell? ⟨sf, 1, none⟩ = some (.map (some pf)) := (cell_of_blk HSFd.blk).trans rfl
      have cb : w6.drew.cell? ⟨sb, 1, none⟩ = some (.map (some pb)) := (cell_of_blk HSBd.blk).trans rfl
      have lf := price_look HSFd.price hPa
      have lb := price_look HSBd.price hPb
      have hlf : sf < w6.heap.size := lt_of_heap HSF.out.blk
      have hlb : sb < w6.heap.size := lt_of_heap HSB.out.blk
      have ea : IntKind.i64.wrap (a.tdiv 4096) = a / 4096 := by rw [Int.tdiv_eq_ediv_of_nonneg ha0.1]; exact IntWalk.i64_in _ (by omega)
      have eb : IntKind.i64.wrap (b'.tdiv 4096) = b' / 4096 := by rw [Int.tdiv_eq_ediv_of_nonneg hb1.1]; exact IntWalk.i64_in _ (by omega)
      have HLF := Lib.hid (show w.heap.size + 1 < w6.heap.size from lt_of_heap HF6.out.blk)
      have HPA := Lib.hid hPa; have HPB := Lib.hid hPb
      have HSFD := Lib.hid HSFd; have HSBD := Lib.hid HSBd; have HFD := Lib.hid (HF6.out.keeps0 KD)
      clear HPL hPa hPb hmid hbt hat KD HSFd HSBd HSF HSB
      go_wp2_with fail
      go_region_held3 (fun w' => w'.cell? ⟨sf, 1, none⟩ = some (.map (some pf)) ∧ w'.cell? ⟨sb, 1, none⟩ = some (.map (some pb)))
        (first | go_keep | with_reducible exact ⟨E0.out, E1.out⟩)
        (first | (go_at_call 61; refine (facts_any _ at_).mono ?_; rintro en w8 ⟨vx, rfl, hrow, hk8, _⟩; have cf8 := hk8.cell cf (fun h => h); have cb8 := hk8.cell cb (fun h => h); have lf8 := price_look (HSFD.out.keeps0 hk8).price HPA.out; have lb8 := price_look (HSBD.out.keeps0 hk8).price HPB.out; have HF8 := Lib.hid (HFD.out.keeps0 hk8); have hi8 := Ints.of_own hrow; obtain ⟨g0, g1, g2, g3, hF8⟩ := HF8.out.cells; have HI8 := Lib.hid hi8; have HLO8 := Lib.hid (show ∀ k, vx.ownBlock = some k → w6.heap.size ≤ k from fun k hk => (hrow.lt k hk).1); have E0 := Lib.hid ((keeps_pair (w := w8) (w.heap.size + 1) (.int .i64 0) (.int .i64 0)).cell cf8 hnf); have E1 := Lib.hid ((keeps_pair (w := w8) (w.heap.size + 1) (.int .i64 0) (.int .i64 0)).cell cb8 hnb); clear hrow hk8 hi8))
      all_goals
        go_wp2_with fail
        refine bodyPost_ret (results_tmp4_cell _ _ (w.heap.size + 1) 31 #[.int .i64 0, .int .i64 0] (0, 0) _ rfl rfl (HF8.out.set (.int .i64 0) (.int .i64 0)).1 Tryz.underlying31 rfl (by kernel_rfl)) rfl ?_
        refine ⟨(HF8.out.set (.int .i64 0) (.int .i64 0)).2, _, facts at_, a / 4096, b' / 4096, true, 0, 0, (by first | rfl | (simp only [ea, eb]; rfl)), ?_, .inr ⟨expF_ok OK.out HX.out, rfl, rfl, OK.out, l, HX.out, .inr ⟨at_, rfl, rfl, HAT.out, HQ.out⟩⟩⟩
        exact HI8.out.keepsS (keeps_pair (w := w8) (w.heap.size + 1) (.int .i64 0) (.int .i64 0)) (fun _ j hj e' => by have h1 := HLO8.out j hj; have h2 := HLF.out; omega)

end Go.Proofs.YtcpmjoabhnfddaaGreat

namespace Go.Proofs.YtcpmjoabhnfddaaGreat
open Go.RowKit

theorem Ints.take {w : World} {ao : Option Addr} {n cap k : Nat} {l : List Int} (h : Ints w (.slice ao n cap) l) (hk : k ≤ l.length) : Ints w (.slice ao k cap) (l.take k) := by
  obtain ⟨ao', cap', hv, hm, hc⟩ := h
  simp only [Value.slice.injEq] at hv
  obtain ⟨rfl, rfl, rfl⟩ := hv
  have hl : (l.take k).length = k := by rw [List.length_take]; omega
  refine ⟨ao, cap, by rw [hl], by rw [hl]; omega, fun h0 => ?_⟩
  rw [hl] at h0
  obtain ⟨b, off, ha, hx⟩ := hc (by omega)
  refine ⟨b, off, ha, fun j x hj => hx j x ?_⟩
  rw [List.getElem?_map, List.getElem?_take] at hj
  rw [List.getElem?_map]
  split at hj
  · exact hj
  · cases hj

end Go.Proofs.YtcpmjoabhnfddaaGreat
