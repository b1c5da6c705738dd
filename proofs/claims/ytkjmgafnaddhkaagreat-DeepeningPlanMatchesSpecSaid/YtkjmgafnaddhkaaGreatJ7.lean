/- deepening.search: a search with a bound; up to the end of its first loop. No condition beyond what each theorem says. -/
import Derived.Test.YtkjmgafnaddhkaaGreatJ6
import Derived.Test.YtkjmgafnaddhkaaGreatJ5
import Derived.Sort.LoopGhostIn
import Derived.Sort.CutIn
import Derived.BigQuiet
import Derived.RegionTactic


namespace Go.Proofs.YtkjmgafnaddhkaaGreat
open Go.RowKit Go.Shelf
attribute [local go_sem] Oper.semAt_some

theorem aprice_still (w : World) (c : Int) (hc : 0 ≤ c ∧ c ≤ 1000000) : Calls Tryz.prog 98 #[.int .i64 c] w fun e w' => e = .returned (.int .i64 (4096 * c + 1)) ∧ w' = w :=
  (aprice_any w c hc).mono fun _ _ h => ⟨h.1, h.2.symm⟩
/-- An operation that is not wanted. -/
theorem wpAnyHIn_skip {F : Fence} {rm : Nat} {P : Program} {Q : Exit → Act → World → Prop} {S : World → Prop} {late : Nat → Bool} (hF : Wide F) {l : List Oper} (i : Nat) {oi : Oper} {fuel : Nat} {listed : Array Bool} {a : Act} {w : World} (hi : l.toArray[i]? = some oi)
    (hs : Region.noSelect l.toArray = true) (hnd : noDefer l = true) (hf : Region.free .any l.toArray listed i = true) (hr : (Region.ready .any l.toArray listed).contains i = true) (hl : lateWaits .any l.toArray late i = true)
    (hQ : ∀ c a w, Q (.panic c) (a.put oi.dst undef) w → Q (.panic c) a w) (hS : S w) (hw : Region.wanted oi (yielded l.toArray a.tmps) = false)
    (h : wpAnyHIn F rm P .any l.toArray Q S late fuel (listed.setIfInBounds i true) (a.put oi.dst undef) w) : wpAnyHIn F rm P .any l.toArray Q S late (fuel + 1) listed a w :=
  wpAnyHIn_first hF hi (Region.noSelect_spec hs) (fun j o ho => noDefer_spec (l := l) hnd (by simpa using ho)) (lateWaits_spec hl) hQ fuel listed a w (Region.free_spec hi hf) (by simpa using hr) (.inr ⟨hw, rfl⟩) hS h

theorem Heur.mono {g : Nat} {pa cb : Array Value} {L : List Nat} {H : Nat → Int} {n0 B B' : Nat} {FH : Nat → Prop} {I : World → Prop} (h : Heur g pa cb L H n0 B FH I) (hb : B ≤ B') : Heur g pa cb L H n0 B' FH I :=
  ⟨h.enters, h.answers, fun hI hk hS => h.steady hI hk (fun k hk' => Nat.le_trans hb (hS k hk')), h.nd, fun k hk => ⟨(h.lo k hk).1, Nat.lt_of_lt_of_le (h.lo k hk).2 hb⟩⟩
/-- What search hands back. -/
def SrchPost (ops : List Wop) (L : List Nat) (st : Nat) (acc : Nat → Bool) (H : Nat → Int) (bd : Int) (w : World) (FH : Nat → Prop) (I : World → Prop) (e : Ending) (w' : World) : Prop :=
  Keeps FH w w' ∧ I w' ∧ ∃ (rb mp mr g : Nat) (P : Nat → Option Int) (par : Nat → Option SArc) (fnd : Bool) (nx : Int), e = .returned (.pointer (some ⟨rb, 0, none⟩)) ∧ w.heap.size ≤ rb ∧ w.heap.size ≤ mp ∧ w.heap.size ≤ mr ∧
    w'.heap[rb]? = some (.cells #[.map (some mp), .map (some mr), .int .i64 nx, .int .u32 (g : Int), .bool fnd] 84 (0, 0)) ∧ FMap w' mp intV P ∧ FMap w' mr backV (parF st par) ∧
    DeepI ops L st H bd P par [] 0 [] ∧ GoalOk acc P fnd g ∧ NextOk ops H bd (costP P) nx

set_option maxRecDepth 100000 in
set_option maxHeartbeats 16000000 in
theorem srch_in (w00 w : World) (b st g0 base : Nat) (v : Value) (ops : List Wop) (L : List Nat) (H : Nat → Int) (gh : Nat) (pa cb : Array Value) (FH : Nat → Prop) (I : World → Prop) (bd : Int)
    (hw : WordsAt w00 base b st g0 v ops) (k00 : Keeps (fun _ => False) w00 w) (hops : WopsOk ops) (hmany : ops.length ≤ 40) (hg0 : g0 < 4294967296) (hsh : Shut ops L) (hfew : L.length ≤ 2000) (hL32 : ∀ x ∈ L, x < 4294967296) (hcost : ∀ o ∈ ops, 0 ≤ o.cost ∧ o.cost ≤ 100) (hst : st ∈ L)
    (hh : Heur gh pa cb L H w00.heap.size w.heap.size FH I) (hI : I w) (hH : ∀ x ∈ L, 0 ≤ H x ∧ H x ≤ 1000000000) (_hbd : 0 ≤ bd ∧ bd < 1000000000) :
    CallsIn Fence.wide 9 Tryz.prog 76 #[.pointer (some ⟨b, 0, none⟩), .func (.func gh) pa cb, .int .i64 bd] w (SrchPost ops L st (goalB g0) H bd w FH I) := by
  have hmm := @run_makeMap Tryz.prog
  have eg := hh.enters
  have HW := Lib.hid hw; have K00 := Lib.hid k00; have HSH := Lib.hid hsh; have HL32 := Lib.hid hL32; have HCO := Lib.hid hcost; have HST := Lib.hid hst; have HH := Lib.hid hh; have HI := Lib.hid hI; have HHB := Lib.hid hH
  have hz00 := k00.size
  have HFEW := Lib.hid hfew
  clear hw k00 hsh hL32 hcost hst hh hI hH
  refine callsIn_of_wp_marks Tryz.func76 rfl trivial ?_ rfl
  simp only [Tryz.ntmps76, List.size_toArray, List.length_cons, List.length_nil, Nat.reduceAdd, Nat.reduceSub, Array.replicate_succ, Array.replicate_zero, List.push_toArray, List.append_toArray, List.nil_append, List.cons_append]
  have kA := (Keeps.refl (fun _ => False) w).alloc (.cells #[.func (.func gh) pa cb] 77)
  have kB := (Keeps.refl (fun _ => False) (w.alloc (.cells #[.func (.func gh) pa cb] 77))).alloc (.cells #[.int .i64 bd] 3)
  have HX4 := Lib.hid (kB.heap (Boxed.new w 77 (.func (.func gh) pa cb)) (fun h => h))
  have hx5 := heap_alloc_new (w.alloc (.cells #[.func (.func gh) pa cb] 77)) (.cells #[.int .i64 bd] 3)
  rw [World.size_alloc] at hx5
  have HX5 := Lib.hid hx5
  have KA := Lib.hid (kA.trans kB)
  have HI1 := Lib.hid (HH.out.steady HI.out KA.out (fun _ h => h.elim))
  have hs2 : ((w.alloc (.cells #[.func (.func gh) pa cb] 77)).alloc (.cells #[.int .i64 bd] 3)).heap.size = w.heap.size + 1 + 1 := by rw [World.size_alloc, World.size_alloc]
  have HSZ2 := Lib.hid hs2
  clear kA kB hx5 hs2
  gi_wp2
  refine ⟨trivial, ?_⟩
  refine (callsIn_wide.2 (start_any _ _ _ _ _ _ _ (HW.out.past (K00.out.trans KA.out)))).mono ?_; rintro e w1 ⟨rfl, rfl⟩
  generalize (w.alloc (.cells #[.func (.func gh) pa cb] 77)).alloc (.cells #[.int .i64 bd] 3) = w2 at HX4 HX5 KA HI1 HSZ2 ⊢
  have m1 := FMap.made w2 intV
  have s1 := Stamp.made w2
  obtain ⟨W4, hr4, hm4, hk4⟩ := m1.put (P := Tryz.prog) Tryz.underlying80 Tryz.underlying82 st 0
  have s4 := s1.put (P := Tryz.prog) m1 Tryz.underlying80 Tryz.underlying82 hr4
  have m2 := FMap.made W4 backV
  obtain ⟨W5, hr5, hm5, hk5⟩ := m2.put (P := Tryz.prog) Tryz.underlying81 Tryz.underlying82 st ⟨0, 0, st⟩
  unfold intV at hr4
  replace hr5 : (Instr.mapUpdate 81 (.map (some W4.heap.size)) (.int .u32 (st : Int)) (.agg #[.int .u32 (st : Int), .int .i64 0])).run Tryz.prog (W4.alloc (.map #[] 0)) = .ok () W5 := hr5
  have HP1 := Lib.hid (And.intro hm4 (And.intro hk4 (And.intro hm5 (And.intro hk5 s4))))
  clear m1 m2 hm4 hk4 hm5 hk5 s1 s4
  gi_wp2
  obtain ⟨hm4, hk4, hm5, hk5, s4⟩ := HP1.out
  have hs2 := HSZ2.out
  have z4 := hk4.size
  rw [World.size_alloc] at z4
  have z5 := hk5.size
  rw [World.size_alloc] at z5
  have k24 : Keeps (fun _ => False) w2 W4 := ((Keeps.refl (fun _ => False) w2).alloc (.map #[] 0)).trans' hk4 (fun i e => .inr (by omega))
  have k45 : Keeps (fun _ => False) W4 W5 := ((Keeps.refl (fun _ => False) W4).alloc (.map #[] 0)).trans' hk5 (fun i e => .inr (by omega))
  have HSR := Lib.hid (show SrM w FH I (.func (.func gh) pa cb) w.heap.size (w.heap.size + 1) (W5.heap.size + 1) (W5.heap.size + 1 + 1 + 1) W5.heap.size w2.heap.size W4.heap.size bd (putP (fun _ => none) st 0) (parF st (fun _ => none)) [st] (.slice (some ⟨W5.heap.size + 1 + 1, 0, none⟩) 1 1)
      ((((W5.alloc (.cells #[.map (some w2.heap.size), .map (some W4.heap.size), .int .i64 1000000000, .int .u32 0, .bool false] 84)).alloc (.cells #[.pointer (some ⟨W5.heap.size, 0, none⟩)] 79)).alloc (.cells #[.int .u32 (st : Int)] 82)).alloc (.cells #[.slice (some ⟨W5.heap.size + 1 + 1, 0, none⟩) 1 1] 72)) ∧
      Stamp ((((W5.alloc (.cells #[.map (some w2.heap.size), .map (some W4.heap.size), .int .i64 1000000000, .int .u32 0, .bool false] 84)).alloc (.cells #[.pointer (some ⟨W5.heap.size, 0, none⟩)] 79)).alloc (.cells #[.int .u32 (st : Int)] 82)).alloc (.cells #[.slice (some ⟨W5.heap.size + 1 + 1, 0, none⟩) 1 1] 72)) w2.heap.size from by
    have kC := (Keeps.refl (fun _ => False) W5).alloc (.cells #[.map (some w2.heap.size), .map (some W4.heap.size), .int .i64 1000000000, .int .u32 0, .bool false] 84)
    have nC := heap_alloc_new W5 (.cells #[.map (some w2.heap.size), .map (some W4.heap.size), .int .i64 1000000000, .int .u32 0, .bool false] 84)
    have zC := World.size_alloc W5 (.cells #[.map (some w2.heap.size), .map (some W4.heap.size), .int .i64 1000000000, .int .u32 0, .bool false] 84)
    generalize (W5.alloc (.cells #[.map (some w2.heap.size), .map (some W4.heap.size), .int .i64 1000000000, .int .u32 0, .bool false] 84)) = W6 at kC nC zC ⊢
    have kD := (Keeps.refl (fun _ => False) W6).alloc (.cells #[.pointer (some ⟨W5.heap.size, 0, none⟩)] 79)
    have nD := heap_alloc_new W6 (.cells #[.pointer (some ⟨W5.heap.size, 0, none⟩)] 79)
    have zD := World.size_alloc W6 (.cells #[.pointer (some ⟨W5.heap.size, 0, none⟩)] 79)
    rw [zC] at nD zD
    generalize (W6.alloc (.cells #[.pointer (some ⟨W5.heap.size, 0, none⟩)] 79)) = W7 at kD nD zD ⊢
    have kE := (Keeps.refl (fun _ => False) W7).alloc (.cells #[.int .u32 (st : Int)] 82)
    have nE := Tail.new W7 w.heap.size 82 (.int .u32 (st : Int)) (by omega)
    have zE := World.size_alloc W7 (.cells #[.int .u32 (st : Int)] 82)
    rw [zD] at nE zE
    generalize (W7.alloc (.cells #[.int .u32 (st : Int)] 82)) = W8 at kE nE zE ⊢
    have kF := (Keeps.refl (fun _ => False) W8).alloc (.cells #[.slice (some ⟨W5.heap.size + 1 + 1, 0, none⟩) 1 1] 72)
    have nF := heap_alloc_new W8 (.cells #[.slice (some ⟨W5.heap.size + 1 + 1, 0, none⟩) 1 1] 72)
    rw [zE] at nF
    have k58 := kC.trans (kD.trans (kE.trans kF))
    have k28 := k24.trans (k45.trans k58)
    refine ⟨⟨(KA.out.trans k28).mono (fun _ _ h => h.elim), HH.out.steady HI1.out k28 (fun _ h => h.elim), (hm4.keeps k45 (fun h => h)).keeps k58 (fun h => h), ?_, nE.keeps kF (fun _ _ h => h), k28.heap HX4.out (fun h => h), k28.heap HX5.out (fun h => h), (kE.trans kF).heap nD (fun h => h), nF, (kD.trans (kE.trans kF)).heap nC (fun h => h), ?_, fun k hk => ?_⟩, ?_⟩
    · rw [← parF_start]; exact hm5.keeps k58 (fun h => h)
    · omega
    · simp [Value.ownBlock] at hk; omega
    · exact (s4.keeps k45 (fun h => h)).keeps k58 (fun h => h))
  clear hm4 hk4 hm5 hk5 s4 z4 z5 k24 k45 HP1 HX4 HX5 KA HI1 hr4 hr5
  generalize ((((W5.alloc (.cells #[.map (some w2.heap.size), .map (some W4.heap.size), .int .i64 1000000000, .int .u32 0, .bool false] 84)).alloc (.cells #[.pointer (some ⟨W5.heap.size, 0, none⟩)] 79)).alloc (.cells #[.int .u32 (st : Int)] 82)).alloc (.cells #[.slice (some ⟨W5.heap.size + 1 + 1, 0, none⟩) 1 1] 72)) = W9 at HSR ⊢
  generalize W5.heap.size + 1 + 1 + 1 = b9 at HSR ⊢
  generalize W5.heap.size + 1 + 1 = ba at HSR ⊢
  generalize W5.heap.size + 1 = b8 at HSR ⊢
  generalize W5.heap.size = rb at HSR ⊢
  generalize W4.heap.size = mr at HSR ⊢
  clear hs2
  generalize w2.heap.size = mp at HSR HSZ2 ⊢
  clear HSZ2
  obtain ⟨b4, hb4⟩ : ∃ b4, w.heap.size = b4 := ⟨_, rfl⟩
  obtain ⟨b5, hb5⟩ : ∃ b5, w.heap.size + 1 = b5 := ⟨_, rfl⟩
  have HSB : Hid (SrM w FH I (.func (.func gh) pa cb) b4 b5 b8 b9 rb mp mr bd (putP (fun _ => none) st 0) (parF st (fun _ => none)) [st] (.slice (some ⟨ba, 0, none⟩) 1 1) W9 ∧ Stamp W9 mp) := by rw [← hb4, ← hb5]; exact HSR
  rw [hb4] at hb5
  rw [hb4, hb5]
  have HB4 := Lib.hid hb4
  clear HSR hb5 hb4
  have HD0 := Lib.hid (DeepI.init (ops := ops) HST.out H bd)
  have hw0 : weightB L 900000000 (putP (fun _ => none) st (0 : Int)) ≤ 1800000000000 := by
    have h1 := startW L [st] 900000000
    have e1 : putP (fun _ => none) st (0 : Int) = startP [st] := by funext y; unfold putP startP; simp
    have h2 : L.length * 900000000 ≤ 2000 * 900000000 := Nat.mul_le_mul_right _ HFEW.out
    rw [e1]; omega
  obtain ⟨i0, hi0, hz0, hz1, hz2⟩ := info_parts Tryz.info_u32
  have hmix : Tryz.prog.follows .mixedOrders = true := by kernel_rfl
  refine wpIn_loop_ghost (fun n a' wr => ∃ (ds : List Deferred) (P : Nat → Option Int) (par : Nat → Option SArc) (A : List Nat) (vl : Value), SrM w FH I (.func (.func gh) pa cb) b4 b5 b8 b9 rb mp mr bd P (parF st par) A vl wr ∧ Stamp wr mp ∧ DeepI ops L st H bd P par A 0 [] ∧
      n = 2 * weightB L 900000000 P + A.length ∧ A.length + weightB L 900000000 P ≤ 1800000000001 ∧ Marks ds wr w.heap.size ∧
      ∃ u : Nat → Value, a' = { tmps := #[.pointer (some ⟨b, 0, none⟩), .func (.func gh) pa cb, .int .i64 bd, u 3, .pointer (some ⟨b4, 0, none⟩), .pointer (some ⟨b5, 0, none⟩), .pointer none, .int .u32 (st : Int), .pointer (some ⟨b8, 0, none⟩), .pointer (some ⟨b9, 0, none⟩), u 10, u 11, u 12, u 13, u 14, u 15, u 16, u 17, u 18, u 19, u 20, u 21, u 22, u 23, u 24, u 25, u 26, u 27, u 28, u 29, u 30, u 31, u 32, u 33, u 34, u 35, u 36, u 37, u 38, u 39, u 40, u 41, u 42, u 43, u 44, u 45, u 46, u 47, u 48, u 49, u 50, u 51, u 52, u 53, u 54, u 55, u 56, u 57, u 58, u 59, u 60, u 61, u 62, u 63, u 64, u 65, u 66, u 67, u 68, u 69, u 70, u 71, u 72, u 73, u 74, u 75, u 76, u 77, u 78, u 79, u 80, u 81, u 82, u 83, u 84, u 85, u 86, u 87, u 88, u 89, u 90, u 91, u 92, u 93, u 94, u 95, u 96, u 97, u 98, u 99, u 100, u 101, u 102, u 103, u 104, u 105, u 106, u 107, u 108, u 109, u 110, u 111, u 112, u 113, u 114, u 115, u 116, u 117, u 118, u 119, u 120, u 121, u 122, u 123, u 124, u 125, u 126, u 127, u 128, u 129, u 130, u 131, u 132, u 133, u 134, u 135, u 136, u 137, u 138, u 139, u 140, u 141, u 142, u 143, u 144, u 145, u 146, u 147, u 148, u 149, u 150, u 151, u 152, u 153, u 154, u 155, u 156, u 157, u 158, u 159, u 160, u 161, u 162, u 163, u 164, u 165, u 166, u 167, u 168, u 169, u 170, u 171, u 172, u 173, u 174, u 175, u 176, u 177, u 178, u 179, u 180, u 181, u 182, u 183, u 184, u 185, u 186, u 187, u 188, u 189, u 190, u 191, u 192, u 193, u 194, u 195, u 196, u 197, u 198, u 199, u 200, u 201, u 202, u 203, u 204, u 205, u 206], defers := ds }) (2 * weightB L 900000000 (putP (fun _ => none) st (0 : Int)) + 1) ?start1 ?round1
  case start1 => exact ⟨[], _, fun _ => none, [st], _, HSB.out.1, HSB.out.2, HD0.out, rfl, (show 1 + weightB L 900000000 (putP (fun _ => none) st (0 : Int)) ≤ 1800000000001 by omega), Marks.nil _ _, ex_fnD rfl⟩
  case round1 =>
    rintro n a wr ⟨ds, P, par, A, vl, hm, hsp, hd, hn, hwl, hmk, u, rfl⟩
    have HM := Lib.hid hm; have HSP := Lib.hid hsp; have HD := Lib.hid hd; have HMK := Lib.hid hmk
    clear hm hsp hd hmk HSB HD0 hw0
    have x9c := HM.out.x9.cell
    have x9f := HM.out.x9.frozen
    have x9l := HM.out.x9.lt
    obtain ⟨gl, off, cap, hv, hqc, hcm, hgb, hgl⟩ := HM.out.line.form
    subst hv
    rw [List.length_map] at *
    by_cases hA : A = []
    · subst hA
      have HDN := Lib.hid (HD.out.done HCO.out hfew)
      obtain ⟨wr2, rn, hrr, hrg, hkr⟩ := HM.out.price.range (P := Tryz.prog) HSP.out Tryz.underlying80
      have HR0 := Lib.hid (HM.out.two HH.out hkr hrg)
      have HMK2 := Lib.hid (HMK.out.keeps (KeepsD.of0 hkr))
      have x8c := HM.out.x8.cell
      have x8l := HM.out.x8.lt
      have xrc : wr.cell? ⟨rb, 0, none⟩ = some (.map (some mp)) := (cell_of_blk HM.out.xr).trans rfl
      have xrl := lt_of_heap HM.out.xr
      clear hrg hkr HM HMK HSP hcm hgb hgl hqc
      gi_wp2
      generalize wr.heap.size = rit at HR0 ⊢
      clear x9c x9f x9l x8c x8l xrc xrl hrr
      refine wpIn_loop_ghost (fun n a' wl => ∃ (ds : List Deferred) (nx : Int) (g : Nat) (fnd : Bool) (left : Nat → Bool), Sr2 w FH I (.func (.func gh) pa cb) b4 b5 b8 rb mp mr rit bd P (parF st par) nx g fnd left n wl ∧ GoalL (goalB g0) P left fnd g ∧ NxOk ops H bd P (fun z _ => left z = false) nx ∧ Marks ds wl w.heap.size ∧ g < 4294967296 ∧ ∃ u : Nat → Value, a' = { tmps := #[.pointer (some ⟨b, 0, none⟩), .func (.func gh) pa cb, .int .i64 bd, u 3, .pointer (some ⟨b4, 0, none⟩), .pointer (some ⟨b5, 0, none⟩), .pointer none, .int .u32 (st : Int), .pointer (some ⟨b8, 0, none⟩), .pointer (some ⟨b9, 0, none⟩), u 10, u 11, u 12, u 13, u 14, u 15, u 16, u 17, u 18, u 19, u 20, u 21, u 22, u 23, u 24, u 25, u 26, u 27, u 28, u 29, u 30, u 31, u 32, u 33, u 34, u 35, u 36, u 37, u 38, u 39, u 40, u 41, u 42, u 43, u 44, u 45, u 46, u 47, u 48, u 49, u 50, u 51, u 52, u 53, u 54, u 55, u 56, u 57, u 58, u 59, u 60, u 61, u 62, u 63, u 64, u 65, u 66, u 67, u 68, u 69, u 70, u 71, u 72, u 73, u 74, u 75, u 76, u 77, u 78, u 79, u 80, u 81, u 82, u 83, u 84, u 85, u 86, u 87, u 88, u 89, u 90, u 91, u 92, u 93, u 94, u 95, u 96, u 97, u 98, u 99, u 100, u 101, u 102, u 103, u 104, u 105, u 106, u 107, u 108, u 109, u 110, u 111, u 112, u 113, u 114, .pointer (some ⟨rit, 0, none⟩), u 116, u 117, u 118, u 119, u 120, u 121, u 122, u 123, u 124, u 125, u 126, u 127, u 128, u 129, u 130, u 131, u 132, u 133, u 134, u 135, u 136, u 137, u 138, u 139, u 140, u 141, u 142, u 143, u 144, u 145, u 146, u 147, u 148, u 149, u 150, u 151, u 152, u 153, u 154, u 155, u 156, u 157, u 158, u 159, u 160, u 161, u 162, u 163, u 164, u 165, u 166, u 167, u 168, u 169, u 170, u 171, u 172, u 173, u 174, u 175, u 176, u 177, u 178, u 179, u 180, u 181, u 182, u 183, u 184, u 185, u 186, u 187, u 188, u 189, u 190, u 191, u 192, u 193, u 194, u 195, u 196, u 197, u 198, u 199, u 200, u 201, u 202, u 203, u 204, u 205, u 206], defers := ds }) rn ?start2 ?round2
      case start2 => exact ⟨ds, _, _, _, _, HR0.out, GoalL.start _ _, NxOk.start _ _ _ _ (fun x p _ hp h => by rw [hp] at h; cases h), HMK2.out, by omega, ex_fnD rfl⟩
      case round2 =>
        rintro n2 a2 w2 ⟨ds2, nx, g, fnd, left, hm, hg, hx, hmk, hgu, u2, rfl⟩
        have HM2 := Lib.hid hm; have HG := Lib.hid hg; have HX := Lib.hid hx; have HMK3 := Lib.hid hmk
        clear hm hg hx hmk HR0 HMK2
        rcases HM2.out.rg.next Tryz.prog with ⟨hend, hnx⟩ | ⟨x, p, w3, cnt', hlx, hPx, hnx, hen, hrg3, hcnt, hk3⟩
        · have HGD := Lib.hid (HG.out.done hend)
          have HXD := Lib.hid (HX.out.done (fun z _ => hend z))
          have x8c := HM2.out.x8.cell
          have x8l := HM2.out.x8.lt
          gi_wp2
          refine leaves_marks HMK3.out (fun W' hk => ?_)
          obtain ⟨o1, o2, o3, o4, o5, o6, o7⟩ := HM2.out.ord
          have lo : ∀ k, w.heap.size ≤ k → ∀ cs T fr, w2.heap[k]? = some (.cells cs T fr) → W'.heap[k]? = some (.cells cs T fr) := fun k _ cs T fr h => hk.heap h (fun e => by have := e.2; rw [h] at this; cases this)
          refine ⟨.pointer (some ⟨rb, 0, none⟩), by simp [results, Tryz.results76, go_sem], HM2.out.keep.trans' hk (fun i hi => .inr hi.1), HH.out.steady HM2.out.hI hk (fun k e => e.1), rb, mp, mr, g, P, par, fnd, nx, rfl, by omega, by omega, by omega, lo rb (by omega) _ _ _ HM2.out.xr, HM2.out.rg.fmap.keeps hk (fun e => HM2.out.rg.fmap.not_deferred e.2), HM2.out.par_.keeps hk (fun e => HM2.out.par_.not_deferred e.2), HD.out, HGD.out, HXD.out⟩
        · obtain ⟨left1, hL1⟩ : ∃ l : Nat → Bool, (fun z => left z && decide (z ≠ x)) = l := ⟨_, rfl⟩
          rw [hL1] at hrg3
          have HL1 := Lib.hid hL1
          clear hL1
          have HM3 := Lib.hid (HM2.out.turned HH.out hk3 hrg3)
          have HMK4 := Lib.hid (HMK3.out.keeps (KeepsD.of hk3 (fun k hk => by rw [hk]; exact HM2.out.rg.nd)))
          clear HM2 HMK3 hrg3 hk3
          unfold intV at hnx hen
          have kx := (Keeps.refl (fun _ => False) w3).alloc (.cells #[.int .i64 p] 3)
          have HM5 := Lib.hid (HM3.out.keeps0 HH.out kx)
          have HMK5 := Lib.hid (HMK4.out.keeps (KeepsD.of0 kx))
          have HB16 := Lib.hid (heap_alloc_new w3 (.cells #[.int .i64 p] 3))
          have hb16 : rit < w3.heap.size := HM3.out.rg.lt
          have hxL := HDN.out.dom x p hPx
          have hx32 := HL32.out x hxL
          have hpr := HDN.out.real x p hPx
          have hp0 := hpr.1
          have hp1 := hpr.2.1
          have hq4 : ∀ c : Int, 0 ≤ c → (p + (4096 * c + 1)) / 4096 = p / 4096 + c := fun c _ => by
            obtain ⟨_, _, q, _, _, e, e2⟩ := hpr
            omega
          have HQ4 := Lib.hid hq4
          have HXL := Lib.hid hxL; have HPX := Lib.hid hPx
          clear kx HM3 HMK4 hxL hpr hPx hq4
          gi_upto_region 18 with fail
          generalize (w3.alloc (.cells #[.int .i64 p] 3)) = W3 at HM5 HMK5 HB16 ⊢
          generalize w3.heap.size = b16 at HB16 hb16 ⊢
          clear hnx hen
          gi_cut [164] from 207 (fun s164 wc => ∃ tk : Bool, s164 = .bool tk ∧ Keeps (fun _ => False) W3 wc ∧ ((tk = true ∧ goalB g0 x = true ∧ (fnd = false ∨ ∀ q, P g = some q → p ≤ q)) ∨ (tk = false ∧ (goalB g0 x = false ∨ (fnd = true ∧ ∀ q, P g = some q → q ≤ p)))))
          case first =>
            have x8c := HM5.out.x8.cell
            have x8l := HM5.out.x8.lt
            have xr0 : W3.cell? ⟨rb, 0, none⟩ = some (.map (some mp)) := (cell_of_blk HM5.out.xr).trans rfl
            have xr3 : W3.cell? ⟨rb, 3, none⟩ = some (.int .u32 (g : Int)) := (cell_of_blk HM5.out.xr).trans rfl
            have xr4 : W3.cell? ⟨rb, 4, none⟩ = some (.bool fnd) := (cell_of_blk HM5.out.xr).trans rfl
            have xrl := lt_of_heap HM5.out.xr
            have x16c : W3.cell? ⟨b16, 0, none⟩ = some (.int .i64 p) := (cell_of_blk HB16.out).trans rfl
            have x16l := lt_of_heap HB16.out
            have HWW := Lib.hid (HW.out.past (K00.out.trans' HM5.out.keep (fun i hi => .inr (HH.out.lo i hi).1)))
            have kd : ∀ q, Keeps (fun _ => False) W3 (W3.drewN q) := fun q => (Keeps.refl _ W3).drewN q
            have HGO : Hid (∀ q, Calls Tryz.prog 64 #[.pointer (some ⟨b, 0, none⟩), .int .u32 (x : Int)] (W3.drewN q) fun e w' => e = .returned (.bool (goalB g0 x)) ∧ ∃ n, w' = (W3.drewN q).drewN n) := Lib.hid (fun q => (goal_any _ base b st g0 x v ops (HWW.out.keeps0 (kd q))).mono (fun e w' h => by
              obtain ⟨h1, n, h2⟩ := h
              exact ⟨by rw [h1, goal_bits hx32 hg0], n, h2⟩))
            have HKD := Lib.hid kd
            clear kd
            cases hacc : goalB g0 x with
            | false =>
              rw [hacc] at HGO
              clear HG HX HDN
              refine wpIn_wide.2 ?_
              go_quiet (first | (go_at_call 64; refine Calls.quiet_of (HGO.out _)))
              gi_wp2
              gi_meet
              case rel => exact ⟨false, rfl, HKD.out _, .inr ⟨rfl, .inl hacc⟩⟩
            | true =>
              rw [hacc] at HGO
              cases fnd with
              | false =>
                clear HG HX HDN
                refine wpIn_wide.2 ?_
                go_quiet (first | (go_at_call 64; refine Calls.quiet_of (HGO.out _)))
                gi_wp2
                gi_meet
                case rel => exact ⟨true, rfl, HKD.out _, .inl ⟨rfl, hacc, .inl (by simp)⟩⟩
              | true =>
                obtain ⟨pg, hpg, _, _⟩ := HG.out.some_ rfl
                have hlk := fun q => costLook ((HM5.out.keeps0 HH.out (HKD.out q)).rg.fmap) hpg
                have HPG := Lib.hid (show ∀ q, P g = some q → q = pg from fun q h => by rw [hpg] at h; cases h; rfl)
                clear hpg
                by_cases hlt : p < pg
                · have hd : decide (p < pg) = true := by simpa using hlt
                  have HLT := Lib.hid hlt
                  clear hlt
                  clear HG HX HDN
                  refine wpIn_wide.2 ?_
                  go_quiet (first | (go_at_call 64; refine Calls.quiet_of (HGO.out _)))
                  gi_wp2
                  gi_meet
                  case rel => exact ⟨true, rfl, HKD.out _, .inl ⟨rfl, hacc, .inr (fun q h => by have := HPG.out q h; have := HLT.out; omega)⟩⟩
                · have hd : decide (p < pg) = false := by simpa using hlt
                  by_cases heq : p = pg
                  · subst heq
                    clear hlt
                    by_cases hxg : x < g
                    · have hd2 : decide (x < g) = true := by simpa using hxg
                      clear hxg
                      clear HG HX HDN
                      refine wpIn_wide.2 ?_
                      go_quiet (first | (go_at_call 64; refine Calls.quiet_of (HGO.out _)))
                      gi_wp2
                      gi_meet
                      case rel => exact ⟨true, rfl, HKD.out _, .inl ⟨rfl, hacc, .inr (fun q h => by have := HPG.out q h; omega)⟩⟩
                    · have hd2 : decide (x < g) = false := by simpa using hxg
                      clear hxg
                      clear HG HX HDN
                      refine wpIn_wide.2 ?_
                      go_quiet (first | (go_at_call 64; refine Calls.quiet_of (HGO.out _)))
                      gi_wp2
                      gi_meet
                      case rel => exact ⟨false, rfl, HKD.out _, .inr ⟨rfl, .inr ⟨by simp, fun q h => by have := HPG.out q h; omega⟩⟩⟩
                  · have hd2 : (p == pg) = false := by simpa using heq
                    have HLT := Lib.hid hlt
                    clear hlt
                    clear HG HX HDN
                    refine wpIn_wide.2 ?_
                    go_quiet (first | (go_at_call 64; refine Calls.quiet_of (HGO.out _)))
                    gi_wp2
                    gi_meet
                    case rel => exact ⟨false, rfl, HKD.out _, .inr ⟨rfl, .inr ⟨by simp, fun q h => by have := HPG.out q h; have := HLT.out; omega⟩⟩⟩
          case rest =>
            obtain ⟨tk, rfl, kc, htk⟩ := hcut
            have HM6 := Lib.hid (HM5.out.keeps0 HH.out kc); have HMK6 := Lib.hid (HMK5.out.keeps (KeepsD.of0 kc)); have HB6 := Lib.hid (kc.heap HB16.out (fun h => h))
            have HTK := Lib.hid htk
            clear HM5 HMK5 HB16 kc htk
            generalize wc = W3 at HM6 HMK6 HB6 ⊢
            gi_upto_if 164 with fail
            gi_cut [] from 207 (fun wc => ∃ (fnd' : Bool) (g' : Nat), Sr2 w FH I (.func (.func gh) pa cb) b4 b5 b8 rb mp mr rit bd P (parF st par) nx g' fnd' left1 cnt' wc ∧ GoalL (goalB g0) P left1 fnd' g' ∧ g' < 4294967296 ∧ Marks ds2 wc w.heap.size ∧ wc.heap[b16]? = some (.cells #[.int .i64 p] 3 (0, 0)))
            case first =>
              rcases HTK.out with ⟨rfl, ha, hn⟩ | ⟨rfl, hn⟩
              · have HGT := Lib.hid (show GoalL (goalB g0) P left1 true x by rw [← HL1.out]; exact HG.out.take HPX.out ha hn)
                clear ha hn
                have x8c := HM6.out.x8.cell
                have x8l := HM6.out.x8.lt
                have xrl := lt_of_heap HM6.out.xr
                have xr3 : W3.cell? ⟨rb, 3, none⟩ = some (.int .u32 (g : Int)) := (cell_of_blk HM6.out.xr).trans rfl
                have xr4 : W3.cell? ⟨rb, 4, none⟩ = some (.bool fnd) := (cell_of_blk HM6.out.xr).trans rfl
                have xf3 : W3.frozen? ⟨rb, 3, none⟩ = false := frozen_of_blk HM6.out.xr
                have xf4 : W3.frozen? ⟨rb, 4, none⟩ = false := frozen_of_blk HM6.out.xr
                gi_wp2
                refine wpIn_wide.2 ?_
                have kx : Keeps (fun k => k = rb) W3 ((W3.setCell ⟨rb, 3, none⟩ (.int .u32 (x : Int))).setCell ⟨rb, 4, none⟩ (.bool true)).drew := (((Keeps.refl (fun k => k = rb) W3).setCell (p := ⟨rb, 3, none⟩) (.inl rfl) _).setCell (p := ⟨rb, 4, none⟩) (.inl rfl) _).drew
                have hr : ((W3.setCell ⟨rb, 3, none⟩ (.int .u32 (x : Int))).setCell ⟨rb, 4, none⟩ (.bool true)).heap[rb]? = some (.cells #[.map (some mp), .map (some mr), .int .i64 nx, .int .u32 (x : Int), .bool true] 84 (0, 0)) := by
                  have := blk_set_same (o := 4) (blk_set_same (o := 3) HM6.out.xr (.int .u32 (x : Int))) (.bool true)
                  rw [this]; rfl
                have hord6 := HM6.out.ord
                have HR := Lib.hid (HM6.out.stored HH.out kx hr); have HMKr := Lib.hid (HMK6.out.keeps (KeepsD.of kx (fun k hk => by rw [hk]; exact cells_not_deferred HM6.out.xr))); have HBr := Lib.hid (kx.heap HB6.out (show ¬ b16 = rb by omega))
                clear kx hr hord6
                go_region
                gi_wp2
                gi_meet
                case rel => exact ⟨true, x, HR.out, HGT.out, hx32, HMKr.out, HBr.out⟩
              · have HGT := Lib.hid (show GoalL (goalB g0) P left1 fnd g by rw [← HL1.out]; exact HG.out.skip HPX.out hn)
                clear hn
                gi_wp2
                gi_meet
                case rel => exact ⟨fnd, g, HM6.out, HGT.out, hgu, HMK6.out, HB6.out⟩
            case rest =>
              obtain ⟨fnd', g', q1, q2, q3, q4, q5⟩ := hcut
              have HP3 := Lib.hid q1; have HGT := Lib.hid q2; have HM3 := Lib.hid q4; have HB16 := Lib.hid q5
              have hgu' := q3
              have hb16l := lt_of_heap q5
              clear q1 q2 q3 q4 q5 HM6 HMK6 HB6 HTK HG hgu
              generalize wc = W3 at HP3 HM3 HB16 hb16l ⊢
              gi_wp2
              refine ⟨trivial, ?_⟩
              refine (callsIn_wide.2 (steps_any W3 b x)).mono ?_; rintro en w9 ⟨rfl, rfl⟩
              gi_wp2
              obtain ⟨W9, hW9⟩ : ∃ W9, ((W3.alloc (.cells #[.pointer (some ⟨b, 0, none⟩)] 71)).alloc (.cells #[.int .u32 (x : Int)] 82)) = W9 := ⟨_, rfl⟩
              have hz9 : W9.heap.size = W3.heap.size + 1 + 1 := by rw [← hW9]; simp
              have k9 : Keeps (fun _ => False) W3 W9 := by rw [← hW9]; exact ((Keeps.refl _ _).alloc _).alloc _
              have hBw : W9.cell? ⟨W3.heap.size, 0, none⟩ = some (.pointer (some ⟨b, 0, none⟩)) := by
                rw [← hW9]; exact ((Boxed.new W3 _ _).alloc _).cell
              have hBs : W9.heap[W3.heap.size + 1]? = some (.cells #[.int .u32 (x : Int)] 82 (0, 0)) := by
                rw [← hW9]
                have := heap_alloc_new (W3.alloc (.cells #[.pointer (some ⟨b, 0, none⟩)] 71)) (.cells #[.int .u32 (x : Int)] 82)
                rwa [World.size_alloc] at this
              have hBsc : W9.cell? ⟨W3.heap.size + 1, 0, none⟩ = some (.int .u32 (x : Int)) := by rw [cell_of_blk hBs]; rfl
              rw [hW9]
              have HP9 := Lib.hid (HP3.out.keeps0 HH.out k9); have HM9 := Lib.hid (HM3.out.keeps (KeepsD.of0 k9)); have HB169 := Lib.hid (k9.heap HB16.out (fun h => h))
              have K09 : Keeps (fun _ => False) w00 W9 := K00.out.trans' HP9.out.keep (fun i hi => .inr (HH.out.lo i hi).1)
              have HWW := Lib.hid (show ∃ w0 : World, WordsAt w0 base b st g0 v ops ∧ w0.heap.size ≤ w00.heap.size ∧ Below w00.heap.size w0 W9 from ⟨w00, HW.out, Nat.le_refl _, K09.below⟩)
              have hlow3 : w.heap.size ≤ W3.heap.size := HP3.out.keep.size
              have HWL := Lib.hid (show (wsteps ops x).length ≤ 40 from Nat.le_trans (wsteps_le ops x) hmany)
              have HBS := Lib.hid hBs
              have hmrl : mr < W9.heap.size := HP9.out.par_.lt
              have hmpl : mp < W9.heap.size := HP9.out.rg.fmap.lt
              have hrit : rit < W9.heap.size := HP9.out.rg.lt
              have HX0 := Lib.hid (show NxOk ops H bd P (DoneA left1 x []) nx from HX.out.to (fun z i o _ hd _ _ => by
                rcases hd with ⟨h1, h2⟩ | ⟨_, e, h, _⟩
                · replace h1 : (left z && decide (z ≠ x)) = false := by rw [← HL1.out] at h1; exact h1
                  cases hl : left z with
                  | false => rfl
                  | true => rw [hl] at h1; simp [h2] at h1
                · cases h))
              clear hW9 k9 K09 HP3 HM3 HB16 hBs HX
              refine wpIn_rangeFunc_ownH (α := StpOf ops x) rfl (by omega) (gf := 121) (lb := #[.pointer (some ⟨W3.heap.size, 0, none⟩), .pointer (some ⟨W3.heap.size + 1, 0, none⟩)]) rfl trivial (enters_of Tryz.func121 (by kernel_rfl) rfl)
                (steps_stops Fence.wide 8 trivial rfl (by omega) W3.heap.size (W3.heap.size + 1) w00.heap.size base b st g0 x v ops hops (by omega) hx32 W9 (by omega) hBw hBsc (by omega) (by omega) HWW.out)
                KpS.trans (kpS_b (by omega) (by omega)) (Below.refl _ _) (fun _ => rfl)
                (fun pre W => Sr2I ops w FH I H (.func (.func gh) pa cb) b4 b5 b8 rb mp mr rit bd P (parF st par) g' fnd' left1 cnt' x p ds2 (W3.heap.size + 1) b16 (pre.map fun y => y.1) W)
                (fun _ _ _ => False) ?_ (fun _ _ _ _ _ hs _ _ => hs) ?_
                (fun (y : StpOf ops x) (a' : Act) (W : World) => ∃ Bx : Nat, w.heap.size ≤ Bx ∧ rit < Bx ∧ Bx ≠ b16 ∧ Bx ≠ W3.heap.size + 1 ∧ W.heap[Bx]? = some (Obj.cells #[.int .i64 (y.1.op : Int), .int .i64 y.1.cost, .int .u32 (y.1.to : Int)] 145 (0, 0)) ∧ ∃ u : Nat → Value, a' = { tmps := #[.pointer (some ⟨b, 0, none⟩), .func (.func gh) pa cb, .int .i64 bd, u 3, .pointer (some ⟨b4, 0, none⟩), .pointer (some ⟨b5, 0, none⟩), .pointer none, .int .u32 (st : Int), .pointer (some ⟨b8, 0, none⟩), .pointer (some ⟨b9, 0, none⟩), u 10, u 11, u 12, u 13, u 14, .int .u32 (x : Int), .pointer (some ⟨b16, 0, none⟩), .pointer (some ⟨Bx, 0, none⟩), u 18, u 19, u 20, u 21, u 22, u 23, u 24, u 25, u 26, u 27, u 28, u 29, u 30, u 31, u 32, u 33, u 34, u 35, u 36, u 37, u 38, u 39, u 40, u 41, u 42, u 43, u 44, u 45, u 46, u 47, u 48, u 49, u 50, u 51, u 52, u 53, u 54, u 55, u 56, u 57, u 58, u 59, u 60, u 61, u 62, u 63, u 64, u 65, u 66, u 67, u 68, u 69, u 70, u 71, u 72, u 73, u 74, u 75, u 76, u 77, u 78, u 79, u 80, u 81, u 82, u 83, u 84, u 85, u 86, u 87, u 88, u 89, u 90, u 91, u 92, u 93, u 94, u 95, u 96, u 97, u 98, u 99, u 100, u 101, u 102, u 103, u 104, u 105, u 106, u 107, u 108, u 109, u 110, u 111, u 112, u 113, u 114, .pointer (some ⟨rit, 0, none⟩), u 116, u 117, u 118, u 119, u 120, u 121, u 122, u 123, u 124, u 125, u 126, u 127, u 128, u 129, u 130, u 131, u 132, u 133, u 134, u 135, u 136, u 137, u 138, u 139, u 140, u 141, u 142, u 143, u 144, u 145, u 146, u 147, u 148, u 149, u 150, u 151, u 152, u 153, u 154, u 155, u 156, u 157, u 158, u 159, u 160, u 161, u 162, u 163, u 164, u 165, u 166, u 167, u 168, u 169, u 170, u 171, u 172, u 173, u 174, u 175, u 176, u 177, u 178, u 179, u 180, u 181, u 182, u 183, u 184, u 185, u 186, u 187, u 188, u 189, u 190, u 191, u 192, u 193, u 194, u 195, u 196, u 197, u 198, u 199, u 200, u 201, u 202, u 203, u 204, u 205, u 206], defers := [] }) ?_ ?_ ?_ ?_ ?_
              · rintro l W W' row ⟨nx1, h1, h2, h5, h6, h7⟩ hg hr
                exact ⟨nx1, h1.steady HH.out hg hr (by omega) (by omega) (by omega) (by omega), h2, Marks.steady HM9.out h5 hg hr, steady_heap hg (fun r e => (hr r e).2) h6, steady_heap hg (fun r e => (hr r e).2) h7⟩
              · exact ⟨nx, HP9.out, HX0.out, HM9.out, HBS.out, HB169.out⟩
              · intro y a' _ W W' row hs hg hr
                obtain ⟨Bx, e1, e2, e3, e4, h1, h2⟩ := hs
                exact ⟨Bx, e1, e2, e3, e4, steady_heap hg (fun r e => (hr r e).2) h1, h2⟩
              · intro l pre y W K hi hK
                simp only [Stp.val]
                gi_wp2
                obtain ⟨nx1, h1, h2, h5, h6, h7⟩ := hi
                have kx := (Keeps.refl (fun _ => False) W).alloc (.cells #[.int .i64 (y.1.op : Int), .int .i64 y.1.cost, .int .u32 (y.1.to : Int)] 145)
                have l6 := lt_of_heap h6; have l7 := lt_of_heap h7
                exact hK _ _ ((KeepsOthers.alloc _ _).from _) ((KpS.refl _ _ W).alloc (Nat.le_trans hz00 h1.keep.size) (lt_of_heap h6) _) ⟨nx1, h1.keeps0 HH.out kx, h2, h5.keeps (KeepsD.of0 kx), kx.heap h6 (fun h => h), kx.heap h7 (fun h => h)⟩ ⟨W.heap.size, h1.keep.size, h1.rg.lt, by omega, by omega, heap_alloc_new W _, ex_fnD rfl⟩
              · rintro l pre y a' W hl - ⟨nx1, h1, h2, h5, h6, h7⟩ ⟨Bx, e1, e2, e3, e4, hBx, u', rfl⟩ hlt2
                obtain ⟨o, hoi, hoc, hcc, hto⟩ := wsteps_mem.1 y.2
                have hcst := HCO.out o (List.mem_of_getElem? hoi)
                rw [← hcc] at hcst
                have hyL : y.1.to ∈ L := by rw [hto]; exact HSH.out.2 x HXL.out o (List.mem_of_getElem? hoi) hoc
                have hHy := HHB.out y.1.to hyL
                have HQC := Lib.hid (HQ4.out y.1.cost hcst.1)
                have HO := Lib.hid (show ∃ o, ops[y.1.op]? = some o ∧ o.can x = true ∧ o.cost = y.1.cost ∧ o.next x = y.1.to from ⟨o, hoi, hoc, hcc.symm, hto.symm⟩)
                have hpn : IntKind.i64.wrap (p + (4096 * y.1.cost + 1)) = p + (4096 * y.1.cost + 1) := IntWalk.i64_in _ (by omega)
                have hdivq : Int.tdiv (p + (4096 * y.1.cost + 1)) 4096 = (p + (4096 * y.1.cost + 1)) / 4096 := Int.tdiv_eq_ediv_of_nonneg (by omega)
                have hquow : IntKind.i64.wrap ((p + (4096 * y.1.cost + 1)) / 4096) = (p + (4096 * y.1.cost + 1)) / 4096 := IntWalk.i64_in _ (by omega)
                have hsumw : IntKind.i64.wrap ((p + (4096 * y.1.cost + 1)) / 4096 + H y.1.to) = (p + (4096 * y.1.cost + 1)) / 4096 + H y.1.to := IntWalk.i64_in _ (by omega)
                have hlowW : w.heap.size ≤ W.heap.size := h1.keep.size
                have hord := h1.ord
                have HYL := Lib.hid hyL
                have NO := Lib.hid (show ∀ k, w.heap.size ≤ k → ¬ FH k from fun k hk h => by have := (HH.out.lo k h).2; omega)
                have hb16w : w.heap.size ≤ b16 := by omega
                clear hoi hoc hcc hto hyL
                have KD := (Keeps.refl (fun _ => False) W).drew
                have H1 := Lib.hid (h1.keeps0 HH.out KD); have HX1 := Lib.hid h2; have H0 := Lib.hid h1; have H5 := Lib.hid h5; have H6 := Lib.hid h6; have H7 := Lib.hid h7
                have HBX := Lib.hid (KD.heap hBx (fun h => h)); have HBP := Lib.hid (KD.heap h7 (fun h => h))
                have HKD := Lib.hid (KD.mono (fun _ _ h => h.elim) : Keeps FH W W.drew)
                clear h1 h2 h5 h6 h7 hBx KD
                gi_wp2
                have HS1 : Hid (W.drew.cell? ⟨b16, 0, none⟩ = some (.int .i64 p) ∧ W.drew.cell? ⟨Bx, 1, none⟩ = some (.int .i64 y.1.cost) ∧ W.drew.cell? ⟨Bx, 2, none⟩ = some (.int .u32 (y.1.to : Int)) ∧ W.drew.cell? ⟨b4, 0, none⟩ = some (.func (.func gh) pa cb)) :=
                  ⟨(cell_of_blk HBP.out).trans rfl, (cell_of_blk HBX.out).trans rfl, (cell_of_blk HBX.out).trans rfl, H1.out.x4.cell⟩
                refine wpIn_region_held (fun W => W.cell? ⟨b16, 0, none⟩ = some (.int .i64 p) ∧ W.cell? ⟨Bx, 1, none⟩ = some (.int .i64 y.1.cost) ∧ W.cell? ⟨Bx, 2, none⟩ = some (.int .u32 (y.1.to : Int)) ∧ W.cell? ⟨b4, 0, none⟩ = some (.func (.func gh) pa cb)) (fun _ => false) hmix ?_
                refine wpAnyHIn_take (Wide.wide.inRound l) 0 (.int .i64 p) rfl (by kernel_rfl) (by kernel_rfl) (by kernel_rfl) (by kernel_rfl) (by kernel_rfl) (fun _ _ _ h => h) HS1.out ?_ (by kernel_rfl) ?_
                · rintro W ⟨s1, s2, s3, s4⟩; go_simp
                refine wpAnyHIn_take (Wide.wide.inRound l) 1 (.pointer (some ⟨Bx, 1, none⟩)) rfl (by kernel_rfl) (by kernel_rfl) (by kernel_rfl) (by kernel_rfl) (by kernel_rfl) (fun _ _ _ h => h) HS1.out ?_ (by kernel_rfl) ?_
                · rintro W ⟨s1, s2, s3, s4⟩; go_simp
                refine wpAnyHIn_take (Wide.wide.inRound l) 2 (.int .i64 y.1.cost) rfl (by kernel_rfl) (by kernel_rfl) (by kernel_rfl) (by kernel_rfl) (by kernel_rfl) (fun _ _ _ h => h) HS1.out ?_ (by kernel_rfl) ?_
                · rintro W ⟨s1, s2, s3, s4⟩; go_simp
                refine wpAnyHIn_take (Wide.wide.inRound l) 6 (.func (.func gh) pa cb) rfl (by kernel_rfl) (by kernel_rfl) (by kernel_rfl) (by kernel_rfl) (by kernel_rfl) (fun _ _ _ h => h) HS1.out ?_ (by kernel_rfl) ?_
                · rintro W ⟨s1, s2, s3, s4⟩; go_simp
                refine wpAnyHIn_take (Wide.wide.inRound l) 7 (.pointer (some ⟨Bx, 2, none⟩)) rfl (by kernel_rfl) (by kernel_rfl) (by kernel_rfl) (by kernel_rfl) (by kernel_rfl) (fun _ _ _ h => h) HS1.out ?_ (by kernel_rfl) ?_
                · rintro W ⟨s1, s2, s3, s4⟩; go_simp
                refine wpAnyHIn_take (Wide.wide.inRound l) 8 (.int .u32 (y.1.to : Int)) rfl (by kernel_rfl) (by kernel_rfl) (by kernel_rfl) (by kernel_rfl) (by kernel_rfl) (fun _ _ _ h => h) HS1.out ?_ (by kernel_rfl) ?_
                · rintro W ⟨s1, s2, s3, s4⟩; go_simp
                refine wpAnyHIn_one 3 rfl (by kernel_rfl) (by kernel_rfl) (fun K hK => ?_)
                go_simp
                refine ⟨trivial, ?_⟩
                refine (CallsIn.inRound l (callsIn_wide.2 (aprice_still _ y.1.cost ⟨hcst.1, by omega⟩))).mono ?_; rintro en we ⟨rfl, rfl⟩
                refine hK _ _ (fun _ => HS1.out) ?_
                clear hK K
                refine wpAnyHIn_take (Wide.wide.inRound l) 4 (.int .i64 (p + (4096 * y.1.cost + 1))) rfl (by kernel_rfl) (by kernel_rfl) (by kernel_rfl) (by kernel_rfl) (by kernel_rfl) (fun _ _ _ h => h) HS1.out ?_ (by kernel_rfl) ?_
                · rintro W ⟨s1, s2, s3, s4⟩; go_simp
                refine wpAnyHIn_take (Wide.wide.inRound l) 5 (.int .i64 ((p + (4096 * y.1.cost + 1)) / 4096)) rfl (by kernel_rfl) (by kernel_rfl) (by kernel_rfl) (by kernel_rfl) (by kernel_rfl) (fun _ _ _ h => h) HS1.out ?_ (by kernel_rfl) ?_
                · rintro W ⟨s1, s2, s3, s4⟩; go_simp
                refine wpAnyHIn_one 9 rfl (by kernel_rfl) (by kernel_rfl) (fun K hK => ?_)
                go_simp
                refine ⟨trivial, ?_⟩
                refine (CallsIn.inRound l (callsIn_wide.2 (HH.out.answers _ y.1.to H1.out.hI HYL.out))).mono ?_; rintro en we ⟨rfl, hIe, hke⟩
                have HMe := Lib.hid (H1.out.asked HH.out hke hIe)
                have HKE := Lib.hid (HKD.out.trans hke)
                have HBXe := Lib.hid (hke.heap HBX.out (NO.out _ e1)); have HBPe := Lib.hid (hke.heap HBP.out (NO.out _ hb16w))
                have HS2 : Hid (we.cell? ⟨b16, 0, none⟩ = some (.int .i64 p) ∧ we.cell? ⟨Bx, 1, none⟩ = some (.int .i64 y.1.cost) ∧ we.cell? ⟨Bx, 2, none⟩ = some (.int .u32 (y.1.to : Int)) ∧ we.cell? ⟨b4, 0, none⟩ = some (.func (.func gh) pa cb)) :=
                  ⟨(cell_of_blk HBPe.out).trans rfl, (cell_of_blk HBXe.out).trans rfl, (cell_of_blk HBXe.out).trans rfl, HMe.out.x4.cell⟩
                clear hIe hke HS1 H1 HBX HBP HKD
                refine hK _ _ (fun _ => HS2.out) ?_
                clear hK K
                refine wpAnyHIn_one 10 rfl (by kernel_rfl) (by kernel_rfl) (fun K hK => ?_)
                go_simp
                refine hK _ _ (fun _ => HS2.out) ?_
                clear hK K
                refine wpAnyHIn_one 11 rfl (by kernel_rfl) (by kernel_rfl) (fun K hK => ?_)
                go_simp
                refine hK _ _ (fun _ => HS2.out) ?_
                clear hK K
                refine wpAnyHIn_done (by kernel_rfl) ?_
                clear HS2 hpn hdivq hquow hsumw
                have x4c := HMe.out.x4.cell
                have x4l := HMe.out.x4.lt
                have y2c : we.cell? ⟨Bx, 2, none⟩ = some (.int .u32 (y.1.to : Int)) := (cell_of_blk HBXe.out).trans rfl
                have y2l := lt_of_heap HBXe.out
                gi_wp2
                refine ⟨trivial, ?_⟩
                refine (CallsIn.inRound l (callsIn_wide.2 (HH.out.answers _ y.1.to HMe.out.hI HYL.out))).mono ?_; rintro en wf ⟨rfl, hIf, hkf⟩
                have HMX := Lib.hid (HMe.out.asked HH.out hkf hIf)
                have HKX := Lib.hid (HKE.out.trans hkf)
                clear hIf hkf HMe HKE HBXe HBPe x4c x4l y2c y2l
                have x5c := HMX.out.x5.cell
                have x5l := HMX.out.x5.lt
                by_cases hdead : H y.1.to < 1000000000
                · have hd1 : decide (H y.1.to < 1000000000) = true := by simpa using hdead
                  by_cases hcut : bd < (p + (4096 * y.1.cost + 1)) / 4096 + H y.1.to
                  · have hd2 : decide (bd < (p + (4096 * y.1.cost + 1)) / 4096 + H y.1.to) = true := by simpa using hcut
                    gi_wp2
                    have x8c := HMX.out.x8.cell
                    have x8l := HMX.out.x8.lt
                    have xrl := lt_of_heap HMX.out.xr
                    have xr2 : wf.cell? ⟨rb, 2, none⟩ = some (.int .i64 nx1) := (cell_of_blk HMX.out.xr).trans rfl
                    have xf2 : wf.frozen? ⟨rb, 2, none⟩ = false := frozen_of_blk HMX.out.xr
                    refine wpIn_region_still_tail 9 (Wide.wide.inRound l) hmix rfl (by kernel_rfl) ?_
                    simp only [List.take_succ_cons, List.take_zero, List.drop_succ_cons, List.drop_zero]
                    repeat still_step
                    refine wpStill_nil ?_
                    clear x8c x8l
                    gi_wp2
                    obtain ⟨o, q1, q2, q3, q4⟩ := HO.out
                    have l6 := lt_of_heap H6.out
                    have hfin : H (o.next x) < 1000000000 ∧ bd < p / 4096 + o.cost + H (o.next x) ∧ min nx1 ((p + (4096 * y.1.cost + 1)) / 4096 + H y.1.to) = min nx1 (p / 4096 + o.cost + H (o.next x)) := by
                      rw [q3, q4]
                      have := HQC.out
                      exact ⟨hdead, by omega, by rw [this]⟩
                    have kr : Keeps (fun k => k = rb) wf (wf.setCell ⟨rb, 2, none⟩ (.int .i64 (min nx1 ((p + (4096 * y.1.cost + 1)) / 4096 + H y.1.to)))).drew := ((Keeps.refl (fun k => k = rb) wf).setCell (p := ⟨rb, 2, none⟩) (.inl rfl) _).drew
                    have kx : Keeps (fun k => FH k ∨ k = rb) W (wf.setCell ⟨rb, 2, none⟩ (.int .i64 (min nx1 ((p + (4096 * y.1.cost + 1)) / 4096 + H y.1.to)))).drew := (HKX.out.mono (fun _ _ h => .inl h)).trans (kr.mono (fun _ _ h => .inr h))
                    have hr : (wf.setCell ⟨rb, 2, none⟩ (.int .i64 (min nx1 ((p + (4096 * y.1.cost + 1)) / 4096 + H y.1.to)))).heap[rb]? = some (.cells #[.map (some mp), .map (some mr), .int .i64 (min nx1 ((p + (4096 * y.1.cost + 1)) / 4096 + H y.1.to)), .int .u32 (g' : Int), .bool fnd'] 84 (0, 0)) := by
                      have := blk_set_same (o := 2) HMX.out.xr (.int .i64 (min nx1 ((p + (4096 * y.1.cost + 1)) / 4096 + H y.1.to)))
                      rw [this]; rfl
                    have HR := Lib.hid (HMX.out.stored HH.out kr hr)
                    obtain ⟨c1, c2⟩ := close_of (B := W9.heap.size) (n0 := w00.heap.size) (Bs := W3.heap.size + 1) kx (fun k h => by
                      rcases h with h | h
                      · have := HH.out.lo k h
                        exact ⟨this.1, .inl (by omega), by omega⟩
                      · exact ⟨by omega, .inl (by omega), by omega⟩) (by omega) l6
                    have nS : ∀ k, w.heap.size ≤ k → k ≠ rb → ¬ (FH k ∨ k = rb) := fun k h1 h2 h => by
                      rcases h with h | h
                      · exact NO.out k h1 h
                      · exact h2 h
                    exact ⟨c1, c2, _, HR.out, HX1.out.more HPX.out q1 q2 (fun z j h => by
                      rcases h with h | ⟨rfl, e, he, rfl⟩
                      · exact .inl (.inl h)
                      · rw [List.map_append] at he
                        rcases List.mem_append.1 he with h | h
                        · exact .inl (.inr ⟨rfl, e, h, rfl⟩)
                        · simp at h; exact .inr ⟨rfl, by rw [h]⟩) (.inr hfin), H5.out.keeps (KeepsD.of kx (fun k h => by
                      rcases h with h | h
                      · exact HH.out.nd H0.out.hI h
                      · rw [h]; exact cells_not_deferred H0.out.xr)), kx.heap H6.out (nS _ (by omega) (by omega)), kx.heap H7.out (nS _ hb16w (by omega))⟩
                  · have hd2 : decide (bd < (p + (4096 * y.1.cost + 1)) / 4096 + H y.1.to) = false := by simpa using hcut
                    gi_wp2
                    obtain ⟨o, q1, q2, q3, q4⟩ := HO.out
                    have hn : ¬ (H (o.next x) < 1000000000 ∧ bd < p / 4096 + o.cost + H (o.next x)) := by
                      rw [q3, q4]; have := HQC.out; exact fun h => by omega
                    have l6 := lt_of_heap H6.out
                    obtain ⟨c1, c2⟩ := close_of (B := W9.heap.size) (n0 := w00.heap.size) (Bs := W3.heap.size + 1) HKX.out (fun k h => by
                      have := HH.out.lo k h
                      exact ⟨this.1, .inl (by omega), by omega⟩) (by omega) l6
                    exact ⟨c1, c2, nx1, HMX.out, HX1.out.more HPX.out q1 q2 (fun z j h => by
                      rcases h with h | ⟨rfl, e, he, rfl⟩
                      · exact .inl (.inl h)
                      · rw [List.map_append] at he
                        rcases List.mem_append.1 he with h | h
                        · exact .inl (.inr ⟨rfl, e, h, rfl⟩)
                        · simp at h; exact .inr ⟨rfl, by rw [h]⟩) (.inl ⟨hn, rfl⟩), H5.out.keeps (KeepsD.of HKX.out (fun k h => HH.out.nd H0.out.hI h)), HKX.out.heap H6.out (NO.out _ (by omega)), HKX.out.heap H7.out (NO.out _ hb16w)⟩
                · have hd1 : decide (H y.1.to < 1000000000) = false := by simpa using hdead
                  gi_wp2
                  obtain ⟨o, q1, q2, q3, q4⟩ := HO.out
                  have hn : ¬ (H (o.next x) < 1000000000 ∧ bd < p / 4096 + o.cost + H (o.next x)) := by
                    rw [q3, q4]; have := HQC.out; exact fun h => by omega
                  have l6 := lt_of_heap H6.out
                  obtain ⟨c1, c2⟩ := close_of (B := W9.heap.size) (n0 := w00.heap.size) (Bs := W3.heap.size + 1) HKX.out (fun k h => by
                    have := HH.out.lo k h
                    exact ⟨this.1, .inl (by omega), by omega⟩) (by omega) l6
                  exact ⟨c1, c2, nx1, HMX.out, HX1.out.more HPX.out q1 q2 (fun z j h => by
                    rcases h with h | ⟨rfl, e, he, rfl⟩
                    · exact .inl (.inl h)
                    · rw [List.map_append] at he
                      rcases List.mem_append.1 he with h | h
                      · exact .inl (.inr ⟨rfl, e, h, rfl⟩)
                      · simp at h; exact .inr ⟨rfl, by rw [h]⟩) (.inl ⟨hn, rfl⟩), H5.out.keeps (KeepsD.of HKX.out (fun k h => HH.out.nd H0.out.hI h)), HKX.out.heap H6.out (NO.out _ (by omega)), HKX.out.heap H7.out (NO.out _ hb16w)⟩
              · rintro D ys W hD hys ⟨nx1, h1, h2, h5, h6, h7⟩ hd
                have hys' : (ys.map fun y => y.1) = wsteps ops x := hys
                rw [hys'] at h2
                have HX7 := Lib.hid (show NxOk ops H bd P (fun z _ => left1 z = false) nx1 from h2.to (fun z i o _ hz ho hc => by
                  by_cases e : z = x
                  · subst e
                    exact .inr ⟨rfl, ⟨i, o.cost, o.next z⟩, wsteps_mem.2 ⟨o, ho, hc, rfl, rfl⟩, rfl⟩
                  · exact .inl ⟨hz, e⟩))
                have HM7 := Lib.hid (HM9.out.cons h5 hD (by omega) hd)
                have H1 := Lib.hid h1
                clear h1 h2 h5 h6 h7 hd hys hys'
                gi_wp2
                exact ⟨_, hcnt, mark D :: ds2, nx1, g', fnd', left1, H1.out, HGT.out, HX7.out, HM7.out, hgu', ex_fnD rfl⟩
              · exact fun _ _ _ _ _ _ h _ => h.elim
    · obtain ⟨s, A', rfl⟩ : ∃ s A', A = s :: A' := by
        cases A with
        | nil => exact absurd rfl hA
        | cons x A' => exact ⟨x, A', rfl⟩
      rw [List.length_cons] at *
      obtain ⟨p, hps⟩ := HD.out.key s (by simp)
      have hsL := HD.out.dom s p hps
      have HPS := Lib.hid hps; have HSL := Lib.hid hsL
      have kS := (Keeps.refl (fun _ => False) wr).alloc (.cells #[.int .u32 (s : Int)] 82)
      have HM3 := Lib.hid (HM.out.keeps0 HH.out kS); have HSP3 := Lib.hid (HSP.out.keeps kS (fun h => h)); have HMK3 := Lib.hid (HMK.out.keeps (KeepsD.of0 kS))
      have HB3 := Lib.hid (heap_alloc_new wr (.cells #[.int .u32 (s : Int)] 82))
      have HDT := Lib.hid HD.out.take
      have hcx := Tail.head (by have := HM.out.line; rw [List.map_cons] at this; exact this)
      unfold encW at hcx
      have hsz : w.heap.size ≤ wr.heap.size := HM.out.keep.size
      have hgl2 : gl < wr.heap.size := hgl
      have hb9l : b9 < wr.heap.size := HM.out.x9.lt
      clear hA hps hsL HD kS
      gi_upto_region 6 with fail
      generalize (wr.alloc (.cells #[.int .u32 (s : Int)] 82)) = W3 at HM3 HSP3 HMK3 HB3 ⊢
      generalize wr.heap.size = b10 at HB3 hsz hgl2 hb9l ⊢
      clear x9c x9f x9l hcx HM HMK HSP
      gi_cut [] from 207 (fun wc => ∃ vc, SrM w FH I (.func (.func gh) pa cb) b4 b5 b8 b9 rb mp mr bd P (parF st par) A' vc wc ∧ Stamp wc mp ∧ Marks ds wc w.heap.size ∧ wc.heap[b10]? = some (.cells #[.int .u32 (s : Int)] 82 (0, 0)) ∧ ∀ k, vc.ownBlock = some k → k ≠ b10)
      case first =>
        have hpop := HM3.out.pop HH.out (n := A'.length) rfl
        have hkd : KeepsD W3 (W3.setCell ⟨b9, 0, none⟩ (.slice (some (cutAt gl off cap)) A'.length (cap - 1))) :=
          KeepsD.of ((Keeps.refl (fun b => b = b9) W3).setCell (p := ⟨b9, 0, none⟩) (.inl rfl) _) (fun b hb => by subst hb; exact cells_not_deferred HM3.out.x9)
        have hm2 := HMK3.out.keeps hkd
        have hst2 : Stamp (W3.setCell ⟨b9, 0, none⟩ (.slice (some (cutAt gl off cap)) A'.length (cap - 1))) mp := HSP3.out.keeps ((Keeps.refl (fun b => b = b9) W3).setCell (p := ⟨b9, 0, none⟩) (.inl rfl) _) (by have := HM3.out.ord; omega)
        have hb2 : (W3.setCell ⟨b9, 0, none⟩ (.slice (some (cutAt gl off cap)) A'.length (cap - 1))).heap[b10]? = some (.cells #[.int .u32 (s : Int)] 82 (0, 0)) := ((Keeps.refl (fun b => b = b9) W3).setCell (p := ⟨b9, 0, none⟩) (.inl rfl) _).heap HB3.out (show ¬ b10 = b9 by omega)
        have hrow : ∀ k, (Value.slice (some (cutAt gl off cap)) A'.length (cap - 1)).ownBlock = some k → k ≠ b10 := fun k hk => by simp [Value.ownBlock, cutAt_block] at hk; omega
        have x9c := HM3.out.x9.cell
        have x9f := HM3.out.x9.frozen
        have x9l := HM3.out.x9.lt
        have HALL := Lib.hid (And.intro hpop (And.intro hst2 (And.intro hm2 (And.intro hb2 hrow))))
        clear hpop hkd hm2 hst2 hb2 hrow
        rcases (Classical.em (cap = 1)) with hc1 | hc1
        · rw [show cutAt gl off cap = ⟨gl, off, none⟩ by simp [cutAt, hc1], show cap - 1 = 0 by omega] at HALL
          have hz : A'.length = 0 := by omega
          rw [hz] at HALL x9c
          subst hc1
          gi_wp2
          gi_meet
          case rel => exact ⟨_, HALL.out⟩
        · rw [show cutAt gl off cap = ⟨gl, off + 1, none⟩ by simp [cutAt, hc1]] at HALL
          gi_wp2
          gi_meet
          case rel => exact ⟨_, HALL.out⟩
      case rest =>
        obtain ⟨vc, q1, q2, q3, q4, q5⟩ := hcut
        have HP3 := Lib.hid q1; have HS3 := Lib.hid q2; have HM3 := Lib.hid q3; have HB10 := Lib.hid q4; have HV10 := Lib.hid q5
        have hb10l := lt_of_heap q4
        have hb10w : w.heap.size ≤ b10 := hsz
        have x10c : wc.cell? ⟨b10, 0, none⟩ = some (.int .u32 (s : Int)) := (cell_of_blk q4).trans rfl
        clear q1 q2 q3 q4 q5 HB3 HMK3 HSP3 hgl2
        generalize wc = W3 at HP3 HS3 HM3 HB10 hb10l x10c ⊢
        gi_wp2
        refine ⟨trivial, ?_⟩
        refine (callsIn_wide.2 (steps_any W3 b s)).mono ?_; rintro en w9 ⟨rfl, rfl⟩
        gi_wp2
        obtain ⟨W9, hW9⟩ : ∃ W9, ((W3.alloc (.cells #[.pointer (some ⟨b, 0, none⟩)] 71)).alloc (.cells #[.int .u32 (s : Int)] 82)) = W9 := ⟨_, rfl⟩
        have hz9 : W9.heap.size = W3.heap.size + 1 + 1 := by rw [← hW9]; simp
        have k9 : Keeps (fun _ => False) W3 W9 := by rw [← hW9]; exact ((Keeps.refl _ _).alloc _).alloc _
        have hBw : W9.cell? ⟨W3.heap.size, 0, none⟩ = some (.pointer (some ⟨b, 0, none⟩)) := by
          rw [← hW9]; exact ((Boxed.new W3 _ _).alloc _).cell
        have hBs : W9.heap[W3.heap.size + 1]? = some (.cells #[.int .u32 (s : Int)] 82 (0, 0)) := by
          rw [← hW9]
          have := heap_alloc_new (W3.alloc (.cells #[.pointer (some ⟨b, 0, none⟩)] 71)) (.cells #[.int .u32 (s : Int)] 82)
          rwa [World.size_alloc] at this
        have hBsc : W9.cell? ⟨W3.heap.size + 1, 0, none⟩ = some (.int .u32 (s : Int)) := by rw [cell_of_blk hBs]; rfl
        rw [hW9]
        have HP9 := Lib.hid (HP3.out.keeps0 HH.out k9); have HM9 := Lib.hid (HM3.out.keeps (KeepsD.of0 k9)); have HB109 := Lib.hid (k9.heap HB10.out (fun h => h)); have HS9 := Lib.hid (HS3.out.keeps k9 (fun h => h))
        have K09 : Keeps (fun _ => False) w00 W9 := K00.out.trans' HP9.out.keep (fun i hi => .inr (HH.out.lo i hi).1)
        have HWW := Lib.hid (show ∃ w0 : World, WordsAt w0 base b st g0 v ops ∧ w0.heap.size ≤ w00.heap.size ∧ Below w00.heap.size w0 W9 from ⟨w00, HW.out, Nat.le_refl _, K09.below⟩)
        have hlow3 : w.heap.size ≤ W3.heap.size := HP3.out.keep.size
        have HWL := Lib.hid (show (wsteps ops s).length ≤ 40 from Nat.le_trans (wsteps_le ops s) hmany)
        have hs32 := HL32.out s HSL.out
        have HBS := Lib.hid hBs
        have HG0 := Lib.hid (show ∀ k, vc.ownBlock = some k → k ≠ W3.heap.size + 1 ∧ k ≠ b10 from fun k hk => ⟨by have := (HP3.out.line.lt k hk).2; omega, HV10.out k hk⟩)
        have hmrl : mr < W9.heap.size := HP9.out.par_.lt
        have hmpl : mp < W9.heap.size := HP9.out.price.lt
        have HTD := Lib.hid (ToDoN.start ops L s)
        clear hW9 k9 K09 HP3 HM3 HB10 HS3 hBs x10c
        have hM0 : 2 * weightB L 900000000 P + A'.length < 2 * weightB L 900000000 P + (A'.length + 1) := by omega
        generalize hM : 2 * weightB L 900000000 P + (A'.length + 1) = M0 at hn hM0
        refine wpIn_rangeFunc_ownH (α := StpOf ops s) rfl (by omega) (gf := 121) (lb := #[.pointer (some ⟨W3.heap.size, 0, none⟩), .pointer (some ⟨W3.heap.size + 1, 0, none⟩)]) rfl trivial (enters_of Tryz.func121 (by kernel_rfl) rfl)
          (steps_stops Fence.wide 8 trivial rfl (by omega) W3.heap.size (W3.heap.size + 1) w00.heap.size base b st g0 s v ops hops (by omega) hs32 W9 (by omega) hBw hBsc (by omega) (by omega) HWW.out)
          KpS.trans (kpS_b (by omega) (by omega)) (Below.refl _ _) (fun _ => rfl)
          (fun pre W => SrBI ops L st H w FH I (.func (.func gh) pa cb) b4 b5 b8 b9 rb mp mr bd s p M0 ds (W3.heap.size + 1) b10 (pre.map fun y => y.1) W)
          (fun _ _ _ => False) ?_ (fun _ _ _ _ _ hs _ _ => hs) ?_
          (fun (y : StpOf ops s) (a' : Act) (W : World) => ∃ Bx : Nat, w.heap.size ≤ Bx ∧ b9 < Bx ∧ Bx ≠ b10 ∧ Bx ≠ W3.heap.size + 1 ∧ W.heap[Bx]? = some (Obj.cells #[.int .i64 (y.1.op : Int), .int .i64 y.1.cost, .int .u32 (y.1.to : Int)] 145 (0, 0)) ∧ ∃ u : Nat → Value, a' = { tmps := #[.pointer (some ⟨b, 0, none⟩), .func (.func gh) pa cb, .int .i64 bd, u 3, .pointer (some ⟨b4, 0, none⟩), .pointer (some ⟨b5, 0, none⟩), .pointer none, .int .u32 (st : Int), .pointer (some ⟨b8, 0, none⟩), .pointer (some ⟨b9, 0, none⟩), .pointer (some ⟨b10, 0, none⟩), .pointer (some ⟨Bx, 0, none⟩), u 12, u 13, u 14, u 15, u 16, u 17, u 18, u 19, u 20, u 21, u 22, u 23, u 24, u 25, u 26, u 27, u 28, u 29, u 30, u 31, u 32, u 33, u 34, u 35, u 36, u 37, u 38, u 39, u 40, u 41, u 42, u 43, u 44, u 45, u 46, u 47, u 48, u 49, u 50, u 51, u 52, u 53, u 54, u 55, u 56, u 57, u 58, u 59, u 60, u 61, u 62, u 63, u 64, u 65, u 66, u 67, u 68, u 69, u 70, u 71, u 72, u 73, u 74, u 75, u 76, u 77, u 78, u 79, u 80, u 81, u 82, u 83, u 84, u 85, u 86, u 87, u 88, u 89, u 90, u 91, u 92, u 93, u 94, u 95, u 96, u 97, u 98, u 99, u 100, u 101, u 102, u 103, u 104, u 105, u 106, u 107, u 108, u 109, u 110, u 111, u 112, u 113, u 114, u 115, u 116, u 117, u 118, u 119, u 120, u 121, u 122, u 123, u 124, u 125, u 126, u 127, u 128, u 129, u 130, u 131, u 132, u 133, u 134, u 135, u 136, u 137, u 138, u 139, u 140, u 141, u 142, u 143, u 144, u 145, u 146, u 147, u 148, u 149, u 150, u 151, u 152, u 153, u 154, u 155, u 156, u 157, u 158, u 159, u 160, u 161, u 162, u 163, u 164, u 165, u 166, u 167, u 168, u 169, u 170, u 171, u 172, u 173, u 174, u 175, u 176, u 177, u 178, u 179, u 180, u 181, u 182, u 183, u 184, u 185, u 186, u 187, u 188, u 189, u 190, u 191, u 192, u 193, u 194, u 195, u 196, u 197, u 198, u 199, u 200, u 201, u 202, u 203, u 204, u 205, u 206], defers := [] }) ?_ ?_ ?_ ?_ ?_
        · rintro l W W' row ⟨P1, par, A, vl, R, h1, h2, h3, h4, g1, g2, h5, h6, h7, h8, h9⟩ hg hr
          exact ⟨P1, par, A, vl, R, h1.steady HH.out hg hr (by omega) (by omega) (by omega), h2, h3, h4, g1, g2, Marks.steady HM9.out h5 hg hr, steady_heap hg (fun r e => (hr r e).2) h6, steady_heap hg (fun r e => (hr r e).2) h7, h8, by
            obtain ⟨es, c, q1, q2⟩ := h9
            exact ⟨es, c, (steady_keeps hg).heap q1 (fun e => by have := (hr _ e).1; omega), q2⟩⟩
        · exact ⟨P, par, A', vc, _, HP9.out, HDT.out, HTD.out, HPS.out, by omega, by omega, HM9.out, HBS.out, HB109.out, HG0.out, HS9.out⟩
        · intro y a' _ W W' row hs hg hr
          obtain ⟨Bx, e1, e2, e3, e4, h1, h2⟩ := hs
          exact ⟨Bx, e1, e2, e3, e4, steady_heap hg (fun r e => (hr r e).2) h1, h2⟩
        · intro l pre y W K hi hK
          simp only [Stp.val]
          gi_wp2
          obtain ⟨P1, par, A, vl, R, h1, h2, h3, h4, g1, g2, h5, h6, h7, h8, h9⟩ := hi
          have kx := (Keeps.refl (fun _ => False) W).alloc (.cells #[.int .i64 (y.1.op : Int), .int .i64 y.1.cost, .int .u32 (y.1.to : Int)] 145)
          have l6 := lt_of_heap h6; have l7 := lt_of_heap h7
          exact hK _ _ ((KeepsOthers.alloc _ _).from _) ((KpS.refl _ _ W).alloc (Nat.le_trans hz00 h1.keep.size) (lt_of_heap h6) _) ⟨P1, par, A, vl, R, h1.keeps0 HH.out kx, h2, h3, h4, g1, g2, h5.keeps (KeepsD.of0 kx), kx.heap h6 (fun h => h), kx.heap h7 (fun h => h), h8, h9.keeps kx (fun h => h)⟩ ⟨W.heap.size, h1.keep.size, h1.x9.lt, by omega, by omega, heap_alloc_new W _, ex_fnD rfl⟩
        · rintro l pre y a' W hl - ⟨P1, par1, A1, vl, R1, h1, h2, h3, h4, g1, g2, h5, h6, h7, h8, h9⟩ ⟨Bx, e1, e2, e3, e4, hBx, u', rfl⟩ hlt2
          obtain ⟨o, hoi, hoc, hcc, hto⟩ := wsteps_mem.1 y.2
          have hcst := HCO.out o (List.mem_of_getElem? hoi)
          rw [← hcc] at hcst
          have hyL : y.1.to ∈ L := by rw [hto]; exact HSH.out.2 s HSL.out o (List.mem_of_getElem? hoi) hoc
          have hHy := HHB.out y.1.to hyL
          have hbp := h2.bound HCO.out hfew h4
          have hp0 := hbp.1
          have hp1 := hbp.2.1
          have hpn : IntKind.i64.wrap (p + (4096 * y.1.cost + 1)) = p + (4096 * y.1.cost + 1) := IntWalk.i64_in _ (by omega)
          have hlowW : w.heap.size ≤ W.heap.size := h1.keep.size
          have hord := h1.ord
          have HYL := Lib.hid hyL; have HPP := Lib.hid h4
          clear hoi hoc hcc hto hyL hbp
          have KD := (Keeps.refl (fun _ => False) W).drew
          have H0 := Lib.hid h1; have H2 := Lib.hid h2; have H3 := Lib.hid h3; have H5 := Lib.hid h5; have H6 := Lib.hid h6; have H7 := Lib.hid h7; have H8 := Lib.hid h8; have H9 := Lib.hid h9
          have H1 := Lib.hid (h1.keeps0 HH.out KD)
          have HBX := Lib.hid (KD.heap hBx (fun h => h))
          have x8c := h1.x8.cell
          have x8l := h1.x8.lt
          have xrc : W.cell? ⟨rb, 0, none⟩ = some (.map (some mp)) := (cell_of_blk h1.xr).trans rfl
          have xrl := lt_of_heap h1.xr
          have sl := costLook H1.out.price HPP.out
          have x10c : W.cell? ⟨b10, 0, none⟩ = some (.int .u32 (s : Int)) := (cell_of_blk h7).trans rfl
          have x10l := lt_of_heap h7
          have y1c : W.cell? ⟨Bx, 1, none⟩ = some (.int .i64 y.1.cost) := (cell_of_blk hBx).trans rfl
          have hBxl := lt_of_heap hBx
          have HKD := Lib.hid KD
          clear h1 h2 h3 h4 h5 h6 h7 h8 h9 hBx KD
          gi_wp2
          refine wpIn_region_still (Wide.wide.inRound l) hmix rfl (by kernel_rfl) ?_
          repeat still_step
          still_call (aprice_still _ y.1.cost ⟨hcst.1, by omega⟩)
          repeat still_step
          refine wpStill_nil ?_
          clear x8c x8l xrc xrl sl x10c x10l y1c hBxl
          generalize W.drew = Wd at H1 HBX HKD ⊢
          have KD := (Keeps.refl (fun _ => False) Wd).drew
          have H1b := Lib.hid (H1.out.keeps0 HH.out KD); have HBXb := Lib.hid (KD.heap HBX.out (fun h => h)); have HKDb := Lib.hid (HKD.out.trans KD)
          have x8c := H1.out.x8.cell
          have x8l := H1.out.x8.lt
          have xrc : Wd.cell? ⟨rb, 0, none⟩ = some (.map (some mp)) := (cell_of_blk H1.out.xr).trans rfl
          have xrl := lt_of_heap H1.out.xr
          have y2c : Wd.cell? ⟨Bx, 2, none⟩ = some (.int .u32 (y.1.to : Int)) := (cell_of_blk HBX.out).trans rfl
          have hBxl := lt_of_heap HBX.out
          obtain ⟨qv, qb, hlk, hqt, hqf⟩ := costLookT H1b.out.price y.1.to
          clear H1 HBX HKD KD
          gi_wp2
          refine wpIn_region_still (Wide.wide.inRound l) hmix rfl (by kernel_rfl) ?_
          repeat still_step
          refine wpStill_nil ?_
          clear x8c x8l xrc xrl y2c hBxl hlk
          generalize Wd.drew = Wd at H1b HBXb HKDb ⊢
          have KD := (Keeps.refl (fun _ => False) Wd).drew
          have H1 := Lib.hid (H1b.out.keeps0 HH.out KD); have HBX := Lib.hid (KD.heap HBXb.out (fun h => h)); have HKD := Lib.hid (HKDb.out.trans KD)
          clear H1b HBXb HKDb KD
          have hmono : ∀ {S : Nat → Prop} {a b : World}, Keeps (fun _ => False) a b → Keeps S a b := fun h => h.mono (fun _ _ h => h.elim)
          have no : ∀ k, w.heap.size ≤ k → ¬ FH k := fun k hk h => by have := (HH.out.lo k h).2; omega
          have NO := Lib.hid no
          clear no
          have hdivq : Int.tdiv (p + (4096 * y.1.cost + 1)) 4096 = (p + (4096 * y.1.cost + 1)) / 4096 := Int.tdiv_eq_ediv_of_nonneg (by omega)
          have hquow : IntKind.i64.wrap ((p + (4096 * y.1.cost + 1)) / 4096) = (p + (4096 * y.1.cost + 1)) / 4096 := IntWalk.i64_in _ (by omega)
          have hsumw : IntKind.i64.wrap ((p + (4096 * y.1.cost + 1)) / 4096 + H y.1.to) = (p + (4096 * y.1.cost + 1)) / 4096 + H y.1.to := IntWalk.i64_in _ (by omega)
          gi_wp2
          gi_cut [88] from 207 (fun s88 wc => ∃ bb : Bool, s88 = .bool bb ∧ SrM w FH I (.func (.func gh) pa cb) b4 b5 b8 b9 rb mp mr bd P1 (parF st par1) A1 vl wc ∧ Keeps FH W wc ∧ wc.heap[Bx]? = some (.cells #[.int .i64 (y.1.op : Int), .int .i64 y.1.cost, .int .u32 (y.1.to : Int)] 145 (0, 0)) ∧ ((bb = true ∧ (Cut H bd (p + (4096 * y.1.cost + 1)) y.1.to ∨ ∃ q, P1 y.1.to = some q ∧ q ≤ p + (4096 * y.1.cost + 1))) ∨ (bb = false ∧ (∀ q, P1 y.1.to = some q → p + (4096 * y.1.cost + 1) < q) ∧ ¬ Cut H bd (p + (4096 * y.1.cost + 1)) y.1.to)))
          case first =>
            cases qb with
            | true =>
              have hq := hqt rfl
              clear hqt hqf
              by_cases hle : qv ≤ p + (4096 * y.1.cost + 1)
              · have hd : decide (qv ≤ p + (4096 * y.1.cost + 1)) = true := by simpa using hle
                have HLE := Lib.hid (And.intro hq hle)
                clear hq hle
                have HS1 : Hid (Wd.drew.cell? ⟨b4, 0, none⟩ = some (.func (.func gh) pa cb) ∧ Wd.drew.cell? ⟨Bx, 2, none⟩ = some (.int .u32 (y.1.to : Int)) ∧ Wd.drew.cell? ⟨b5, 0, none⟩ = some (.int .i64 bd)) :=
                  ⟨H1.out.x4.cell, (cell_of_blk HBX.out).trans rfl, H1.out.x5.cell⟩
                refine wpIn_region_held (fun W => W.cell? ⟨b4, 0, none⟩ = some (.func (.func gh) pa cb) ∧ W.cell? ⟨Bx, 2, none⟩ = some (.int .u32 (y.1.to : Int)) ∧ W.cell? ⟨b5, 0, none⟩ = some (.int .i64 bd)) (fun _ => false) hmix ?_
                refine wpAnyHIn_take (Wide.wide.inRound l) 0 (.bool true) rfl (by kernel_rfl) (by kernel_rfl) (by kernel_rfl) (by kernel_rfl) (by kernel_rfl) (fun _ _ _ h => h) HS1.out ?_ (by kernel_rfl) ?_
                · rintro W ⟨s1, s2, s3⟩; go_simp
                refine wpAnyHIn_take (Wide.wide.inRound l) 1 (.bool true) rfl (by kernel_rfl) (by kernel_rfl) (by kernel_rfl) (by kernel_rfl) (by kernel_rfl) (fun _ _ _ h => h) HS1.out ?_ (by kernel_rfl) ?_
                · rintro W ⟨s1, s2, s3⟩; go_simp
                refine wpAnyHIn_take (Wide.wide.inRound l) 2 (.int .i64 qv) rfl (by kernel_rfl) (by kernel_rfl) (by kernel_rfl) (by kernel_rfl) (by kernel_rfl) (fun _ _ _ h => h) HS1.out ?_ (by kernel_rfl) ?_
                · rintro W ⟨s1, s2, s3⟩; go_simp
                refine wpAnyHIn_take (Wide.wide.inRound l) 3 (.int .i64 (p + (4096 * y.1.cost + 1))) rfl (by kernel_rfl) (by kernel_rfl) (by kernel_rfl) (by kernel_rfl) (by kernel_rfl) (fun _ _ _ h => h) HS1.out ?_ (by kernel_rfl) ?_
                · rintro W ⟨s1, s2, s3⟩; go_simp
                refine wpAnyHIn_take (Wide.wide.inRound l) 4 (.bool true) rfl (by kernel_rfl) (by kernel_rfl) (by kernel_rfl) (by kernel_rfl) (by kernel_rfl) (fun _ _ _ h => h) HS1.out ?_ (by kernel_rfl) ?_
                · rintro W ⟨s1, s2, s3⟩; go_simp
                refine wpAnyHIn_one 5 rfl (by kernel_rfl) (by kernel_rfl) (fun K hK => ?_)
                go_simp
                refine hK _ _ (fun _ => HS1.out) ?_
                clear hK K
                refine wpAnyHIn_one 6 rfl (by kernel_rfl) (by kernel_rfl) (fun K hK => ?_)
                go_simp
                refine hK _ _ (fun _ => HS1.out) ?_
                clear hK K
                refine wpAnyHIn_skip (Wide.wide.inRound l) 7 rfl (by kernel_rfl) (by kernel_rfl) (by kernel_rfl) (by kernel_rfl) (by kernel_rfl) (fun _ _ _ h => h) HS1.out (by kernel_rfl) ?_
                refine wpAnyHIn_skip (Wide.wide.inRound l) 8 rfl (by kernel_rfl) (by kernel_rfl) (by kernel_rfl) (by kernel_rfl) (by kernel_rfl) (fun _ _ _ h => h) HS1.out (by kernel_rfl) ?_
                refine wpAnyHIn_skip (Wide.wide.inRound l) 9 rfl (by kernel_rfl) (by kernel_rfl) (by kernel_rfl) (by kernel_rfl) (by kernel_rfl) (fun _ _ _ h => h) HS1.out (by kernel_rfl) ?_
                refine wpAnyHIn_skip (Wide.wide.inRound l) 10 rfl (by kernel_rfl) (by kernel_rfl) (by kernel_rfl) (by kernel_rfl) (by kernel_rfl) (fun _ _ _ h => h) HS1.out (by kernel_rfl) ?_
                refine wpAnyHIn_skip (Wide.wide.inRound l) 11 rfl (by kernel_rfl) (by kernel_rfl) (by kernel_rfl) (by kernel_rfl) (by kernel_rfl) (fun _ _ _ h => h) HS1.out (by kernel_rfl) ?_
                refine wpAnyHIn_one 12 rfl (by kernel_rfl) (by kernel_rfl) (fun K hK => ?_)
                go_simp
                refine hK _ _ (fun _ => HS1.out) ?_
                clear hK K
                refine wpAnyHIn_one 13 rfl (by kernel_rfl) (by kernel_rfl) (fun K hK => ?_)
                go_simp
                refine hK _ _ (fun _ => HS1.out) ?_
                clear hK K
                refine wpAnyHIn_skip (Wide.wide.inRound l) 14 rfl (by kernel_rfl) (by kernel_rfl) (by kernel_rfl) (by kernel_rfl) (by kernel_rfl) (fun _ _ _ h => h) HS1.out (by kernel_rfl) ?_
                refine wpAnyHIn_skip (Wide.wide.inRound l) 15 rfl (by kernel_rfl) (by kernel_rfl) (by kernel_rfl) (by kernel_rfl) (by kernel_rfl) (fun _ _ _ h => h) HS1.out (by kernel_rfl) ?_
                refine wpAnyHIn_skip (Wide.wide.inRound l) 16 rfl (by kernel_rfl) (by kernel_rfl) (by kernel_rfl) (by kernel_rfl) (by kernel_rfl) (fun _ _ _ h => h) HS1.out (by kernel_rfl) ?_
                refine wpAnyHIn_skip (Wide.wide.inRound l) 17 rfl (by kernel_rfl) (by kernel_rfl) (by kernel_rfl) (by kernel_rfl) (by kernel_rfl) (fun _ _ _ h => h) HS1.out (by kernel_rfl) ?_
                refine wpAnyHIn_skip (Wide.wide.inRound l) 18 rfl (by kernel_rfl) (by kernel_rfl) (by kernel_rfl) (by kernel_rfl) (by kernel_rfl) (fun _ _ _ h => h) HS1.out (by kernel_rfl) ?_
                refine wpAnyHIn_skip (Wide.wide.inRound l) 19 rfl (by kernel_rfl) (by kernel_rfl) (by kernel_rfl) (by kernel_rfl) (by kernel_rfl) (fun _ _ _ h => h) HS1.out (by kernel_rfl) ?_
                refine wpAnyHIn_skip (Wide.wide.inRound l) 20 rfl (by kernel_rfl) (by kernel_rfl) (by kernel_rfl) (by kernel_rfl) (by kernel_rfl) (fun _ _ _ h => h) HS1.out (by kernel_rfl) ?_
                refine wpAnyHIn_skip (Wide.wide.inRound l) 21 rfl (by kernel_rfl) (by kernel_rfl) (by kernel_rfl) (by kernel_rfl) (by kernel_rfl) (fun _ _ _ h => h) HS1.out (by kernel_rfl) ?_
                refine wpAnyHIn_skip (Wide.wide.inRound l) 22 rfl (by kernel_rfl) (by kernel_rfl) (by kernel_rfl) (by kernel_rfl) (by kernel_rfl) (fun _ _ _ h => h) HS1.out (by kernel_rfl) ?_
                refine wpAnyHIn_one 23 rfl (by kernel_rfl) (by kernel_rfl) (fun K hK => ?_)
                go_simp
                refine hK _ _ (fun _ => HS1.out) ?_
                clear hK K
                refine wpAnyHIn_done (by kernel_rfl) ?_
                clear HS1
                gi_wp2
                gi_meet
                case rel => exact ⟨true, rfl, H1.out, hmono HKD.out, HBX.out, .inl ⟨rfl, .inr ⟨qv, HLE.out.1, HLE.out.2⟩⟩⟩
              · have HLT := Lib.hid (show ∀ q, P1 y.1.to = some q → p + (4096 * y.1.cost + 1) < q from fun q h => by rw [hq] at h; cases h; omega)
                have hd : decide (qv ≤ p + (4096 * y.1.cost + 1)) = false := by simpa using hle
                clear hq
                have HS1 : Hid (Wd.drew.cell? ⟨b4, 0, none⟩ = some (.func (.func gh) pa cb) ∧ Wd.drew.cell? ⟨Bx, 2, none⟩ = some (.int .u32 (y.1.to : Int)) ∧ Wd.drew.cell? ⟨b5, 0, none⟩ = some (.int .i64 bd)) :=
                  ⟨H1.out.x4.cell, (cell_of_blk HBX.out).trans rfl, H1.out.x5.cell⟩
                refine wpIn_region_held (fun W => W.cell? ⟨b4, 0, none⟩ = some (.func (.func gh) pa cb) ∧ W.cell? ⟨Bx, 2, none⟩ = some (.int .u32 (y.1.to : Int)) ∧ W.cell? ⟨b5, 0, none⟩ = some (.int .i64 bd)) (fun _ => false) hmix ?_
                refine wpAnyHIn_take (Wide.wide.inRound l) 0 (.bool true) rfl (by kernel_rfl) (by kernel_rfl) (by kernel_rfl) (by kernel_rfl) (by kernel_rfl) (fun _ _ _ h => h) HS1.out ?_ (by kernel_rfl) ?_
                · rintro W ⟨s1, s2, s3⟩; go_simp
                refine wpAnyHIn_take (Wide.wide.inRound l) 1 (.bool true) rfl (by kernel_rfl) (by kernel_rfl) (by kernel_rfl) (by kernel_rfl) (by kernel_rfl) (fun _ _ _ h => h) HS1.out ?_ (by kernel_rfl) ?_
                · rintro W ⟨s1, s2, s3⟩; go_simp
                refine wpAnyHIn_take (Wide.wide.inRound l) 2 (.int .i64 qv) rfl (by kernel_rfl) (by kernel_rfl) (by kernel_rfl) (by kernel_rfl) (by kernel_rfl) (fun _ _ _ h => h) HS1.out ?_ (by kernel_rfl) ?_
                · rintro W ⟨s1, s2, s3⟩; go_simp
                refine wpAnyHIn_take (Wide.wide.inRound l) 3 (.int .i64 (p + (4096 * y.1.cost + 1))) rfl (by kernel_rfl) (by kernel_rfl) (by kernel_rfl) (by kernel_rfl) (by kernel_rfl) (fun _ _ _ h => h) HS1.out ?_ (by kernel_rfl) ?_
                · rintro W ⟨s1, s2, s3⟩; go_simp
                refine wpAnyHIn_take (Wide.wide.inRound l) 4 (.bool false) rfl (by kernel_rfl) (by kernel_rfl) (by kernel_rfl) (by kernel_rfl) (by kernel_rfl) (fun _ _ _ h => h) HS1.out ?_ (by kernel_rfl) ?_
                · rintro W ⟨s1, s2, s3⟩; go_simp
                refine wpAnyHIn_take (Wide.wide.inRound l) 5 (.bool false) rfl (by kernel_rfl) (by kernel_rfl) (by kernel_rfl) (by kernel_rfl) (by kernel_rfl) (fun _ _ _ h => h) HS1.out ?_ (by kernel_rfl) ?_
                · rintro W ⟨s1, s2, s3⟩; go_simp
                refine wpAnyHIn_take (Wide.wide.inRound l) 6 (.bool false) rfl (by kernel_rfl) (by kernel_rfl) (by kernel_rfl) (by kernel_rfl) (by kernel_rfl) (fun _ _ _ h => h) HS1.out ?_ (by kernel_rfl) ?_
                · rintro W ⟨s1, s2, s3⟩; go_simp
                refine wpAnyHIn_take (Wide.wide.inRound l) 7 (.func (.func gh) pa cb) rfl (by kernel_rfl) (by kernel_rfl) (by kernel_rfl) (by kernel_rfl) (by kernel_rfl) (fun _ _ _ h => h) HS1.out ?_ (by kernel_rfl) ?_
                · rintro W ⟨s1, s2, s3⟩; go_simp
                refine wpAnyHIn_take (Wide.wide.inRound l) 8 (.pointer (some ⟨Bx, 2, none⟩)) rfl (by kernel_rfl) (by kernel_rfl) (by kernel_rfl) (by kernel_rfl) (by kernel_rfl) (fun _ _ _ h => h) HS1.out ?_ (by kernel_rfl) ?_
                · rintro W ⟨s1, s2, s3⟩; go_simp
                refine wpAnyHIn_take (Wide.wide.inRound l) 9 (.int .u32 (y.1.to : Int)) rfl (by kernel_rfl) (by kernel_rfl) (by kernel_rfl) (by kernel_rfl) (by kernel_rfl) (fun _ _ _ h => h) HS1.out ?_ (by kernel_rfl) ?_
                · rintro W ⟨s1, s2, s3⟩; go_simp
                refine wpAnyHIn_one 10 rfl (by kernel_rfl) (by kernel_rfl) (fun K hK => ?_)
                go_simp
                refine ⟨trivial, ?_⟩
                refine (CallsIn.inRound l (callsIn_wide.2 (HH.out.answers _ y.1.to H1.out.hI HYL.out))).mono ?_; rintro en we ⟨rfl, hIe, hke⟩
                have HMe := Lib.hid (H1.out.asked HH.out hke hIe)
                have HKE := Lib.hid ((hmono (S := FH) HKD.out).trans hke)
                have HBXe := Lib.hid (hke.heap HBX.out (NO.out _ e1))
                have HS2 : Hid (we.cell? ⟨b4, 0, none⟩ = some (.func (.func gh) pa cb) ∧ we.cell? ⟨Bx, 2, none⟩ = some (.int .u32 (y.1.to : Int)) ∧ we.cell? ⟨b5, 0, none⟩ = some (.int .i64 bd)) :=
                  ⟨HMe.out.x4.cell, (cell_of_blk HBXe.out).trans rfl, HMe.out.x5.cell⟩
                clear hIe hke HS1 H1 HBX HKD
                refine hK _ _ (fun _ => HS2.out) ?_
                clear hK K
                by_cases hdead : 1000000000 ≤ H y.1.to
                · have hd2 : decide (1000000000 ≤ H y.1.to) = true := by simpa using hdead
                  refine wpAnyHIn_one 11 rfl (by kernel_rfl) (by kernel_rfl) (fun K hK => ?_)
                  go_simp
                  refine hK _ _ (fun _ => HS2.out) ?_
                  clear hK K
                  refine wpAnyHIn_one 12 rfl (by kernel_rfl) (by kernel_rfl) (fun K hK => ?_)
                  go_simp
                  refine hK _ _ (fun _ => HS2.out) ?_
                  clear hK K
                  refine wpAnyHIn_one 13 rfl (by kernel_rfl) (by kernel_rfl) (fun K hK => ?_)
                  go_simp
                  refine hK _ _ (fun _ => HS2.out) ?_
                  clear hK K
                  refine wpAnyHIn_skip (Wide.wide.inRound l) 14 rfl (by kernel_rfl) (by kernel_rfl) (by kernel_rfl) (by kernel_rfl) (by kernel_rfl) (fun _ _ _ h => h) HS2.out (by kernel_rfl) ?_
                  refine wpAnyHIn_skip (Wide.wide.inRound l) 15 rfl (by kernel_rfl) (by kernel_rfl) (by kernel_rfl) (by kernel_rfl) (by kernel_rfl) (fun _ _ _ h => h) HS2.out (by kernel_rfl) ?_
                  refine wpAnyHIn_skip (Wide.wide.inRound l) 16 rfl (by kernel_rfl) (by kernel_rfl) (by kernel_rfl) (by kernel_rfl) (by kernel_rfl) (fun _ _ _ h => h) HS2.out (by kernel_rfl) ?_
                  refine wpAnyHIn_skip (Wide.wide.inRound l) 17 rfl (by kernel_rfl) (by kernel_rfl) (by kernel_rfl) (by kernel_rfl) (by kernel_rfl) (fun _ _ _ h => h) HS2.out (by kernel_rfl) ?_
                  refine wpAnyHIn_skip (Wide.wide.inRound l) 18 rfl (by kernel_rfl) (by kernel_rfl) (by kernel_rfl) (by kernel_rfl) (by kernel_rfl) (fun _ _ _ h => h) HS2.out (by kernel_rfl) ?_
                  refine wpAnyHIn_skip (Wide.wide.inRound l) 19 rfl (by kernel_rfl) (by kernel_rfl) (by kernel_rfl) (by kernel_rfl) (by kernel_rfl) (fun _ _ _ h => h) HS2.out (by kernel_rfl) ?_
                  refine wpAnyHIn_skip (Wide.wide.inRound l) 20 rfl (by kernel_rfl) (by kernel_rfl) (by kernel_rfl) (by kernel_rfl) (by kernel_rfl) (fun _ _ _ h => h) HS2.out (by kernel_rfl) ?_
                  refine wpAnyHIn_skip (Wide.wide.inRound l) 21 rfl (by kernel_rfl) (by kernel_rfl) (by kernel_rfl) (by kernel_rfl) (by kernel_rfl) (fun _ _ _ h => h) HS2.out (by kernel_rfl) ?_
                  refine wpAnyHIn_skip (Wide.wide.inRound l) 22 rfl (by kernel_rfl) (by kernel_rfl) (by kernel_rfl) (by kernel_rfl) (by kernel_rfl) (fun _ _ _ h => h) HS2.out (by kernel_rfl) ?_
                  refine wpAnyHIn_one 23 rfl (by kernel_rfl) (by kernel_rfl) (fun K hK => ?_)
                  go_simp
                  refine hK _ _ (fun _ => HS2.out) ?_
                  clear hK K
                  refine wpAnyHIn_done (by kernel_rfl) ?_
                  clear HS2
                  gi_wp2
                  gi_meet
                  case rel => exact ⟨true, rfl, HMe.out, HKE.out, HBXe.out, .inl ⟨rfl, .inl (.inl hdead)⟩⟩
                · have hd2 : decide (1000000000 ≤ H y.1.to) = false := by simpa using hdead
                  refine wpAnyHIn_one 11 rfl (by kernel_rfl) (by kernel_rfl) (fun K hK => ?_)
                  go_simp
                  refine hK _ _ (fun _ => HS2.out) ?_
                  clear hK K
                  refine wpAnyHIn_one 12 rfl (by kernel_rfl) (by kernel_rfl) (fun K hK => ?_)
                  go_simp
                  refine hK _ _ (fun _ => HS2.out) ?_
                  clear hK K
                  refine wpAnyHIn_one 13 rfl (by kernel_rfl) (by kernel_rfl) (fun K hK => ?_)
                  go_simp
                  refine hK _ _ (fun _ => HS2.out) ?_
                  clear hK K
                  refine wpAnyHIn_take (Wide.wide.inRound l) 14 (.int .i64 (p + (4096 * y.1.cost + 1))) rfl (by kernel_rfl) (by kernel_rfl) (by kernel_rfl) (by kernel_rfl) (by kernel_rfl) (fun _ _ _ h => h) HS2.out ?_ (by kernel_rfl) ?_
                  · rintro W ⟨s1, s2, s3⟩; go_simp
                  refine wpAnyHIn_take (Wide.wide.inRound l) 15 (.int .i64 ((p + (4096 * y.1.cost + 1)) / 4096)) rfl (by kernel_rfl) (by kernel_rfl) (by kernel_rfl) (by kernel_rfl) (by kernel_rfl) (fun _ _ _ h => h) HS2.out ?_ (by kernel_rfl) ?_
                  · rintro W ⟨s1, s2, s3⟩; go_simp
                  refine wpAnyHIn_take (Wide.wide.inRound l) 16 (.func (.func gh) pa cb) rfl (by kernel_rfl) (by kernel_rfl) (by kernel_rfl) (by kernel_rfl) (by kernel_rfl) (fun _ _ _ h => h) HS2.out ?_ (by kernel_rfl) ?_
                  · rintro W ⟨s1, s2, s3⟩; go_simp
                  refine wpAnyHIn_take (Wide.wide.inRound l) 17 (.pointer (some ⟨Bx, 2, none⟩)) rfl (by kernel_rfl) (by kernel_rfl) (by kernel_rfl) (by kernel_rfl) (by kernel_rfl) (fun _ _ _ h => h) HS2.out ?_ (by kernel_rfl) ?_
                  · rintro W ⟨s1, s2, s3⟩; go_simp
                  refine wpAnyHIn_take (Wide.wide.inRound l) 18 (.int .u32 (y.1.to : Int)) rfl (by kernel_rfl) (by kernel_rfl) (by kernel_rfl) (by kernel_rfl) (by kernel_rfl) (fun _ _ _ h => h) HS2.out ?_ (by kernel_rfl) ?_
                  · rintro W ⟨s1, s2, s3⟩; go_simp
                  refine wpAnyHIn_take (Wide.wide.inRound l) 21 (.int .i64 bd) rfl (by kernel_rfl) (by kernel_rfl) (by kernel_rfl) (by kernel_rfl) (by kernel_rfl) (fun _ _ _ h => h) HS2.out ?_ (by kernel_rfl) ?_
                  · rintro W ⟨s1, s2, s3⟩; go_simp
                  refine wpAnyHIn_one 19 rfl (by kernel_rfl) (by kernel_rfl) (fun K hK => ?_)
                  go_simp
                  refine ⟨trivial, ?_⟩
                  refine (CallsIn.inRound l (callsIn_wide.2 (HH.out.answers _ y.1.to HMe.out.hI HYL.out))).mono ?_; rintro en wf ⟨rfl, hIf, hkf⟩
                  have HMX := Lib.hid (HMe.out.asked HH.out hkf hIf)
                  have HKX := Lib.hid (HKE.out.trans hkf)
                  have HBXX := Lib.hid (hkf.heap HBXe.out (NO.out _ e1))
                  have HS3 : Hid (wf.cell? ⟨b4, 0, none⟩ = some (.func (.func gh) pa cb) ∧ wf.cell? ⟨Bx, 2, none⟩ = some (.int .u32 (y.1.to : Int)) ∧ wf.cell? ⟨b5, 0, none⟩ = some (.int .i64 bd)) :=
                    ⟨HMX.out.x4.cell, (cell_of_blk HBXX.out).trans rfl, HMX.out.x5.cell⟩
                  clear hIf hkf HS2 HMe HKE HBXe
                  refine hK _ _ (fun _ => HS3.out) ?_
                  clear hK K
                  by_cases hcut : bd < (p + (4096 * y.1.cost + 1)) / 4096 + H y.1.to
                  · have hd3 : decide (bd < (p + (4096 * y.1.cost + 1)) / 4096 + H y.1.to) = true := by simpa using hcut
                    refine wpAnyHIn_one 20 rfl (by kernel_rfl) (by kernel_rfl) (fun K hK => ?_)
                    go_simp
                    refine hK _ _ (fun _ => HS3.out) ?_
                    clear hK K
                    refine wpAnyHIn_one 22 rfl (by kernel_rfl) (by kernel_rfl) (fun K hK => ?_)
                    go_simp
                    refine hK _ _ (fun _ => HS3.out) ?_
                    clear hK K
                    refine wpAnyHIn_one 23 rfl (by kernel_rfl) (by kernel_rfl) (fun K hK => ?_)
                    go_simp
                    refine hK _ _ (fun _ => HS3.out) ?_
                    clear hK K
                    refine wpAnyHIn_done (by kernel_rfl) ?_
                    clear HS3
                    gi_wp2
                    gi_meet
                    case rel => exact ⟨true, rfl, HMX.out, HKX.out, HBXX.out, .inl ⟨rfl, .inl (.inr hcut)⟩⟩
                  · have hd3 : decide (bd < (p + (4096 * y.1.cost + 1)) / 4096 + H y.1.to) = false := by simpa using hcut
                    refine wpAnyHIn_one 20 rfl (by kernel_rfl) (by kernel_rfl) (fun K hK => ?_)
                    go_simp
                    refine hK _ _ (fun _ => HS3.out) ?_
                    clear hK K
                    refine wpAnyHIn_one 22 rfl (by kernel_rfl) (by kernel_rfl) (fun K hK => ?_)
                    go_simp
                    refine hK _ _ (fun _ => HS3.out) ?_
                    clear hK K
                    refine wpAnyHIn_one 23 rfl (by kernel_rfl) (by kernel_rfl) (fun K hK => ?_)
                    go_simp
                    refine hK _ _ (fun _ => HS3.out) ?_
                    clear hK K
                    refine wpAnyHIn_done (by kernel_rfl) ?_
                    clear HS3
                    gi_wp2
                    gi_meet
                    case rel => exact ⟨false, rfl, HMX.out, HKX.out, HBXX.out, .inr ⟨rfl, HLT.out, fun h => h.elim (fun h => by omega) (fun h => by omega)⟩⟩
            | false =>
              have HLT := Lib.hid (show ∀ q, P1 y.1.to = some q → p + (4096 * y.1.cost + 1) < q from fun q h => by rw [hqf rfl] at h; cases h)
              clear hqt hqf
              have HS1 : Hid (Wd.drew.cell? ⟨b4, 0, none⟩ = some (.func (.func gh) pa cb) ∧ Wd.drew.cell? ⟨Bx, 2, none⟩ = some (.int .u32 (y.1.to : Int)) ∧ Wd.drew.cell? ⟨b5, 0, none⟩ = some (.int .i64 bd)) :=
                ⟨H1.out.x4.cell, (cell_of_blk HBX.out).trans rfl, H1.out.x5.cell⟩
              refine wpIn_region_held (fun W => W.cell? ⟨b4, 0, none⟩ = some (.func (.func gh) pa cb) ∧ W.cell? ⟨Bx, 2, none⟩ = some (.int .u32 (y.1.to : Int)) ∧ W.cell? ⟨b5, 0, none⟩ = some (.int .i64 bd)) (fun _ => false) hmix ?_
              refine wpAnyHIn_take (Wide.wide.inRound l) 0 (.bool false) rfl (by kernel_rfl) (by kernel_rfl) (by kernel_rfl) (by kernel_rfl) (by kernel_rfl) (fun _ _ _ h => h) HS1.out ?_ (by kernel_rfl) ?_
              · rintro W ⟨s1, s2, s3⟩; go_simp
              refine wpAnyHIn_take (Wide.wide.inRound l) 1 (.bool false) rfl (by kernel_rfl) (by kernel_rfl) (by kernel_rfl) (by kernel_rfl) (by kernel_rfl) (fun _ _ _ h => h) HS1.out ?_ (by kernel_rfl) ?_
              · rintro W ⟨s1, s2, s3⟩; go_simp
              refine wpAnyHIn_skip (Wide.wide.inRound l) 2 rfl (by kernel_rfl) (by kernel_rfl) (by kernel_rfl) (by kernel_rfl) (by kernel_rfl) (fun _ _ _ h => h) HS1.out (by kernel_rfl) ?_
              refine wpAnyHIn_skip (Wide.wide.inRound l) 3 rfl (by kernel_rfl) (by kernel_rfl) (by kernel_rfl) (by kernel_rfl) (by kernel_rfl) (fun _ _ _ h => h) HS1.out (by kernel_rfl) ?_
              refine wpAnyHIn_skip (Wide.wide.inRound l) 4 rfl (by kernel_rfl) (by kernel_rfl) (by kernel_rfl) (by kernel_rfl) (by kernel_rfl) (fun _ _ _ h => h) HS1.out (by kernel_rfl) ?_
              refine wpAnyHIn_take (Wide.wide.inRound l) 5 (.bool false) rfl (by kernel_rfl) (by kernel_rfl) (by kernel_rfl) (by kernel_rfl) (by kernel_rfl) (fun _ _ _ h => h) HS1.out ?_ (by kernel_rfl) ?_
              · rintro W ⟨s1, s2, s3⟩; go_simp
              refine wpAnyHIn_take (Wide.wide.inRound l) 6 (.bool false) rfl (by kernel_rfl) (by kernel_rfl) (by kernel_rfl) (by kernel_rfl) (by kernel_rfl) (fun _ _ _ h => h) HS1.out ?_ (by kernel_rfl) ?_
              · rintro W ⟨s1, s2, s3⟩; go_simp
              refine wpAnyHIn_take (Wide.wide.inRound l) 7 (.func (.func gh) pa cb) rfl (by kernel_rfl) (by kernel_rfl) (by kernel_rfl) (by kernel_rfl) (by kernel_rfl) (fun _ _ _ h => h) HS1.out ?_ (by kernel_rfl) ?_
              · rintro W ⟨s1, s2, s3⟩; go_simp
              refine wpAnyHIn_take (Wide.wide.inRound l) 8 (.pointer (some ⟨Bx, 2, none⟩)) rfl (by kernel_rfl) (by kernel_rfl) (by kernel_rfl) (by kernel_rfl) (by kernel_rfl) (fun _ _ _ h => h) HS1.out ?_ (by kernel_rfl) ?_
              · rintro W ⟨s1, s2, s3⟩; go_simp
              refine wpAnyHIn_take (Wide.wide.inRound l) 9 (.int .u32 (y.1.to : Int)) rfl (by kernel_rfl) (by kernel_rfl) (by kernel_rfl) (by kernel_rfl) (by kernel_rfl) (fun _ _ _ h => h) HS1.out ?_ (by kernel_rfl) ?_
              · rintro W ⟨s1, s2, s3⟩; go_simp
              refine wpAnyHIn_one 10 rfl (by kernel_rfl) (by kernel_rfl) (fun K hK => ?_)
              go_simp
              refine ⟨trivial, ?_⟩
              refine (CallsIn.inRound l (callsIn_wide.2 (HH.out.answers _ y.1.to H1.out.hI HYL.out))).mono ?_; rintro en we ⟨rfl, hIe, hke⟩
              have HMe := Lib.hid (H1.out.asked HH.out hke hIe)
              have HKE := Lib.hid ((hmono (S := FH) HKD.out).trans hke)
              have HBXe := Lib.hid (hke.heap HBX.out (NO.out _ e1))
              have HS2 : Hid (we.cell? ⟨b4, 0, none⟩ = some (.func (.func gh) pa cb) ∧ we.cell? ⟨Bx, 2, none⟩ = some (.int .u32 (y.1.to : Int)) ∧ we.cell? ⟨b5, 0, none⟩ = some (.int .i64 bd)) :=
                ⟨HMe.out.x4.cell, (cell_of_blk HBXe.out).trans rfl, HMe.out.x5.cell⟩
              clear hIe hke HS1 H1 HBX HKD
              refine hK _ _ (fun _ => HS2.out) ?_
              clear hK K
              by_cases hdead : 1000000000 ≤ H y.1.to
              · have hd2 : decide (1000000000 ≤ H y.1.to) = true := by simpa using hdead
                refine wpAnyHIn_one 11 rfl (by kernel_rfl) (by kernel_rfl) (fun K hK => ?_)
                go_simp
                refine hK _ _ (fun _ => HS2.out) ?_
                clear hK K
                refine wpAnyHIn_one 12 rfl (by kernel_rfl) (by kernel_rfl) (fun K hK => ?_)
                go_simp
                refine hK _ _ (fun _ => HS2.out) ?_
                clear hK K
                refine wpAnyHIn_one 13 rfl (by kernel_rfl) (by kernel_rfl) (fun K hK => ?_)
                go_simp
                refine hK _ _ (fun _ => HS2.out) ?_
                clear hK K
                refine wpAnyHIn_skip (Wide.wide.inRound l) 14 rfl (by kernel_rfl) (by kernel_rfl) (by kernel_rfl) (by kernel_rfl) (by kernel_rfl) (fun _ _ _ h => h) HS2.out (by kernel_rfl) ?_
                refine wpAnyHIn_skip (Wide.wide.inRound l) 15 rfl (by kernel_rfl) (by kernel_rfl) (by kernel_rfl) (by kernel_rfl) (by kernel_rfl) (fun _ _ _ h => h) HS2.out (by kernel_rfl) ?_
                refine wpAnyHIn_skip (Wide.wide.inRound l) 16 rfl (by kernel_rfl) (by kernel_rfl) (by kernel_rfl) (by kernel_rfl) (by kernel_rfl) (fun _ _ _ h => h) HS2.out (by kernel_rfl) ?_
                refine wpAnyHIn_skip (Wide.wide.inRound l) 17 rfl (by kernel_rfl) (by kernel_rfl) (by kernel_rfl) (by kernel_rfl) (by kernel_rfl) (fun _ _ _ h => h) HS2.out (by kernel_rfl) ?_
                refine wpAnyHIn_skip (Wide.wide.inRound l) 18 rfl (by kernel_rfl) (by kernel_rfl) (by kernel_rfl) (by kernel_rfl) (by kernel_rfl) (fun _ _ _ h => h) HS2.out (by kernel_rfl) ?_
                refine wpAnyHIn_skip (Wide.wide.inRound l) 19 rfl (by kernel_rfl) (by kernel_rfl) (by kernel_rfl) (by kernel_rfl) (by kernel_rfl) (fun _ _ _ h => h) HS2.out (by kernel_rfl) ?_
                refine wpAnyHIn_skip (Wide.wide.inRound l) 20 rfl (by kernel_rfl) (by kernel_rfl) (by kernel_rfl) (by kernel_rfl) (by kernel_rfl) (fun _ _ _ h => h) HS2.out (by kernel_rfl) ?_
                refine wpAnyHIn_skip (Wide.wide.inRound l) 21 rfl (by kernel_rfl) (by kernel_rfl) (by kernel_rfl) (by kernel_rfl) (by kernel_rfl) (fun _ _ _ h => h) HS2.out (by kernel_rfl) ?_
                refine wpAnyHIn_skip (Wide.wide.inRound l) 22 rfl (by kernel_rfl) (by kernel_rfl) (by kernel_rfl) (by kernel_rfl) (by kernel_rfl) (fun _ _ _ h => h) HS2.out (by kernel_rfl) ?_
                refine wpAnyHIn_one 23 rfl (by kernel_rfl) (by kernel_rfl) (fun K hK => ?_)
                go_simp
                refine hK _ _ (fun _ => HS2.out) ?_
                clear hK K
                refine wpAnyHIn_done (by kernel_rfl) ?_
                clear HS2
                gi_wp2
                gi_meet
                case rel => exact ⟨true, rfl, HMe.out, HKE.out, HBXe.out, .inl ⟨rfl, .inl (.inl hdead)⟩⟩
              · have hd2 : decide (1000000000 ≤ H y.1.to) = false := by simpa using hdead
                refine wpAnyHIn_one 11 rfl (by kernel_rfl) (by kernel_rfl) (fun K hK => ?_)
                go_simp
                refine hK _ _ (fun _ => HS2.out) ?_
                clear hK K
                refine wpAnyHIn_one 12 rfl (by kernel_rfl) (by kernel_rfl) (fun K hK => ?_)
                go_simp
                refine hK _ _ (fun _ => HS2.out) ?_
                clear hK K
                refine wpAnyHIn_one 13 rfl (by kernel_rfl) (by kernel_rfl) (fun K hK => ?_)
                go_simp
                refine hK _ _ (fun _ => HS2.out) ?_
                clear hK K
                refine wpAnyHIn_take (Wide.wide.inRound l) 14 (.int .i64 (p + (4096 * y.1.cost + 1))) rfl (by kernel_rfl) (by kernel_rfl) (by kernel_rfl) (by kernel_rfl) (by kernel_rfl) (fun _ _ _ h => h) HS2.out ?_ (by kernel_rfl) ?_
                · rintro W ⟨s1, s2, s3⟩; go_simp
                refine wpAnyHIn_take (Wide.wide.inRound l) 15 (.int .i64 ((p + (4096 * y.1.cost + 1)) / 4096)) rfl (by kernel_rfl) (by kernel_rfl) (by kernel_rfl) (by kernel_rfl) (by kernel_rfl) (fun _ _ _ h => h) HS2.out ?_ (by kernel_rfl) ?_
                · rintro W ⟨s1, s2, s3⟩; go_simp
                refine wpAnyHIn_take (Wide.wide.inRound l) 16 (.func (.func gh) pa cb) rfl (by kernel_rfl) (by kernel_rfl) (by kernel_rfl) (by kernel_rfl) (by kernel_rfl) (fun _ _ _ h => h) HS2.out ?_ (by kernel_rfl) ?_
                · rintro W ⟨s1, s2, s3⟩; go_simp
                refine wpAnyHIn_take (Wide.wide.inRound l) 17 (.pointer (some ⟨Bx, 2, none⟩)) rfl (by kernel_rfl) (by kernel_rfl) (by kernel_rfl) (by kernel_rfl) (by kernel_rfl) (fun _ _ _ h => h) HS2.out ?_ (by kernel_rfl) ?_
                · rintro W ⟨s1, s2, s3⟩; go_simp
                refine wpAnyHIn_take (Wide.wide.inRound l) 18 (.int .u32 (y.1.to : Int)) rfl (by kernel_rfl) (by kernel_rfl) (by kernel_rfl) (by kernel_rfl) (by kernel_rfl) (fun _ _ _ h => h) HS2.out ?_ (by kernel_rfl) ?_
                · rintro W ⟨s1, s2, s3⟩; go_simp
                refine wpAnyHIn_take (Wide.wide.inRound l) 21 (.int .i64 bd) rfl (by kernel_rfl) (by kernel_rfl) (by kernel_rfl) (by kernel_rfl) (by kernel_rfl) (fun _ _ _ h => h) HS2.out ?_ (by kernel_rfl) ?_
                · rintro W ⟨s1, s2, s3⟩; go_simp
                refine wpAnyHIn_one 19 rfl (by kernel_rfl) (by kernel_rfl) (fun K hK => ?_)
                go_simp
                refine ⟨trivial, ?_⟩
                refine (CallsIn.inRound l (callsIn_wide.2 (HH.out.answers _ y.1.to HMe.out.hI HYL.out))).mono ?_; rintro en wf ⟨rfl, hIf, hkf⟩
                have HMX := Lib.hid (HMe.out.asked HH.out hkf hIf)
                have HKX := Lib.hid (HKE.out.trans hkf)
                have HBXX := Lib.hid (hkf.heap HBXe.out (NO.out _ e1))
                have HS3 : Hid (wf.cell? ⟨b4, 0, none⟩ = some (.func (.func gh) pa cb) ∧ wf.cell? ⟨Bx, 2, none⟩ = some (.int .u32 (y.1.to : Int)) ∧ wf.cell? ⟨b5, 0, none⟩ = some (.int .i64 bd)) :=
                  ⟨HMX.out.x4.cell, (cell_of_blk HBXX.out).trans rfl, HMX.out.x5.cell⟩
                clear hIf hkf HS2 HMe HKE HBXe
                refine hK _ _ (fun _ => HS3.out) ?_
                clear hK K
                by_cases hcut : bd < (p + (4096 * y.1.cost + 1)) / 4096 + H y.1.to
                · have hd3 : decide (bd < (p + (4096 * y.1.cost + 1)) / 4096 + H y.1.to) = true := by simpa using hcut
                  refine wpAnyHIn_one 20 rfl (by kernel_rfl) (by kernel_rfl) (fun K hK => ?_)
                  go_simp
                  refine hK _ _ (fun _ => HS3.out) ?_
                  clear hK K
                  refine wpAnyHIn_one 22 rfl (by kernel_rfl) (by kernel_rfl) (fun K hK => ?_)
                  go_simp
                  refine hK _ _ (fun _ => HS3.out) ?_
                  clear hK K
                  refine wpAnyHIn_one 23 rfl (by kernel_rfl) (by kernel_rfl) (fun K hK => ?_)
                  go_simp
                  refine hK _ _ (fun _ => HS3.out) ?_
                  clear hK K
                  refine wpAnyHIn_done (by kernel_rfl) ?_
                  clear HS3
                  gi_wp2
                  gi_meet
                  case rel => exact ⟨true, rfl, HMX.out, HKX.out, HBXX.out, .inl ⟨rfl, .inl (.inr hcut)⟩⟩
                · have hd3 : decide (bd < (p + (4096 * y.1.cost + 1)) / 4096 + H y.1.to) = false := by simpa using hcut
                  refine wpAnyHIn_one 20 rfl (by kernel_rfl) (by kernel_rfl) (fun K hK => ?_)
                  go_simp
                  refine hK _ _ (fun _ => HS3.out) ?_
                  clear hK K
                  refine wpAnyHIn_one 22 rfl (by kernel_rfl) (by kernel_rfl) (fun K hK => ?_)
                  go_simp
                  refine hK _ _ (fun _ => HS3.out) ?_
                  clear hK K
                  refine wpAnyHIn_one 23 rfl (by kernel_rfl) (by kernel_rfl) (fun K hK => ?_)
                  go_simp
                  refine hK _ _ (fun _ => HS3.out) ?_
                  clear hK K
                  refine wpAnyHIn_done (by kernel_rfl) ?_
                  clear HS3
                  gi_wp2
                  gi_meet
                  case rel => exact ⟨false, rfl, HMX.out, HKX.out, HBXX.out, .inr ⟨rfl, HLT.out, fun h => h.elim (fun h => by omega) (fun h => by omega)⟩⟩
          case rest =>
            obtain ⟨bb, rfl, q1, q2, q3, q4⟩ := hcut
            have HMX := Lib.hid q1; have HKX := Lib.hid q2; have HBXX := Lib.hid q3
            clear q1 q2 q3 H1 HBX HKD hqt hqf
            rcases q4 with ⟨rfl, hwhy⟩ | ⟨rfl, hlt4, hnc4⟩
            · obtain ⟨R2, ha2, ht2⟩ := H2.out.next H3.out y.1
              have HA3 := Lib.hid (ha2.skip HPP.out hwhy); have HT2 := Lib.hid ht2
              clear ha2 ht2 hwhy
              gi_wp2
              obtain ⟨c1, c2⟩ := close_of (B := W9.heap.size) (n0 := w00.heap.size) (Bs := W3.heap.size + 1) HKX.out (fun k h => by
                have := HH.out.lo k h
                exact ⟨this.1, .inl (by omega), by omega⟩) (by omega) (lt_of_heap H6.out)
              exact ⟨c1, c2, P1, par1, A1, vl, R2, HMX.out, HA3.out, by rw [List.map_append]; exact HT2.out, HPP.out, g1, g2, H5.out.keeps (KeepsD.of HKX.out (fun k h => HH.out.nd H0.out.hI h)), HKX.out.heap H6.out (NO.out _ (by omega)), HKX.out.heap H7.out (NO.out _ hb10w), H8.out, H9.out.keeps HKX.out (NO.out _ (by omega))⟩
            · have HLT := Lib.hid hlt4
              have HNC := Lib.hid (show ¬ Cut H bd (p + (arcOf y.1).price) (arcOf y.1).to from hnc4)
              clear hlt4 hnc4
              generalize wc = wf at HMX HKX HBXX ⊢
              have KD := (Keeps.refl (fun _ => False) wf).drew
              have HMd := Lib.hid (HMX.out.keeps0 HH.out KD); have HBXd := Lib.hid (KD.heap HBXX.out (fun h => h)); have HKd := Lib.hid (HKX.out.trans (hmono KD))
              obtain ⟨wb, hrb, hmb, hkb⟩ := HMd.out.price.put (P := Tryz.prog) Tryz.underlying80 Tryz.underlying82 y.1.to (p + (4096 * y.1.cost + 1))
              have HSTb := Lib.hid (((H9.out.keeps HKd.out (NO.out _ (by omega))).put (P := Tryz.prog) HMd.out.price Tryz.underlying80 Tryz.underlying82 hrb))
              unfold intV at hrb
              have HMb := Lib.hid (HMd.out.priced HH.out hkb hmb)
              have n1 : Bx ≠ mp := by omega
              have HBXb := Lib.hid (hkb.heap HBXd.out n1); have HB10b := Lib.hid (hkb.heap (HKd.out.heap H7.out (NO.out _ hb10w)) (show ¬ b10 = mp by omega))
              have HKB := Lib.hid (hkb)
              have x8c := HMX.out.x8.cell
              have x8l := HMX.out.x8.lt
              have xrc : wf.cell? ⟨rb, 0, none⟩ = some (.map (some mp)) := (cell_of_blk HMX.out.xr).trans rfl
              have xrl := lt_of_heap HMX.out.xr
              have y2c : wf.cell? ⟨Bx, 2, none⟩ = some (.int .u32 (y.1.to : Int)) := (cell_of_blk HBXX.out).trans rfl
              have hBxl := lt_of_heap HBXX.out
              clear hmb hkb n1 KD
              gi_wp2
              refine wpIn_region_still_tail 7 (Wide.wide.inRound l) hmix rfl (by kernel_rfl) ?_
              simp only [List.take_succ_cons, List.take_zero, List.drop_succ_cons, List.drop_zero]
              repeat still_step
              refine wpStill_nil ?_
              clear x8c x8l xrc xrl y2c hBxl
              have KD := (Keeps.refl (fun _ => False) wb).drew
              have HMc0 := Lib.hid (HMb.out.keeps0 HH.out KD); have HBXc0 := Lib.hid (KD.heap HBXb.out (fun h => h))
              obtain ⟨wc, hrc, hmc, hkc⟩ := HMc0.out.par_.put (P := Tryz.prog) Tryz.underlying81 Tryz.underlying82 y.1.to ⟨y.1.op, 4096 * y.1.cost + 1, s⟩
              replace hrc : (Instr.mapUpdate 81 (.map (some mr)) (.int .u32 (y.1.to : Int)) (.agg #[.int .u32 (s : Int), .int .i64 (y.1.op : Int)])).run Tryz.prog wb.drew = .ok () wc := hrc
              have hne : y.1.to ≠ st := fun e => by
                have := HLT.out 0 (by rw [e]; exact H2.out.start.1)
                omega
              rw [parF_put hne] at hmc
              have HMc := Lib.hid (HMc0.out.pard HH.out hkc hmc)
              have HBXc := Lib.hid (hkc.heap HBXc0.out (show ¬ Bx = mr by omega))
              have HKC := Lib.hid (show Keeps (fun k => FH k ∨ k = mp ∨ k = mr) W wc from (((HKd.out.mono (fun _ _ h => .inl h)).trans (HKB.out.mono (fun _ _ h => .inr (.inl h)))).trans (hmono KD)).trans (hkc.mono (fun _ _ h => .inr (.inr h))))
              have HSTc := Lib.hid ((HSTb.out.keeps KD (fun h => h)).keeps hkc (show ¬ mp = mr by omega))
              have x8c := HMb.out.x8.cell
              have x8l := HMb.out.x8.lt
              have xrc : wb.cell? ⟨rb, 1, none⟩ = some (.map (some mr)) := (cell_of_blk HMb.out.xr).trans rfl
              have xrl := lt_of_heap HMb.out.xr
              have y2c : wb.cell? ⟨Bx, 2, none⟩ = some (.int .u32 (y.1.to : Int)) := (cell_of_blk HBXb.out).trans rfl
              have y0c : wb.cell? ⟨Bx, 0, none⟩ = some (.int .i64 (y.1.op : Int)) := (cell_of_blk HBXb.out).trans rfl
              have hBxl := lt_of_heap HBXb.out
              have x10c : wb.cell? ⟨b10, 0, none⟩ = some (.int .u32 (s : Int)) := (cell_of_blk HB10b.out).trans rfl
              have x10l := lt_of_heap HB10b.out
              clear hmc hkc KD
              gi_wp2
              refine wpIn_region_still_tail 10 (Wide.wide.inRound l) hmix rfl (by kernel_rfl) ?_
              simp only [List.take_succ_cons, List.take_zero, List.drop_succ_cons, List.drop_zero]
              repeat still_step
              refine wpStill_nil ?_
              clear x8c x8l xrc xrl y2c y0c hBxl x10c x10l
              have x9c := HMc.out.x9.cell
              have x9l := HMc.out.x9.lt
              have z2c : wc.cell? ⟨Bx, 2, none⟩ = some (.int .u32 (y.1.to : Int)) := (cell_of_blk HBXc.out).trans rfl
              have zBx := lt_of_heap HBXc.out
              have HROW := Lib.hid (HMc.out.line.keeps ((Keeps.refl (fun _ => False) wc).alloc (.cells #[.int .u32 (y.1.to : Int)] 82)) (fun _ _ h => h))
              have hlowc : w.heap.size ≤ wc.heap.size := HMc.out.keep.size
              have hAl : A1.length ≤ 1800000000000 := by omega
              gi_wp2_with (gi_at_builtin; refine wpListIn_append_tail _ rfl (.tmp 106) (.tmp 109) 72 rfl w.heap.size 82 i0 _ 4 Tryz.underlying72 hi0 hz0 hz1 hz2 rfl vl (A1.map encW) rfl HROW.out ⟨wc.heap.size, 0, none⟩ 1 (.int .u32 (y.1.to : Int)) rfl ?_ rfl A1.length (by simp) (by unfold maxLen; omega) (by omega) (by simp; omega) (wc.heap.size + 1) (by simp) ?_)
              · exact (Boxed.new wc _ _).cell
              intro g4 off4 cap4 W2' hown2 hgrow2 hat2 hlt2
              have nrow : ∀ k, k ≤ b8 ∨ k = b9 → ¬ vl.ownBlock = some k := fun k hk e => by have := H0.out.row k e; omega
              have hkg : Keeps (fun b => vl.ownBlock = some b) (wc.alloc (.cells #[.int .u32 (y.1.to : Int)] 82)) W2' := (Keeps.refl _ _).grown hgrow2 (fun k hk => .inl hk)
              have hbx9 : Boxed W2' b9 72 vl := hkg.heap (((Keeps.refl (fun _ => False) wc).alloc _).heap HMc.out.x9 (fun h => h)) (nrow _ (.inr rfl))
              have v1c : W2'.cell? ⟨b9, 0, none⟩ = some vl := hbx9.cell
              have v1f := hbx9.frozen
              have v1l := hbx9.lt
              have HP2 := Lib.hid (HMc.out.push HH.out (x := y.1.to) hown2 hgrow2 hat2)
              have HKG := Lib.hid hkg; have HAT2 := Lib.hid hat2; have NRW := Lib.hid nrow
              clear hown2 hgrow2 hat2 hlt2 hbx9 hkg nrow x9c x9l z2c zBx
              gi_wp2
              have KT : Keeps (fun k => (FH k ∨ k = mp ∨ k = mr) ∨ k = b9 ∨ vl.ownBlock = some k) W (W2'.setCell ⟨b9, 0, none⟩ (.slice (some ⟨g4, off4, none⟩) (A1.length + 1) cap4)) :=
                (((HKC.out.mono (fun _ _ h => .inl h)).trans (hmono ((Keeps.refl (fun _ => False) wc).alloc _))).trans (HKG.out.mono (fun _ _ h => .inr (.inr h)))).trans ((Keeps.refl _ W2').setCell (p := ⟨b9, 0, none⟩) (.inl (.inr (.inl rfl))) _)
              have hzc := HKC.out.size
              have l6 := lt_of_heap H6.out
              have l7 := lt_of_heap H7.out
              have nS : ∀ k, w.heap.size ≤ k → k ≠ mp → k ≠ mr → k ≠ b9 → ¬ vl.ownBlock = some k → ¬ ((FH k ∨ k = mp ∨ k = mr) ∨ k = b9 ∨ vl.ownBlock = some k) := fun k h1 h2 h3 h4 h5 h => by
                rcases h with (h | h | h) | h | h
                · exact NO.out k h1 h
                · exact h2 h
                · exact h3 h
                · exact h4 h
                · exact h5 h
              obtain ⟨c1, c2⟩ := close_of (B := W9.heap.size) (n0 := w00.heap.size) (Bs := W3.heap.size + 1) KT (fun k h => by
                rcases h with (h | h | h) | h | h
                · have := HH.out.lo k h
                  exact ⟨this.1, .inl (by omega), by omega⟩
                · exact ⟨by omega, .inl (by omega), by omega⟩
                · exact ⟨by omega, .inl (by omega), by omega⟩
                · exact ⟨by omega, .inl (by omega), by omega⟩
                · have h1 := H0.out.row k h
                  obtain ⟨cur, hc⟩ := H0.out.line.block k h
                  exact ⟨by omega, .inr ⟨_, _, _, hc⟩, (H8.out k h).1⟩) (by omega) l6
              obtain ⟨R2, ha2, ht2⟩ := H2.out.next H3.out y.1
              have hfall := ha2.fall HSH.out HCO.out hfew (step_arc HSL.out y.2) HPP.out HLT.out HNC.out
              have hsy : s ≠ y.1.to := fun e => by
                have := HLT.out p (by rw [← e]; exact HPP.out)
                omega
              have hwt := weightB_put (L := L) (m := 900000000) (P := P1) (x := y.1.to) (v := p + (4096 * y.1.cost + 1)) (by omega) HYL.out (fun q hq => by have := HLT.out q hq; omega)
              have hal : (A1 ++ [y.1.to]).length = A1.length + 1 := by simp
              exact ⟨c1, c2, _, _, A1 ++ [y.1.to], _, R2, HP2.out, hfall, by rw [List.map_append]; exact ht2, (show putP P1 y.1.to (p + (4096 * y.1.cost + 1)) s = some p from by rw [putP_other _ _ hsy]; exact HPP.out), (show 2 * weightB L 900000000 (putP P1 y.1.to (p + (4096 * y.1.cost + 1))) + (A1 ++ [y.1.to]).length < M0 by omega),
                (show (A1 ++ [y.1.to]).length + weightB L 900000000 (putP P1 y.1.to (p + (4096 * y.1.cost + 1))) ≤ 1800000000000 by omega),
                H5.out.keeps (KeepsD.of KT (fun k h => by
                  rcases h with (h | h | h) | h | h
                  · exact HH.out.nd H0.out.hI h
                  · rw [h]; exact H0.out.nd.1
                  · rw [h]; exact H0.out.nd.2.1
                  · rw [h]; exact H0.out.nd.2.2
                  · exact H0.out.line.not_deferred k h)),
                KT.heap H6.out (nS _ (by omega) (by omega) (by omega) (by omega) (fun h => (H8.out _ h).1 rfl)), KT.heap H7.out (nS _ hb10w (by omega) (by omega) (by omega) (fun h => (H8.out _ h).2 rfl)),
                (fun k hk => by
                  simp [Value.ownBlock] at hk
                  subst hk
                  rcases HAT2.out with h | h
                  · exact H8.out _ h
                  · exact ⟨by omega, by omega⟩),
                ((HSTc.out.keeps ((Keeps.refl (fun _ => False) wc).alloc (.cells #[.int .u32 (y.1.to : Int)] 82)) (fun h => h)).keeps HKG.out (NRW.out _ (.inl (by omega)))).keeps ((Keeps.refl (fun b => b = b9) W2').setCell (p := ⟨b9, 0, none⟩) (.inl rfl) _) (by omega)⟩
        · rintro D ys W hD hys ⟨P1, par1, A1, vl, R1, h1, h2, h3, h4, g1, g2, h5, h6, h7, h8, h9⟩ hd
          have hys' : (ys.map fun y => y.1) = wsteps ops s := hys
          rw [hys'] at h3
          have hR := h3.done
          subst hR
          have HM7 := Lib.hid (HM9.out.cons h5 hD (by omega) hd)
          have H1 := Lib.hid h1; have H2 := Lib.hid h2; have H9 := Lib.hid h9
          clear h1 h2 h3 h5 h6 h7 h8 h9 hd hys hys'
          gi_wp2
          exact ⟨_, by omega, mark D :: ds, P1, par1, A1, vl, H1.out, H9.out, H2.out.anyS, rfl, by omega, HM7.out, ex_fnD rfl⟩
        · exact fun _ _ _ _ _ _ h _ => h.elim

end Go.Proofs.YtkjmgafnaddhkaaGreat
