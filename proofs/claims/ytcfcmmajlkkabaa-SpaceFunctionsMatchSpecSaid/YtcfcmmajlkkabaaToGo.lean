/- The reference's ToGo. -/
import Derived.Test.YtcfcmmajlkkabaaArcs
import Derived.IntWalk
namespace Go.Proofs.Ytcfcmmajlkkabaa
open Go.RowKit

/-- A row of ints in a block of one's own at the start's end. -/
structure DRow (w : World) (n : Nat) (d : List Int) (wr : World) : Prop where
  own : wr.ownsRow w.heap.size 3 1 (.slice (some ⟨w.heap.size, 0, none⟩) n n) n (d.map (Value.int .i64))
  keeps : Keeps (fun _ => False) w wr

theorem DRow.len {w : World} {n : Nat} {d : List Int} {wr : World} (h : DRow w n d wr) : d.length = n := by simpa using h.own.1
theorem DRow.keeps0 {w : World} {n : Nat} {d : List Int} {wr wq : World} (h : DRow w n d wr) (hk : Keeps (fun _ => False) wr wq) : DRow w n d wq := ⟨hk.ownsRow h.own (fun _ _ h => h), h.keeps.trans hk⟩
theorem DRow.set {w : World} {n : Nat} {d : List Int} {wr : World} (h : DRow w n d wr) (i : Nat) (z : Int) : DRow w n (d.set i z) (wr.setCell ⟨w.heap.size, i, none⟩ (.int .i64 z)) := by
  refine ⟨?_, h.keeps.trans' ((Keeps.refl (fun b => b = w.heap.size) wr).setCell (p := ⟨w.heap.size, i, none⟩) (.inl rfl) _) (fun b hb => .inr (by omega))⟩
  have := (h.own.stored i (.int .i64 z)).1
  rw [List.map_set]
  exact this
theorem DRow.cell {w : World} {n : Nat} {d : List Int} {wr : World} (h : DRow w n d wr) {i : Nat} {x : Int} (hx : d[i]? = some x) : wr.cell? ⟨w.heap.size, i, none⟩ = some (.int .i64 x) := by
  have hl := (List.getElem?_eq_some_iff.1 hx).1
  rw [h.own.cellAt i (by rw [← h.len]; omega), List.getElem?_map, hx]; rfl
theorem DRow.frozen {w : World} {n : Nat} {d : List Int} {wr : World} (h : DRow w n d wr) (i : Nat) : wr.frozen? ⟨w.heap.size, i, none⟩ = false := h.own.frozenAt i
theorem DRow.lt {w : World} {n : Nat} {d : List Int} {wr : World} (h : DRow w n d wr) : w.heap.size < wr.heap.size := (World.ownsRow.lt h.own w.heap.size rfl).2

theorem fill_step {S : List Int} {n i : Nat} {z : Int} (hz : S[i]? = some z) (hn : S.length = n) (u : Int) : (S.take i ++ List.replicate (n - i) u).set i z = S.take (i + 1) ++ List.replicate (n - (i + 1)) u := by
  have hl := (List.getElem?_eq_some_iff.1 hz).1
  have ht : (S.take i).length = i := by rw [List.length_take]; omega
  have e : n - i = (n - (i + 1)) + 1 := by omega
  rw [List.set_append_right _ _ (by omega), ht, Nat.sub_self, e, List.replicate_succ, List.set_cons_zero, List.take_succ_eq_append_getElem hl, (List.getElem?_eq_some_iff.1 hz).2]
  simp

/-- A slice of bools that reads as l. -/
def Bools (w : World) (v : Value) (l : List Bool) : Prop := Sl w v l.length (l.map Value.bool)
def ArcsAt (w : World) (v : Value) (A : List Arc) : Prop := Sl w v A.length (arcCells A)
theorem Bools.keeps0 {w w' : World} {v : Value} {l : List Bool} (h : Bools w v l) (hk : Keeps (fun _ => False) w w') : Bools w' v l := Sl.keeps0 h hk
theorem ArcsAt.keeps0 {w w' : World} {v : Value} {A : List Arc} (h : ArcsAt w v A) (hk : Keeps (fun _ => False) w w') : ArcsAt w' v A := Sl.keeps0 h hk
theorem Sl.formN {w : World} {v : Value} {n : Nat} {cs : List Value} (h : Sl w v n cs) : ∃ ao cap, v = .slice ao n cap ∧ n ≤ 9223372036854775807 := by
  obtain ⟨ao, cap, hv, hm, _⟩ := h
  unfold maxLen at hm
  exact ⟨ao, cap, hv, by omega⟩
theorem Sl.cellN {w : World} {v : Value} {n m cap : Nat} {cs : List Value} {ao : Option Addr} (h : Sl w v n cs) (hv : v = .slice ao m cap) (hn : 0 < n) : ∃ b off, ao = some ⟨b, off, none⟩ ∧ ∀ j x, cs[j]? = some x → w.cell? ⟨b, off + j, none⟩ = some x := by
  obtain ⟨ao', cap', hv', hm, hc⟩ := h
  rw [hv'] at hv
  simp only [Value.slice.injEq] at hv
  obtain ⟨rfl, _, rfl⟩ := hv
  exact hc hn
theorem ArcsAt.cell {w : World} {v : Value} {A : List Arc} (h : ArcsAt w v A) {ao : Option Addr} {m cap : Nat} (hv : v = .slice ao m cap) (hn : 0 < A.length) : ∃ b off, ao = some ⟨b, off, none⟩ ∧ ∀ i a, A[i]? = some a →
    w.cell? ⟨b, off + i * 4, none⟩ = some (.int .i64 (a.frm : Int)) ∧ w.cell? ⟨b, off + i * 4 + 1, none⟩ = some (.int .i64 (a.to : Int)) ∧ w.cell? ⟨b, off + i * 4 + 2, none⟩ = some (.int .i64 (a.op : Int)) ∧ w.cell? ⟨b, off + i * 4 + 3, none⟩ = some (.int .i64 a.cost) := by
  obtain ⟨b, off, h1, h2⟩ := Sl.cellN h hv hn
  refine ⟨b, off, h1, fun i a ha => ?_⟩
  obtain ⟨g0, g1, g2, g3⟩ := arcCells_get ha
  exact ⟨h2 _ _ g0, h2 _ _ g1, h2 _ _ g2, h2 _ _ g3⟩
theorem OwnArcs.at {B : Nat} {w : World} {v : Value} {A : List Arc} (h : OwnArcs B w v A) : ArcsAt w v A := by
  rcases h.2 with ⟨hv, h0⟩ | ⟨g, cap, cur, hv, hb, hg, hn, hm, hs, ht⟩
  · exact ⟨none, 0, by rw [hv, h0], by omega, fun h => by omega⟩
  · refine ⟨_, cap, hv, by omega, fun _ => ⟨g, 0, rfl, fun j x hj => ?_⟩⟩
    rw [Nat.zero_add, cell_of_blk hg]
    rw [← ht, List.getElem?_take] at hj
    split at hj
    · simpa using hj
    · cases hj

theorem wp_gen {P : Program} {c : Code} {Q : Exit → Act → World → Prop} {a : Act} {w5 w : World} (hk : Keeps (fun _ => False) w5 w) (h : ∀ w6, Keeps (fun _ => False) w5 w6 → Code.wp P c Q a w6) : Code.wp P c Q a w := h _ hk

/-- What holds at the head of ToGo's rounds. -/
def GoHead (w : World) (A : List Arc) (acc : List Bool) (k : Nat) (v : Value) (wr : World) : Prop :=
  ∃ (d : List Int) (again : Bool), v = .bool again ∧ GoInv A acc d ∧ DRow w acc.length d wr ∧ (again = false → ∀ a ∈ A, stable d a) ∧ k = 2 * weight acc.length d + (if again = true then 1 else 0)
def GoMid (w : World) (A : List Arc) (acc : List Bool) (m : Nat) (i : Nat) (v : Value) (wr : World) : Prop :=
  ∃ (d : List Int) (again : Bool), v = .bool again ∧ GoInv A acc d ∧ DRow w acc.length d wr ∧ (again = false → ∀ a ∈ A.take i, stable d a) ∧ weight acc.length d ≤ m ∧ (again = true → weight acc.length d < m)

def ToGoPost (w : World) (A : List Arc) (acc : List Bool) (e : Ending) (w' : World) : Prop :=
  ∃ v d, e = .returned v ∧ GoOk A acc d ∧ w'.ownsRow w.heap.size 3 1 v acc.length (d.map (Value.int .i64)) ∧ Keeps (fun _ => False) w w'

theorem stable_of {d : List Int} {a : Arc} {x y : Int} (hx : d[a.frm]? = some x) (hy : d[a.to]? = some y) (h : y < 0 ∨ (0 ≤ x ∧ x ≤ y + 1)) : stable d a := by
  intro z hz h0
  rw [hy] at hz; cases hz
  rcases h with h | h
  · omega
  · exact ⟨x, hx, h⟩
theorem stable_take {d : List Int} {A : List Arc} {i : Nat} {a : Arc} (ha : A[i]? = some a) (hs : stable d a) (h : ∀ b ∈ A.take i, stable d b) : ∀ b ∈ A.take (i + 1), stable d b := by
  intro b hb
  rw [take_getS ha] at hb
  rcases List.mem_append.1 hb with hb | hb
  · exact h b hb
  · simp at hb; subst hb; exact hs

set_option maxRecDepth 100000 in
set_option maxHeartbeats 4000000 in
theorem toGo_any (w : World) (va vb : Value) (A : List Arc) (acc : List Bool) (ha : ArcsAt w va A) (hb : Bools w vb acc) (hn : acc.length ≤ 100000) (hA : ∀ a ∈ A, a.frm < acc.length ∧ a.to < acc.length) :
    Calls Try.prog 62 #[va, vb] w (ToGoPost w A acc) := by
  obtain ⟨i0, hi0, hz0, hz1, hz2⟩ := info_parts Try.info3
  obtain ⟨aa, ca, hva, ma⟩ := Sl.formN ha
  obtain ⟨ab, cb, hvb, mb⟩ := Sl.formN hb
  have CA := Lib.hid (ha.cell hva)
  have CB := Lib.hid (Sl.cellN hb hvb)
  have HLT := Lib.hid hA
  subst hva hvb
  clear ha hb hA
  go_enter Try.func62, Try.ntmps62
  go_wp2_with (at_make; refine wpList_make_full _ rfl _ _ 22 rfl w.heap.size 3 i0 (.int .i64 0) 1 Try.underlying22 hi0 hz0 hz1 .i64 .i64 _ _ acc.length rfl rfl rfl rfl (by rw [hz2]; omega) (by unfold maxLen; omega) (Nat.le_refl _) ?_; intro w1 hown hgrow)
  have hI : DRow w acc.length ((goStart acc).take 0 ++ List.replicate (acc.length - 0) 0) w1 := by
    refine ⟨?_, (Keeps.refl (fun _ => False) w).grown hgrow (fun k hk => by cases hk)⟩
    have e : (madeCells (Value.int .i64 0).cells (acc.length * 1)).toList = ((goStart acc).take 0 ++ List.replicate (acc.length - 0) 0).map (Value.int .i64) := by
      rw [Nat.mul_one, List.take_zero, List.nil_append, Nat.sub_zero, List.map_replicate]
      exact toList_madeCells_one (.int .i64 0) acc.length
    rw [e] at hown
    exact hown
  have HI := Lib.hid hI
  clear hI hown hgrow
  go_loopw [6] (fun v6 wr => ∃ i : Nat, i ≤ acc.length ∧ v6 = .int .i64 (i : Int) ∧ DRow w acc.length ((goStart acc).take i ++ List.replicate (acc.length - i) 0) wr) (fun v6 _ => acc.length - (intOf v6).toNat)
  case atStart => exact ⟨0, Nat.zero_le _, rfl, HI.out⟩
  case round =>
    obtain ⟨i, hi, rfl, hR⟩ := hrel
    have HR := Lib.hid hR
    have hlw := hR.lt
    clear hR
    by_cases hlt : i < acc.length
    · obtain ⟨bb, ob, rfl, hcell⟩ := CB.out (by omega)
      obtain ⟨b, hb⟩ : ∃ b, acc[i]? = some b := ⟨_, List.getElem?_eq_getElem hlt⟩
      have hbc := hcell i (.bool b) (by rw [List.getElem?_map, hb]; rfl)
      have hgl : (goStart acc).length = acc.length := by unfold goStart; rw [List.length_map]
      have hgs : (goStart acc)[i]? = some (if b = true then 0 else -1) := by unfold goStart; rw [List.getElem?_map, hb]; rfl
      have hD0 : ((goStart acc).take i ++ List.replicate (acc.length - i) 0)[i]? = some 0 := by
        have ht : ((goStart acc).take i).length = i := by rw [List.length_take]; omega
        rw [List.getElem?_append_right (by omega), ht, Nat.sub_self, List.getElem?_replicate, if_pos (by omega)]
      have q0 := HR.out.cell hD0
      have qf := HR.out.frozen i
      have HBC := Lib.hid hbc
      have hne : bb < w.heap.size := by have := World.block_lt_of_cell? w _ hbc; simpa using this
      have HS1 := Lib.hid (HR.out.set i (-1))
      cases b with
      | false =>
        rw [if_neg (by simp)] at hgs
        have HN := Lib.hid (show DRow w acc.length ((goStart acc).take (i + 1) ++ List.replicate (acc.length - (i + 1)) 0) (wr.setCell ⟨w.heap.size, i, none⟩ (.int .i64 (-1))) by
          rw [← fill_step hgs hgl]; exact HS1.out)
        clear hcell hb hbc hgl hgs hD0
        go_upto_region 6 with fail
        generalize (wr.setCell ⟨w.heap.size, i, none⟩ (.int .i64 (-1))) = w5 at HN ⊢
        have hbc2 := HN.out.keeps.cell HBC.out (fun h => h)
        clear q0 qf
        go_wp2_with fail
        go_roundw
        case rel => exact ⟨i + 1, by omega, by go_num, HN.out⟩
        case measure => simp [intOf]; omega
      | true =>
        rw [if_pos rfl] at hgs
        have HN := Lib.hid (show DRow w acc.length ((goStart acc).take (i + 1) ++ List.replicate (acc.length - (i + 1)) 0) ((wr.setCell ⟨w.heap.size, i, none⟩ (.int .i64 (-1))).setCell ⟨w.heap.size, i, none⟩ (.int .i64 0)) by
          have := HS1.out.set i 0
          rw [List.set_set, fill_step hgs hgl] at this; exact this)
        have hq1 : (((goStart acc).take i ++ List.replicate (acc.length - i) 0).set i (-1))[i]? = some (-1) := by rw [getElem?_setS, if_pos ⟨rfl, (List.getElem?_eq_some_iff.1 hD0).1⟩]
        have HQ1 := Lib.hid hq1
        clear hcell hb hbc hgl hgs hD0 hq1
        go_upto_region 6 with fail
        generalize (wr.setCell ⟨w.heap.size, i, none⟩ (.int .i64 (-1))) = w5 at HN HS1 ⊢
        have hbc2 := HS1.out.keeps.cell HBC.out (fun h => h)
        clear q0 qf
        have q1 := HS1.out.cell HQ1.out
        have qf1 := HS1.out.frozen i
        go_wp2_with fail
        go_roundw
        case rel => exact ⟨i + 1, by omega, by go_num, HN.out⟩
        case measure => simp [intOf]; omega
    · have HS := Lib.hid (show DRow w acc.length (goStart acc) wr by
        have h := HR.out
        have hgl : (goStart acc).length = acc.length := by unfold goStart; rw [List.length_map]
        rw [List.take_of_length_le (by omega), show acc.length - i = 0 by omega, List.replicate_zero, List.append_nil] at h
        exact h)
      have HIV := Lib.hid (GoInv.start A acc)
      clear hi
      go_wp2_with fail
      go_loopg [7] (2 * weight acc.length (goStart acc) + 1) (fun k v7 wq => GoHead w A acc k v7 wq)
      case atStart => exact ⟨goStart acc, true, rfl, HIV.out, HS.out, (fun h => by cases h), by rw [if_pos rfl]⟩
      case round =>
        obtain ⟨d, again, rfl, hinv, hdr, hst, hgk⟩ := hrel
        have INV := Lib.hid hinv; have DR := Lib.hid hdr; have ST := Lib.hid hst; have HGK := Lib.hid hgk
        clear hinv hdr hst hgk
        cases again with
        | false =>
          go_wp2_with fail
          go_ret
          exact ⟨_, d, rfl, ⟨INV.out, ST.out (by first | rfl | trivial)⟩, DR.out.own, DR.out.keeps⟩
        | true =>
          go_wp2_with fail
          go_loopw [7, 8] (fun v7 v8 wq => ∃ j : Nat, j ≤ A.length ∧ v8 = .int .i64 (j : Int) ∧ GoMid w A acc (weight acc.length d) j v7 wq) (fun _ v8 _ => A.length - (intOf v8).toNat)
          case atStart => exact ⟨0, Nat.zero_le _, rfl, d, false, rfl, INV.out, DR.out, (fun _ a ha => by simp at ha), Nat.le_refl _, (fun h => by cases h)⟩
          case round =>
            obtain ⟨j, hj, rfl, d2, ag2, rfl, hinv2, hdr2, hst2, hle2, hlt2⟩ := hrel
            have INV2 := Lib.hid hinv2; have DR2 := Lib.hid hdr2; have ST2 := Lib.hid hst2; have LE2 := Lib.hid hle2; have LT2 := Lib.hid hlt2
            have hl2 := hdr2.lt
            clear hinv2 hdr2 hst2 hle2 hlt2
            by_cases hjl : j < A.length
            · obtain ⟨ba, oa, rfl, hcell⟩ := CA.out (by omega)
              obtain ⟨a, ha⟩ : ∃ a, A[j]? = some a := ⟨_, List.getElem?_eq_getElem hjl⟩
              obtain ⟨g0, g1, g2, g3⟩ := hcell j a ha
              have c0 := DR2.out.keeps.cell g0 (fun h => h)
              have c1 := DR2.out.keeps.cell g1 (fun h => h)
              have c2 := DR2.out.keeps.cell g2 (fun h => h)
              have c3 := DR2.out.keeps.cell g3 (fun h => h)
              have HA := Lib.hid ha
              obtain ⟨hf, ht⟩ := HLT.out a (List.mem_of_getElem? ha)
              have hdl := DR2.out.len
              obtain ⟨x, hx⟩ : ∃ x, d2[a.frm]? = some x := ⟨_, List.getElem?_eq_getElem (by omega)⟩
              obtain ⟨y, hy⟩ : ∃ y, d2[a.to]? = some y := ⟨_, List.getElem?_eq_getElem (by omega)⟩
              have hyk : y ≤ acc.length := by
                have h1 := INV2.out.hi y (List.mem_of_getElem? hy)
                have h2 := known_le d2
                omega
              have HX := Lib.hid hx; have HY := Lib.hid hy
              have KA := Lib.hid ((Keeps.refl (fun _ => False) wr).alloc (.cells #[.int .i64 (a.frm : Int), .int .i64 (a.to : Int), .int .i64 (a.op : Int), .int .i64 a.cost] 95))
              have F4 := Lib.hid (Four.new wr (.int .i64 (a.frm : Int)) (.int .i64 (a.to : Int)) (.int .i64 (a.op : Int)) (.int .i64 a.cost) 95)
              have DR3 := Lib.hid (DR2.out.keeps0 KA.out)
              clear hcell g0 g1 g2 g3 ha hdl hx hy DR2 DR HS
              go_upto_region 15 with fail
              obtain ⟨b9, hb9⟩ : ∃ b9, wr.heap.size = b9 := ⟨_, rfl⟩
              rw [hb9] at F4 hl2 ⊢
              clear c0 c1 c2 c3
              generalize (wr.alloc (.cells #[.int .i64 (a.frm : Int), .int .i64 (a.to : Int), .int .i64 (a.op : Int), .int .i64 a.cost] 95)) = w5 at DR3 F4 ⊢
              clear KA hb9
              have hl9 := F4.out.lt
              have hl5 := DR3.out.lt
              obtain ⟨f0, f1, f2, f3⟩ := F4.out
              have cx := DR3.out.cell HX.out
              have cy := DR3.out.cell HY.out
              have i0 : (0 : Int) ≤ (a.frm : Int) := by omega
              have i1 : (a.frm : Int) < (acc.length : Int) := by omega
              have b0 : (0 : Int) ≤ (a.to : Int) := by omega
              have b1 : (a.to : Int) < (acc.length : Int) := by omega
              by_cases hy0 : 0 ≤ y
              · have ey0 : decide (0 ≤ y) = true := by simpa using hy0
                have hs : IntKind.i64.wrap (y + 1) = y + 1 := IntWalk.i64_in _ (by omega)
                by_cases hup : x < 0 ∨ y + 1 < x
                · have HN := Lib.hid (INV2.out.step (List.mem_of_getElem? HA.out) HX.out HY.out hy0 hup)
                  have HDL := Lib.hid DR3.out.len
                  have FIN := Lib.hid (show ∀ w6, Keeps (fun _ => False) w5 w6 → GoMid w A acc (weight acc.length d) (j + 1) (.bool true) (w6.setCell ⟨w.heap.size, a.frm, none⟩ (.int .i64 (y + 1))) from fun w6 hk6 => by
                    obtain ⟨n1, n2⟩ := HN.out
                    rw [HDL.out] at n2
                    have h1 := LE2.out
                    exact ⟨d2.set a.frm (y + 1), true, rfl, n1, (DR3.out.keeps0 hk6).set a.frm (y + 1), (fun h => by cases h), by omega, (fun _ => by omega)⟩)
                  by_cases hx0 : x < 0
                  case' pos => have ex0 : decide (x < 0) = true := by simpa using hx0
                  case' neg =>
                    have hx1 : y + 1 < x := by omega
                    have ex0 : decide (x < 0) = false := by simpa using hx0
                    have ex1 : decide (y + 1 < x) = true := by simpa using hx1
                  all_goals
                    clear hup
                    go_quiet (fail)
                    have kx := (Keeps.refl (fun _ => False) w5).drewN nq
                    generalize w5.drewN nq = wx at kx ⊢
                    have KX := Lib.hid kx
                    have cx2 := kx.cell cx (fun h => h)
                    have cy2 := kx.cell cy (fun h => h)
                    have f02 := kx.cell f0 (fun h => h)
                    have f12 := kx.cell f1 (fun h => h)
                    have hlx := Nat.lt_of_lt_of_le hl9 kx.size
                    have hlx5 := Nat.lt_of_lt_of_le hl5 kx.size
                    clear f0 f1 f2 f3 cx cy kx
                    go_step
                    go_upto_region 16 with fail
                    go_still_tail 10, (by kernel_rfl)
                    change wpList _ _ _ _ _ wx.drew
                    have KD := Lib.hid (KX.out.drew)
                    clear cx2 cy2 f02 f12 hlx hlx5
                    generalize wx.drew = w6 at KD ⊢
                    have cx := KD.out.cell (DR3.out.cell HX.out) (fun h => h)
                    have ff := (DR3.out.keeps0 KD.out).frozen a.frm
                    have hl6 := (DR3.out.keeps0 KD.out).lt
                    have FW := Lib.hid (FIN.out w6 KD.out)
                    clear ex0
                    go_wp2_with fail
                    go_roundw
                    case rel => exact ⟨j + 1, by omega, by go_num, FW.out⟩
                    case measure => simp [intOf]; omega
                · have hst : stable d2 a := stable_of HX.out HY.out (.inr ⟨by omega, by omega⟩)
                  have HST := Lib.hid hst
                  have ex0 : decide (x < 0) = false := by simp; omega
                  have ex1 : decide (y + 1 < x) = false := by simp; omega
                  clear hst hup
                  go_quiet (fail)
                  have KD := Lib.hid ((Keeps.refl (fun _ => False) w5).drewN nq)
                  generalize w5.drewN nq = w6 at KD ⊢
                  go_step
                  go_wp2_with fail
                  go_roundw
                  case rel => exact ⟨j + 1, by omega, by go_num, d2, ag2, rfl, INV2.out, DR3.out.keeps0 KD.out, (fun h => stable_take HA.out HST.out (ST2.out h)), LE2.out, LT2.out⟩
                  case measure => simp [intOf]; omega
              · have ey0 : decide (0 ≤ y) = false := by simpa using hy0
                have hst : stable d2 a := stable_of HX.out HY.out (.inl (by omega))
                have HST := Lib.hid hst
                clear hst
                go_quiet (fail)
                have KD := Lib.hid ((Keeps.refl (fun _ => False) w5).drewN nq)
                generalize w5.drewN nq = w6 at KD ⊢
                go_step
                go_wp2_with fail
                go_roundw
                case rel => exact ⟨j + 1, by omega, by go_num, d2, ag2, rfl, INV2.out, DR3.out.keeps0 KD.out, (fun h => stable_take HA.out HST.out (ST2.out h)), LE2.out, LT2.out⟩
                case measure => simp [intOf]; omega
            · have HTK : Hid (A.take j = A) := by unfold Hid; exact List.take_of_length_le (by omega)
              have HGD := Lib.hid (show GoHead w A acc (2 * weight acc.length d2 + (if ag2 = true then 1 else 0)) (.bool ag2) wr from ⟨d2, ag2, rfl, INV2.out, DR2.out, (fun h => by have := ST2.out h; rwa [HTK.out] at this), rfl⟩)
              go_wp2_with fail
              go_roundg (2 * weight acc.length d2 + (if ag2 = true then 1 else 0))
              case rel => exact HGD.out
              case measure =>
                have h1 := HGK.out
                have h2 := LE2.out
                have h3 := LT2.out
                cases ag2
                · rw [if_neg (by simp)]; simp at h1; omega
                · rw [if_pos rfl]; have := h3 rfl; simp at h1; omega

end Go.Proofs.Ytcfcmmajlkkabaa
