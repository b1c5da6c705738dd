/- The reference: Positions. -/
import Derived.Test.YtlghadoejmnllaaRefE
namespace Go.Proofs.Ytlghadoejmnllaa
open Go.RowKit

def rankR (x : Int) (i : Nat) (l : List Int) : Nat := l.zipIdx.countP fun p => decide (p.1 < x) || (decide (p.1 = x) && decide (p.2 < i))

theorem rankR_snoc (x : Int) (i : Nat) (l : List Int) (y : Int) : rankR x i (l ++ [y]) = rankR x i l + if y < x ∨ (y = x ∧ l.length < i) then 1 else 0 := by
  unfold rankR
  rw [List.zipIdx_append, List.countP_append]
  congr 1
  simp [List.countP_cons]

theorem rankR_lt {keys : List Int} {i : Nat} {x : Int} (h : keys[i]? = some x) : rankR x i keys < keys.length := by
  unfold rankR
  refine Nat.lt_of_le_of_ne (by have := List.countP_le_length (l := keys.zipIdx) (p := fun p => decide (p.1 < x) || (decide (p.1 = x) && decide (p.2 < i))); simpa using this) (fun e => ?_)
  rw [← List.length_zipIdx (l := keys) (i := 0), List.countP_eq_length] at e
  have := e (x, i) (by rw [List.mem_zipIdx_iff_getElem?]; exact h)
  simp at this

def fillR (keys : List Int) : Nat → List Int
  | 0 => List.replicate keys.length 0
  | i + 1 => (fillR keys i).set (rankR (keys.getD i 0) i keys) (i : Int)

theorem length_fillR (keys : List Int) : ∀ i, (fillR keys i).length = keys.length
  | 0 => by simp [fillR]
  | i + 1 => by simp [fillR, length_fillR keys i]

structure PosInv (w : World) (keys : List Int) (i : Nat) (wr : World) : Prop where
  own : wr.ownsRow w.heap.size 3 1 (.slice (some ⟨w.heap.size, 0, none⟩) keys.length keys.length) keys.length ((fillR keys i).map (Value.int .i64))
  keeps : Keeps (fun _ => False) w wr

theorem PosInv.drewN {w : World} {keys : List Int} {i : Nat} {wr : World} (h : PosInv w keys i wr) (n : Nat) : PosInv w keys i (wr.drewN n) := ⟨h.own, h.keeps.drewN n⟩

theorem PosInv.step {w : World} {keys : List Int} {i : Nat} {wr : World} (h : PosInv w keys i wr) {x : Int} (hx : keys[i]? = some x) : PosInv w keys (i + 1) (wr.setCell ⟨w.heap.size, rankR x i keys, none⟩ (.int .i64 (i : Int))) := by
  have hr := rankR_lt hx
  have he : keys.getD i 0 = x := by rw [List.getD_eq_getElem?_getD, hx]; rfl
  refine ⟨?_, h.keeps.trans' ((Keeps.refl (fun b => b = w.heap.size) wr).setCell (p := ⟨w.heap.size, rankR x i keys, none⟩) (.inl rfl) _) (fun b hb => .inr (by omega))⟩
  have := (h.own.stored (rankR x i keys) (.int .i64 (i : Int))).1
  rw [fillR, he, List.map_set]
  exact this

theorem Positions_any (w : World) (v : Value) (keys : List Int) (h : Ints w v keys) (hs : keys.length ≤ 60) :
    Calls Try.prog 15 #[v] w fun e w' => ∃ v', e = .returned v' ∧ w'.ownsRow w.heap.size 3 1 v' keys.length ((fillR keys keys.length).map (Value.int .i64)) ∧ Keeps (fun _ => False) w w' := by
  obtain ⟨ao, cap, hv, hm⟩ := h.form
  have HC := Lib.hid (h.cell hv)
  subst hv
  clear h
  obtain ⟨i0, hi0, hz0, hz1, hz2⟩ := info_parts Try.info3
  go_enter Try.func15, Try.ntmps15
  go_wp2_with (at_make; refine wpList_make_full _ rfl _ _ 23 rfl w.heap.size 3 i0 (.int .i64 0) 1 Try.underlying23 hi0 hz0 hz1 .i64 .i64 _ _ keys.length rfl rfl rfl rfl (by rw [hz2]; omega) (by unfold maxLen; omega) (Nat.le_refl _) ?_; intro w1 hown hgrow)
  have hI : PosInv w keys 0 w1 := by
    refine ⟨?_, (Keeps.refl (fun _ => False) w).grown hgrow (fun k hk => by cases hk)⟩
    have e : (madeCells (Value.int .i64 0).cells (keys.length * 1)).toList = (fillR keys 0).map (Value.int .i64) := by
      rw [Nat.mul_one, fillR, List.map_replicate]
      exact toList_madeCells_one (.int .i64 0) keys.length
    rw [e] at hown
    exact hown
  have HI := Lib.hid hI
  clear hI hown hgrow
  go_loopw [4] (fun iv wr => ∃ i : Nat, iv = .int .i64 (i : Int) ∧ i ≤ keys.length ∧ PosInv w keys i wr) (fun iv _ => keys.length - (intOf iv).toNat)
  case atStart => exact ⟨0, rfl, Nat.zero_le _, HI.out⟩
  case round =>
    obtain ⟨i, rfl, hi, hR⟩ := hrel
    have HR := Lib.hid hR
    clear hR
    by_cases hlt : i < keys.length
    · obtain ⟨b, off, rfl, hcell⟩ := HC.out (by omega)
      obtain ⟨x, hx⟩ : ∃ k, keys[i]? = some k := ⟨_, List.getElem?_eq_getElem hlt⟩
      have p1 := HR.out.keeps.cell (hcell i x hx) (fun h => h)
      have HX := Lib.hid hx
      have HCC := Lib.hid hcell
      clear hx hcell
      go_wp2_with fail
      go_loopw [5, 6] (fun nv kv w2 => ∃ k : Nat, kv = .int .i64 (k : Int) ∧ k ≤ keys.length ∧ nv = .int .i64 (rankR x i (keys.take k) : Int) ∧ ∃ nd, w2 = wr.drewN nd) (fun _ kv _ => keys.length - (intOf kv).toNat)
      case atStart => exact ⟨0, rfl, Nat.zero_le _, rfl, 0, rfl⟩
      case round =>
        obtain ⟨k, rfl, hk, rfl, nd, rfl⟩ := hrel
        by_cases hlk : k < keys.length
        · obtain ⟨y, hy⟩ : ∃ y, keys[k]? = some y := ⟨_, List.getElem?_eq_getElem hlk⟩
          have p2 := HR.out.keeps.cell (HCC.out k y hy) (fun h => h)
          have hr1 : rankR x i (keys.take (k + 1)) = rankR x i (keys.take k) + if y < x ∨ (y = x ∧ k < i) then 1 else 0 := by
            rw [take_get hy, rankR_snoc]; simp [Nat.min_eq_left hk]
          have i0 : (0 : Int) ≤ (i : Int) := by omega
          have i1 : (i : Int) < (keys.length : Int) := by omega
          have b0 : (0 : Int) ≤ (k : Int) := by omega
          have b1 : (k : Int) < (keys.length : Int) := by omega
          have hr2 : rankR x i (keys.take k) ≤ k := by unfold rankR; have := List.countP_le_length (l := (keys.take k).zipIdx) (p := fun p => decide (p.1 < x) || (decide (p.1 = x) && decide (p.2 < i))); simp at this; omega
          have HR1 := Lib.hid hr1
          clear hr1 hy
          generalize hn : rankR x i (keys.take k) = n at hr2 HR1 ⊢
          clear hn
          by_cases c1 : y < x
          · have HN : Hid (rankR x i (keys.take (k + 1)) = n + 1) := by unfold Hid; rw [HR1.out, if_pos (.inl c1)]
            go_wp2_with fail
            go_quiet (fail)
            go_step
            go_wp2_with fail
            go_roundw
            case rel => exact ⟨k + 1, by go_num, by omega, by rw [HN.out]; go_num, _, rfl⟩
            case measure => simp [intOf]; omega
          · have d1 : decide (y < x) = false := by simpa using c1
            by_cases c2 : y = x
            · by_cases c3 : k < i
              · have HN : Hid (rankR x i (keys.take (k + 1)) = n + 1) := by unfold Hid; rw [HR1.out, if_pos (.inr ⟨c2, c3⟩)]
                have d3 : decide ((k : Int) < (i : Int)) = true := by simpa using c3
                have c4 : (y == x) = true := by simp [c2]
                clear c2
                go_wp2_with fail
                go_quiet (fail)
                go_step
                go_wp2_with fail
                go_roundw
                case rel => exact ⟨k + 1, by go_num, by omega, by rw [HN.out]; go_num, _, rfl⟩
                case measure => simp [intOf]; omega
              · have HN : Hid (rankR x i (keys.take (k + 1)) = n) := by unfold Hid; rw [HR1.out, if_neg (by omega)]; rfl
                have d3 : decide ((k : Int) < (i : Int)) = false := by simpa using c3
                have c4 : (y == x) = true := by simp [c2]
                clear c2
                go_wp2_with fail
                go_quiet (fail)
                go_step
                go_wp2_with fail
                go_roundw
                case rel => exact ⟨k + 1, by go_num, by omega, by rw [HN.out], _, rfl⟩
                case measure => simp [intOf]; omega
            · have HN : Hid (rankR x i (keys.take (k + 1)) = n) := by unfold Hid; rw [HR1.out, if_neg (by omega)]; rfl
              have c4 : (y == x) = false := by simp [c2]
              clear c2
              go_wp2_with fail
              go_quiet (fail)
              go_step
              go_wp2_with fail
              go_roundw
              case rel => exact ⟨k + 1, by go_num, by omega, by rw [HN.out], _, rfl⟩
              case measure => simp [intOf]; omega
        · obtain rfl : k = keys.length := by omega
          have HS := Lib.hid ((HR.out.drewN nd).step HX.out)
          have hr := rankR_lt HX.out
          rw [List.take_length]
          obtain ⟨u, hu⟩ : ∃ u, wr.cell? ⟨w.heap.size, rankR x i keys, none⟩ = some u := by
            rcases HR.out.own.2 with ⟨h', _⟩ | ⟨g', cap', cur, h', hb, hg, hnc, hcm, hcs, htake⟩
            · cases h'
            · simp only [Value.slice.injEq, Option.some.injEq, Addr.mk.injEq, and_true, true_and] at h'
              obtain ⟨rfl, rfl⟩ := h'
              rw [cell_of_blk hg]
              exact ⟨_, Array.getElem?_eq_getElem (by omega)⟩
          have hf : wr.frozen? ⟨w.heap.size, rankR x i keys, none⟩ = false := HR.out.own.frozenAt _
          generalize rankR x i keys = r at hr hu hf HS ⊢
          go_wp2_with fail
          go_roundw
          case rel => exact ⟨i + 1, by go_num, by omega, HS.out⟩
          case measure => simp [intOf]; omega
    · obtain rfl : i = keys.length := by omega
      go_wp2_with fail
      go_ret
      exact ⟨_, rfl, HR.out.own, HR.out.keeps⟩

end Go.Proofs.Ytlghadoejmnllaa
