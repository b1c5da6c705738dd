/- OpenlistNothingIsLost: the walk. -/
import Derived.Test.YtlghadoejmnllaaLawOps
import Derived.Test.YtlghadoejmnllaaEx
namespace Go.Proofs.Ytlghadoejmnllaa
open Go.RowKit

theorem netQ_snoc (x : Int) (l : List QOp) (o : QOp) : netQ x (l ++ [o]) = netQ x l + ((if o.k = 1 ∧ o.i = x then 1 else 0) - (if o.k = 4 ∧ o.i = x then 1 else 0)) := by
  induction l with
  | nil => simp [netQ]
  | cons a r ih => rw [List.cons_append, netQ, netQ, ih]; omega

theorem netQ_take {x : Int} {l : List QOp} {i : Nat} {o : QOp} (h : l[i]? = some o) : netQ x (l.take (i + 1)) = netQ x (l.take i) + ((if o.k = 1 ∧ o.i = x then 1 else 0) - (if o.k = 4 ∧ o.i = x then 1 else 0)) := by
  obtain ⟨h1, h2⟩ := List.getElem?_eq_some_iff.1 h
  rw [List.take_succ_eq_append_getElem h1, h2, netQ_snoc]

theorem netQ_le (x : Int) (l : List QOp) : -(l.length : Int) ≤ netQ x l ∧ netQ x l ≤ l.length := by
  induction l with
  | nil => simp [netQ]
  | cons o r ih => rw [netQ, List.length_cons]; obtain ⟨h1, h2⟩ := ih; split <;> split <;> omega

/-- The account of one item: it is 0 or 1, and 1 where the item remains. -/
theorem account {ops : List QOp} {tk : List Int} {A : List (Int × Int)} (h : playQ ops = .ok (tk, A)) (x : Int) :
    (netQ x ops - (tk.count x : Int) = 0 ∧ x ∉ drainA A.length A) ∨ (netQ x ops - (tk.count x : Int) = 1 ∧ x ∈ drainA A.length A) := by
  unfold playQ at h
  split at h
  · cases h
  · obtain ⟨hn, he⟩ := play_account x ops 0 [] [] tk A (by simp) h
    have e0 : inA [] x = 0 := by unfold inA; simp
    have ec : (([] : List Int).count x : Int) = 0 := by simp
    rw [e0, ec] at he
    have hp := (drain_rank A.length rfl hn).1
    by_cases hm : x ∈ A.map Prod.fst
    · have : inA A x = 1 := by unfold inA; rw [if_pos hm]
      exact .inr ⟨by omega, hp.mem_iff.2 hm⟩
    · have : inA A x = 0 := by unfold inA; rw [if_neg hm]
      exact .inl ⟨by omega, fun h' => hm (hp.mem_iff.1 h')⟩

theorem playQ_len {ops : List QOp} {r : List Int × List (Int × Int)} (h : playQ ops = .ok r) : ops.length ≤ 60 := by
  unfold playQ at h; split at h
  · cases h
  · omega

theorem playFrom_tk : ∀ (ops : List QOp) (n : Int) (A : List (Int × Int)) (tk tk' : List Int) (A' : List (Int × Int)), playFrom ops n A tk = .ok (tk', A') → tk'.length ≤ tk.length + ops.length
  | [], n, A, tk, tk', A', h => by rw [playFrom] at h; cases h; simp
  | o :: r, n, A, tk, tk', A', h => by
    rw [playFrom] at h
    split at h
    · cases h
    · have := playFrom_tk r _ _ _ _ _ h
      simp only [List.length_cons]
      split at this
      · simp at this; omega
      · omega

theorem playQ_tk {ops : List QOp} {tk : List Int} {A : List (Int × Int)} (h : playQ ops = .ok (tk, A)) : tk.length ≤ 60 := by
  have hl := playQ_len h
  unfold playQ at h; split at h
  · cases h
  · have := playFrom_tk _ _ _ _ _ _ h; simp at this; omega

set_option maxRecDepth 100000 in
set_option maxHeartbeats 1000000 in
theorem lost_ok (w : World) (v : Value) (ops : List QOp) (h : Sl w v ops.length (opCells ops)) (tk : List Int) (A : List (Int × Int)) (hq : playQ ops = .ok (tk, A)) :
    Calls Try.prog 5 #[v] w fun e w' => e = .returned (.bool true) ∧ Keeps (fun _ => False) w w' := by
  have HI := Lib.hid h
  obtain ⟨ao, cap, rfl, hm, hc⟩ := h
  have h1 : takenQ ops = .ok tk := by unfold takenQ; rw [hq]; rfl
  have h2 : restQ ops = .ok (drainA A.length A) := by unfold restQ; rw [hq]; rfl
  have hl := playQ_len hq
  have HTL := Lib.hid (playQ_tk hq)
  have H1 := Lib.hid h1; have H2 := Lib.hid h2; have HACC := Lib.hid (account hq); have HC := Lib.hid hc
  clear h1 h2 hq hc
  go_enter Try.func5, Try.ntmps5
  go_wp2_with fail
  refine (Play_any _ _ ops HI.out).mono ?_; rintro e w1 ⟨hk, hr⟩
  rw [H1.out] at hr; obtain ⟨va, rfl, ho⟩ := hr
  have OA := Lib.hid (Ints.of_own ho); clear ho
  have K1 := Lib.hid hk; clear hk
  go_wp2_with fail
  refine (Rest_any _ _ ops (HI.out.keeps0 (K1.out.alloc _))).mono ?_; rintro e w2 ⟨hk, hr⟩
  rw [H2.out] at hr; obtain ⟨vb, rfl, ho⟩ := hr
  have OB := Lib.hid (Ints.of_own ho); clear ho
  have K2 := Lib.hid (((Keeps.refl _ w1).alloc _).trans hk)
  have b1 : w2.cell? ⟨w1.heap.size, 0, none⟩ = some (.int .i64 0) := hk.cell ((cell_of_blk (heap_alloc_new w1 _)).trans rfl) (fun h => h)
  have l1 : w1.heap.size < w2.heap.size := by have := hk.size; simp at this; omega
  clear hk
  go_wp2_with fail
  refine (example_any _).mono ?_; rintro e w3 ⟨rfl, hk⟩
  have K3 := Lib.hid (((Keeps.refl _ w2).alloc _).trans hk)
  have c1 := K3.out.cell b1 (fun h => h)
  have c2 : w3.cell? ⟨w2.heap.size, 0, none⟩ = some (.int .i64 0) := hk.cell ((cell_of_blk (heap_alloc_new w2 _)).trans rfl) (fun h => h)
  clear b1 hk
  go_wp2_with fail
  have KW := Lib.hid (K1.out.trans (K2.out.trans K3.out))
  have OA3 := Lib.hid (OA.out.keeps0 (K2.out.trans K3.out))
  have OB3 := Lib.hid (OB.out.keeps0 K3.out)
  obtain ⟨at', ct, hvt, _⟩ := OA3.out.form
  have HCT := Lib.hid (OA3.out.cell hvt)
  subst hvt
  go_loop [7] (fun xv => ∃ m : Nat, xv = .int .i64 (m : Int) ∧ m ≤ 31) (fun xv => 31 - (intOf xv).toNat)
  case atStart => exact ⟨0, rfl, by omega⟩
  case round =>
    obtain ⟨m, rfl, hm31⟩ := hrel
    by_cases hlm : m ≤ 30
    · go_wp2_with fail
      go_loop [8, 9] (fun nv iv => ∃ i : Nat, iv = .int .i64 (i : Int) ∧ i ≤ ops.length ∧ nv = .int .i64 (netQ (m : Int) (ops.take i))) (fun _ iv => ops.length - (intOf iv).toNat)
      case atStart => exact ⟨0, rfl, Nat.zero_le _, rfl⟩
      case round =>
        obtain ⟨i, rfl, hi, rfl⟩ := hrel
        by_cases hlt : i < ops.length
        · obtain ⟨b, off, rfl, hcell⟩ := HC.out (by omega)
          obtain ⟨o, ho⟩ : ∃ o, ops[i]? = some o := ⟨_, List.getElem?_eq_getElem hlt⟩
          obtain ⟨o1, o2, o3⟩ := opCells_get ops i o ho
          have p1 := KW.out.cell (hcell _ _ o1) (fun h => h)
          have p2 := KW.out.cell (hcell _ _ o2) (fun h => h)
          rw [← Nat.add_assoc] at p2
          have hnx := netQ_take (x := (m : Int)) ho
          have HNX := Lib.hid hnx
          have hb := netQ_le (m : Int) (ops.take i)
          rw [List.length_take] at hb
          have hb1 : -60 ≤ netQ (m : Int) (ops.take i) := by omega
          have hb2 : netQ (m : Int) (ops.take i) ≤ 60 := by omega
          clear hcell o1 o2 o3 ho hnx hb
          generalize hn : netQ (m : Int) (ops.take i) = n at HNX hb1 hb2 ⊢
          clear hn
          by_cases k1 : o.k = 1
          · have b1' : (o.k == 1) = true := by simpa using k1
            have b4' : (o.k == 4) = false := by simp; omega
            by_cases kx : o.i = (m : Int)
            · have bx : (o.i == (m : Int)) = true := by simpa using kx
              have HN : Hid (netQ (m : Int) (ops.take (i + 1)) = n + 1) := by unfold Hid; rw [HNX.out, if_pos ⟨k1, kx⟩, if_neg (by omega)]; omega
              clear k1 kx
              go_wp2_with fail
              go_round
              case rel => exact ⟨i + 1, by go_num, by omega, by rw [HN.out]⟩
              case measure => simp [intOf]; omega
            · have bx : (o.i == (m : Int)) = false := by simpa using kx
              have HN : Hid (netQ (m : Int) (ops.take (i + 1)) = n) := by unfold Hid; rw [HNX.out, if_neg (fun e => kx e.2), if_neg (fun e => kx e.2)]; omega
              clear k1 kx
              go_wp2_with fail
              go_round
              case rel => exact ⟨i + 1, by go_num, by omega, by rw [HN.out]⟩
              case measure => simp [intOf]; omega
          · have b1' : (o.k == 1) = false := by simpa using k1
            by_cases k4 : o.k = 4
            · have b4' : (o.k == 4) = true := by simpa using k4
              by_cases kx : o.i = (m : Int)
              · have bx : (o.i == (m : Int)) = true := by simpa using kx
                have HN : Hid (netQ (m : Int) (ops.take (i + 1)) = n - 1) := by unfold Hid; rw [HNX.out, if_neg (by omega), if_pos ⟨k4, kx⟩]; omega
                clear k1 k4 kx
                go_wp2_with fail
                go_round
                case rel => exact ⟨i + 1, by go_num, by omega, by rw [HN.out]⟩
                case measure => simp [intOf]; omega
              · have bx : (o.i == (m : Int)) = false := by simpa using kx
                have HN : Hid (netQ (m : Int) (ops.take (i + 1)) = n) := by unfold Hid; rw [HNX.out, if_neg (fun e => kx e.2), if_neg (fun e => kx e.2)]; omega
                clear k1 k4 kx
                go_wp2_with fail
                go_round
                case rel => exact ⟨i + 1, by go_num, by omega, by rw [HN.out]⟩
                case measure => simp [intOf]; omega
            · have b4' : (o.k == 4) = false := by simpa using k4
              have HN : Hid (netQ (m : Int) (ops.take (i + 1)) = n) := by unfold Hid; rw [HNX.out, if_neg (fun e => k1 e.1), if_neg (fun e => k4 e.1)]; omega
              clear k1 k4
              go_wp2_with fail
              go_round
              case rel => exact ⟨i + 1, by go_num, by omega, by rw [HN.out]⟩
              case measure => simp [intOf]; omega
        · obtain rfl : i = ops.length := by omega
          rw [List.take_length]
          go_wp2_with fail
          have hnl := netQ_le (m : Int) ops
          go_loop [8, 10] (fun nv jv => ∃ j : Nat, jv = .int .i64 (j : Int) ∧ j ≤ tk.length ∧ nv = .int .i64 (netQ (m : Int) ops - ((tk.take j).count (m : Int) : Int))) (fun _ jv => tk.length - (intOf jv).toNat)
          case atStart => exact ⟨0, rfl, Nat.zero_le _, by simp⟩
          case round =>
            obtain ⟨j, rfl, hj, rfl⟩ := hrel
            by_cases hlj : j < tk.length
            · obtain ⟨bt, ot, rfl, htc⟩ := HCT.out (by omega)
              obtain ⟨y, hy⟩ : ∃ y, tk[j]? = some y := ⟨_, List.getElem?_eq_getElem hlj⟩
              have p1 := htc j y hy
              have hnx : (tk.take (j + 1)).count (m : Int) = (tk.take j).count (m : Int) + if y = (m : Int) then 1 else 0 := by
                rw [List.take_succ_eq_append_getElem hlj, (List.getElem?_eq_some_iff.1 hy).2, List.count_append, List.count_singleton]
                simp
              have HNX := Lib.hid hnx
              have hct : (tk.take j).count (m : Int) ≤ 100000 := by
                have h1 := List.count_le_length (a := (m : Int)) (l := tk.take j)
                rw [List.length_take] at h1
                have := HTL.out
                omega
              clear htc hy hnx
              generalize (tk.take j).count (m : Int) = n at HNX hct ⊢
              by_cases kx : y = (m : Int)
              · have bx : (y == (m : Int)) = true := by simpa using kx
                have HN : Hid ((tk.take (j + 1)).count (m : Int) = n + 1) := by unfold Hid; rw [HNX.out, if_pos kx]
                clear kx
                go_wp2_with fail
                go_round
                case rel => exact ⟨j + 1, by go_num, by omega, by rw [HN.out]; go_num⟩
                case measure => simp [intOf]; omega
              · have bx : (y == (m : Int)) = false := by simpa using kx
                have HN : Hid ((tk.take (j + 1)).count (m : Int) = n) := by unfold Hid; rw [HNX.out, if_neg kx]; rfl
                clear kx
                go_wp2_with fail
                go_round
                case rel => exact ⟨j + 1, by go_num, by omega, by rw [HN.out]⟩
                case measure => simp [intOf]; omega
            · obtain rfl : j = tk.length := by omega
              rw [List.take_length]
              rcases HACC.out (m : Int) with ⟨h1, h2⟩ | ⟨h1, h2⟩
              · rw [h1]
                have hd : decide ((m : Int) ∈ drainA A.length A) = false := by simpa using h2
                have HD := Lib.hid hd
                clear h1 h2 hd
                go_wp2_with fail
                refine (has_any _ _ _ _ OB3.out).mono ?_; rintro e w4 ⟨rfl, rfl⟩
                rw [HD.out]
                go_wp2_with fail
                go_round
                case rel => exact ⟨m + 1, by go_num, by omega⟩
                case measure => simp [intOf]; omega
              · rw [h1]
                have hd : decide ((m : Int) ∈ drainA A.length A) = true := by simpa using h2
                have HD := Lib.hid hd
                clear h1 h2 hd
                go_wp2_with fail
                refine (has_any _ _ _ _ OB3.out).mono ?_; rintro e w4 ⟨rfl, rfl⟩
                rw [HD.out]
                go_wp2_with fail
                go_round
                case rel => exact ⟨m + 1, by go_num, by omega⟩
                case measure => simp [intOf]; omega
    · go_wp2_with fail
      go_ret
      exact ⟨rfl, KW.out⟩

theorem lost_err (w : World) (v : Value) (ops : List QOp) (h : Sl w v ops.length (opCells ops)) (c n : Int) (hq : playQ ops = .error (c, n)) :
    Calls Try.prog 5 #[v] w fun e w' => e = .returned (.bool true) ∧ Keeps (fun _ => False) w w' := by
  have HI := Lib.hid h
  have h1 : takenQ ops = .error (c, n) := by unfold takenQ; rw [hq]; rfl
  have h2 : restQ ops = .error (c, n) := by unfold restQ; rw [hq]; rfl
  have hc := playQ_error hq
  have hc2 : (c != 0) = true := by simpa using hc
  have H1 := Lib.hid h1; have H2 := Lib.hid h2
  clear h h1 h2 hq hc
  go_enter Try.func5, Try.ntmps5
  go_wp2_with fail
  refine (Play_any _ _ ops HI.out).mono ?_; rintro e w1 ⟨hk, hr⟩
  rw [H1.out] at hr; subst hr
  have K1 := Lib.hid hk; clear hk
  go_wp2_with fail
  refine (Rest_any _ _ ops (HI.out.keeps0 (K1.out.alloc _))).mono ?_; rintro e w2 ⟨hk, hr⟩
  rw [H2.out] at hr; subst hr
  have K2 := Lib.hid (((Keeps.refl _ w1).alloc _).trans hk)
  have b1 : w2.cell? ⟨w1.heap.size, 0, none⟩ = some (.int .i64 c) := hk.cell ((cell_of_blk (heap_alloc_new w1 _)).trans rfl) (fun h => h)
  have b2 : w2.cell? ⟨w1.heap.size, 1, none⟩ = some (.int .i64 n) := hk.cell ((cell_of_blk (heap_alloc_new w1 _)).trans rfl) (fun h => h)
  have l1 : w1.heap.size < w2.heap.size := by have := hk.size; simp at this; omega
  clear hk
  go_wp2_with fail
  refine (example_any _).mono ?_; rintro e w3 ⟨rfl, hk⟩
  have K3 := Lib.hid (((Keeps.refl _ w2).alloc _).trans hk)
  have c1 := K3.out.cell b1 (fun h => h)
  have c2 := K3.out.cell b2 (fun h => h)
  have c3 : w3.cell? ⟨w2.heap.size, 0, none⟩ = some (.int .i64 c) := hk.cell ((cell_of_blk (heap_alloc_new w2 _)).trans rfl) (fun h => h)
  have c4 : w3.cell? ⟨w2.heap.size, 1, none⟩ = some (.int .i64 n) := hk.cell ((cell_of_blk (heap_alloc_new w2 _)).trans rfl) (fun h => h)
  have KW := Lib.hid (K1.out.trans (K2.out.trans K3.out))
  clear b1 b2 hk
  go_wp2_with fail
  go_ret
  exact ⟨rfl, KW.out⟩

theorem lost_any (w : World) (v : Value) (ops : List QOp) (h : Sl w v ops.length (opCells ops)) :
    Calls Try.prog 5 #[v] w fun e w' => e = .returned (.bool true) ∧ Keeps (fun _ => False) w w' := by
  cases hq : playQ ops with
  | error p => obtain ⟨c, n⟩ := p; exact lost_err w v ops h c n hq
  | ok p => obtain ⟨tk, A⟩ := p; exact lost_ok w v ops h tk A hq

end Go.Proofs.Ytlghadoejmnllaa
