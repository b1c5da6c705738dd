/- The reference's Prices. The reference's Costs. A slice that is cut at its head and appended to at its end. Nothing here speaks of one program. slices.Reverse over owned rows; space.Path. breadth.First: the tree of a breadth-first search. Prices: two solutions agree; the depths of a breadth-first tree are one. space.Steps: what its first loop knows. The queue's heap: what the slice of entries reads as; Less, Swap, Len walked. No condition beyond what each theorem says. -/
import Derived.Test.YtdonadeodioplaaB4
import Derived.Test.YtdonadeodioplaaB1
import Derived.Deep.AppendSrc
import Derived.Test.YtdonadeodioplaaB3
import Derived.Test.YtdonadeodioplaaB2
import Derived.Test.YtdonadeodioplaaProg

namespace Go.Proofs.Ytdonadeodioplaa
open Go.RowKit

/-! ### plain -/
inductive WalkA (A : List Arc) (wt : Arc → Int) (s : Nat) : Nat → Int → Prop
  | nil : WalkA A wt s s 0
  | snoc {a : Arc} {c : Int} : WalkA A wt s a.frm c → a ∈ A → WalkA A wt s a.to (c + wt a)

def weightP (m : Int) (d : List Int) : Nat := (d.map fun x => if 0 ≤ x then x.toNat else m.toNat + 1).sum
theorem weightP_set {m : Int} {d : List Int} {i : Nat} {x z : Int} (hi : d[i]? = some x) (hz : 0 ≤ z) (hzn : z ≤ m) (hx : x < 0 ∨ z < x) : weightP m (d.set i z) < weightP m d := by
  induction d generalizing i with
  | nil => simp at hi
  | cons y r ih =>
    cases i with
    | zero =>
      simp at hi; subst hi
      unfold weightP
      simp only [List.set_cons_zero, List.map_cons, List.sum_cons]
      rw [if_pos hz]
      split <;> omega
    | succ i =>
      simp only [List.getElem?_cons_succ] at hi
      have := ih hi
      unfold weightP at this ⊢
      simp only [List.set_cons_succ, List.map_cons, List.sum_cons]
      omega

structure PriInv (A : List Arc) (wt : Arc → Int) (W : Int) (n s : Nat) (d : List Int) : Prop where
  len : d.length = n
  lo : ∀ x ∈ d, -1 ≤ x
  hi : ∀ x ∈ d, x ≤ (known d : Int) * W
  start : d[s]? = some 0
  real : ∀ (i : Nat) (x : Int), d[i]? = some x → 0 ≤ x → WalkA A wt s i x

def stableP (wt : Arc → Int) (d : List Int) (a : Arc) : Prop := ∀ x, d[a.frm]? = some x → 0 ≤ x → ∃ y, d[a.to]? = some y ∧ 0 ≤ y ∧ y ≤ x + wt a

theorem PriInv.step {A : List Arc} {wt : Arc → Int} {W : Int} {n s : Nat} {d : List Int} (h : PriInv A wt W n s d) {a : Arc} (ha : a ∈ A) (hw0 : 0 ≤ wt a) (hwW : wt a ≤ W) {x y : Int} (hx : d[a.frm]? = some x) (hy : d[a.to]? = some y) (hx0 : 0 ≤ x) (hxy : y < 0 ∨ x + wt a < y) :
    PriInv A wt W n s (d.set a.to (x + wt a)) ∧ weightP ((n : Int) * W) (d.set a.to (x + wt a)) < weightP ((n : Int) * W) d ∧ x + wt a ≤ (n : Int) * W := by
  have htl := (List.getElem?_eq_some_iff.1 hy).1
  have hz : (0 : Int) ≤ x + wt a := by omega
  have hkn := known_set hy hz
  have hxk := h.hi x (List.mem_of_getElem? hx)
  have hyk := h.hi y (List.mem_of_getElem? hy)
  have hkl := known_le (d.set a.to (x + wt a))
  rw [List.length_set, h.len] at hkl
  have hW0 : 0 ≤ W := by omega
  have hmono : ∀ {p q : Nat}, p ≤ q → (p : Int) * W ≤ (q : Int) * W := fun hpq => Int.mul_le_mul_of_nonneg_right (by omega) hW0
  have hkk : known d ≤ known (d.set a.to (x + wt a)) := by rw [hkn]; omega
  have hbnd : x + wt a ≤ (known (d.set a.to (x + wt a)) : Int) * W := by
    by_cases hy0 : 0 ≤ y
    · have := hmono hkk; omega
    · have e : known (d.set a.to (x + wt a)) = known d + 1 := by rw [hkn, if_neg hy0]
      rw [e]
      have : ((known d + 1 : Nat) : Int) * W = (known d : Int) * W + W := by rw [Int.natCast_add, Int.add_mul]; simp
      omega
  have hnW := hmono hkl
  refine ⟨⟨by rw [List.length_set]; exact h.len, fun z hz' => ?_, fun z hz' => ?_, ?_, fun i z hz' h0 => ?_⟩, weightP_set hy hz (by omega) hxy, by omega⟩
  · rcases List.mem_or_eq_of_mem_set hz' with hz' | rfl
    · exact h.lo z hz'
    · omega
  · rcases List.mem_or_eq_of_mem_set hz' with hz' | rfl
    · have := h.hi z hz'; have := hmono hkk; omega
    · exact hbnd
  · rw [getElem?_setS]
    by_cases hi : a.to = s
    · have h0 := h.start
      rw [← hi, hy] at h0
      simp only [Option.some.injEq] at h0
      omega
    · rw [if_neg (by simp [hi])]; exact h.start
  · rw [getElem?_setS] at hz'
    by_cases hi : a.to = i
    · subst hi
      rw [if_pos ⟨rfl, htl⟩] at hz'
      simp only [Option.some.injEq] at hz'
      rw [← hz']
      exact .snoc (h.real a.frm x hx hx0) ha
    · rw [if_neg (by simp [hi])] at hz'
      exact h.real i z hz' h0

theorem known_start (n s : Nat) (hs : s < n) : known ((List.replicate n (-1 : Int)).set s 0) = 1 := by
  have h := known_set (d := List.replicate n (-1 : Int)) (i := s) (x := -1) (z := 0) (by rw [List.getElem?_replicate, if_pos hs]) (by omega)
  rw [h, if_neg (by omega)]
  have : known (List.replicate n (-1 : Int)) = 0 := by
    unfold known; rw [List.filter_eq_nil_iff.2 (fun x hx => by rw [List.eq_of_mem_replicate hx]; decide)]; rfl
  omega
theorem PriInv.init (A : List Arc) (wt : Arc → Int) {W : Int} (hW : 0 ≤ W) {n s : Nat} (hs : s < n) : PriInv A wt W n s ((List.replicate n (-1 : Int)).set s 0) := by
  refine ⟨by simp, fun x hx => ?_, fun x hx => ?_, by rw [getElem?_setS, if_pos ⟨rfl, by simpa using hs⟩], fun i x hx h0 => ?_⟩
  · rcases List.mem_or_eq_of_mem_set hx with hx | rfl
    · rw [List.eq_of_mem_replicate hx]; omega
    · omega
  · rw [known_start n s hs]
    rcases List.mem_or_eq_of_mem_set hx with hx | rfl
    · rw [List.eq_of_mem_replicate hx]; omega
    · omega
  · rw [getElem?_setS] at hx
    by_cases hi : s = i
    · subst hi
      rw [if_pos ⟨rfl, by simpa using hs⟩] at hx
      simp only [Option.some.injEq] at hx
      rw [← hx]; exact .nil
    · rw [if_neg (by simp [hi]), List.getElem?_replicate] at hx
      split at hx
      · simp only [Option.some.injEq] at hx; omega
      · cases hx

structure PriOk (A : List Arc) (wt : Arc → Int) (n s : Nat) (d : List Int) : Prop where
  len : d.length = n
  lo : ∀ x ∈ d, -1 ≤ x
  start : d[s]? = some 0
  real : ∀ (i : Nat) (x : Int), d[i]? = some x → 0 ≤ x → WalkA A wt s i x
  relax : ∀ a ∈ A, stableP wt d a

/-! ### the walk -/
def PriHead (w : World) (A : List Arc) (wt : Arc → Int) (W : Int) (n s : Nat) (k : Nat) (v : Value) (wr : World) : Prop :=
  ∃ (d : List Int) (again : Bool), v = .bool again ∧ PriInv A wt W n s d ∧ DRow w n d wr ∧ (again = false → ∀ a ∈ A, stableP wt d a) ∧ k = 2 * weightP ((n : Int) * W) d + (if again = true then 1 else 0)
def PriMid (w : World) (A : List Arc) (wt : Arc → Int) (W : Int) (n s : Nat) (m : Nat) (i : Nat) (v : Value) (wr : World) : Prop :=
  ∃ (d : List Int) (again : Bool), v = .bool again ∧ PriInv A wt W n s d ∧ DRow w n d wr ∧ (again = false → ∀ a ∈ A.take i, stableP wt d a) ∧ weightP ((n : Int) * W) d ≤ m ∧ (again = true → weightP ((n : Int) * W) d < m)
def PricePost (w : World) (A : List Arc) (wt : Arc → Int) (n s : Nat) (e : Ending) (w' : World) : Prop :=
  ∃ v d, e = .returned v ∧ PriOk A wt n s d ∧ w'.ownsRow w.heap.size 3 1 v n (d.map (Value.int .i64)) ∧ Keeps (fun _ => False) w w'
theorem stableP_of {wt : Arc → Int} {d : List Int} {a : Arc} {x y : Int} (hx : d[a.frm]? = some x) (hy : d[a.to]? = some y) (h : x < 0 ∨ (0 ≤ y ∧ y ≤ x + wt a)) : stableP wt d a := by
  intro z hz h0
  rw [hx] at hz; cases hz
  rcases h with h | h
  · omega
  · exact ⟨y, hy, h⟩
theorem stableP_take {wt : Arc → Int} {d : List Int} {A : List Arc} {i : Nat} {a : Arc} (ha : A[i]? = some a) (hs : stableP wt d a) (h : ∀ b ∈ A.take i, stableP wt d b) : ∀ b ∈ A.take (i + 1), stableP wt d b := by
  intro b hb
  rw [take_getS ha] at hb
  rcases List.mem_append.1 hb with hb | hb
  · exact h b hb
  · simp at hb; subst hb; exact hs

set_option maxRecDepth 100000 in
set_option maxHeartbeats 4000000 in
theorem prices_any (w : World) (vl va : Value) (ls : List (List Int)) (A : List Arc) (s : Nat) (k step : Int) (hl : Lists w vl ls) (ha : ArcsAt w va A) (hn : ls.length ≤ 100000) (hs : s < ls.length) (hA : ∀ a ∈ A, a.frm < ls.length ∧ a.to < ls.length ∧ 0 ≤ a.cost ∧ a.cost ≤ 100)
    (hk0 : 0 ≤ k) (hk1 : k ≤ 4096) (hs0 : 0 ≤ step) (hs1 : step ≤ 1) :
    Calls Try.prog 32 #[vl, va, .int .i64 (s : Int), .int .i64 k, .int .i64 step] w (PricePost w A (fun a => k * a.cost + step) ls.length s) := by
  obtain ⟨i0, hi0, hz0, hz1, hz2⟩ := info_parts Try.info3
  obtain ⟨al, cl, hvl, ml⟩ := hl.form
  obtain ⟨aa, ca, hva, ma⟩ := Sl.formN ha
  have CA := Lib.hid (ha.cell hva)
  have HLT := Lib.hid hA
  subst hva hvl
  clear ha hl hA
  have hwt : ∀ c : Int, 0 ≤ c → c ≤ 100 → 0 ≤ k * c ∧ k * c ≤ 409600 := fun c h0 h1 => by
    have e1 := Int.mul_nonneg hk0 h0
    have e2 : k * c ≤ 4096 * 100 := Int.mul_le_mul hk1 h1 h0 (by omega)
    omega
  have HWT := Lib.hid hwt
  generalize hnn : ls.length = n at hn hs ml HLT ⊢
  clear hwt hnn
  go_enter Try.func32, Try.ntmps32
  go_wp2_with (at_make; refine wpList_make_full _ rfl _ _ 22 rfl w.heap.size 3 i0 (.int .i64 0) 1 Try.underlying22 hi0 hz0 hz1 .i64 .i64 _ _ n rfl rfl rfl rfl (by rw [hz2]; omega) (by unfold maxLen; omega) (Nat.le_refl _) ?_; intro w1 hown hgrow)
  have hI : DRow w n ((List.replicate n (-1 : Int)).take 0 ++ List.replicate (n - 0) 0) w1 := by
    refine ⟨?_, (Keeps.refl (fun _ => False) w).grown hgrow (fun k hk => by cases hk)⟩
    have e : (madeCells (Value.int .i64 0).cells (n * 1)).toList = ((List.replicate n (-1 : Int)).take 0 ++ List.replicate (n - 0) 0).map (Value.int .i64) := by
      rw [Nat.mul_one, List.take_zero, List.nil_append, Nat.sub_zero, List.map_replicate]
      exact toList_madeCells_one (.int .i64 0) n
    rw [e] at hown
    exact hown
  have HI := Lib.hid hI
  clear hI hown hgrow
  go_loopw [12] (fun v6 wr => ∃ i : Nat, i ≤ n ∧ v6 = .int .i64 (i : Int) ∧ DRow w n ((List.replicate n (-1 : Int)).take i ++ List.replicate (n - i) 0) wr) (fun v6 _ => n - (intOf v6).toNat)
  case atStart => exact ⟨0, Nat.zero_le _, rfl, HI.out⟩
  case round =>
    obtain ⟨i, hi, rfl, hR⟩ := hrel
    have HR := Lib.hid hR
    have hlw := hR.lt
    clear hR
    by_cases hlt : i < n
    · have hgs : (List.replicate n (-1 : Int))[i]? = some (-1) := by rw [List.getElem?_replicate, if_pos hlt]
      have hD0 : ((List.replicate n (-1 : Int)).take i ++ List.replicate (n - i) 0)[i]? = some 0 := by
        have ht : ((List.replicate n (-1 : Int)).take i).length = i := by rw [List.length_take, List.length_replicate]; omega
        rw [List.getElem?_append_right (by omega), ht, Nat.sub_self, List.getElem?_replicate, if_pos (by omega)]
      have q0 := HR.out.cell hD0
      have qf := HR.out.frozen i
      have HN := Lib.hid (show DRow w n ((List.replicate n (-1 : Int)).take (i + 1) ++ List.replicate (n - (i + 1)) 0) (wr.setCell ⟨w.heap.size, i, none⟩ (.int .i64 (-1))) by
        rw [← fill_step hgs (by simp)]; exact HR.out.set i (-1))
      clear hgs hD0
      go_wp2_with fail
      go_roundw
      case rel => exact ⟨i + 1, by omega, by go_num, HN.out⟩
      case measure => simp [intOf]; omega
    · have HS := Lib.hid (show DRow w n (List.replicate n (-1 : Int)) wr by
        have h := HR.out
        rw [List.take_of_length_le (by rw [List.length_replicate]; omega), show n - i = 0 by omega, List.replicate_zero, List.append_nil] at h
        exact h)
      have q0 := HS.out.cell (i := s) (x := -1) (by rw [List.getElem?_replicate, if_pos hs])
      have qf := HS.out.frozen s
      have HS2 := Lib.hid (HS.out.set s 0)
      have HIV := Lib.hid (PriInv.init A (fun a => k * a.cost + step) (W := 409601) (by omega) hs)
      have u0 : (0 : Int) ≤ (s : Int) := by omega
      have u1 : (s : Int) < (n : Int) := by omega
      clear hi
      go_upto_region 7 with fail
      generalize wr.setCell ⟨w.heap.size, s, none⟩ (.int .i64 0) = w2 at HS2 ⊢
      clear q0 qf
      go_wp2_with fail
      go_loopg [13] (2 * weightP ((n : Int) * 409601) ((List.replicate n (-1 : Int)).set s 0) + 1) (fun k' v7 wq => PriHead w A (fun a => k * a.cost + step) 409601 n s k' v7 wq)
      case atStart => exact ⟨_, true, rfl, HIV.out, HS2.out, (fun h => by cases h), by rw [if_pos rfl]⟩
      case round =>
        obtain ⟨d, again, rfl, hinv, hdr, hst, hgk⟩ := hrel
        have INV := Lib.hid hinv; have DR := Lib.hid hdr; have ST := Lib.hid hst; have HGK := Lib.hid hgk
        clear hinv hdr hst hgk
        cases again with
        | false =>
          go_wp2_with fail
          go_ret
          exact ⟨_, d, rfl, ⟨INV.out.len, INV.out.lo, INV.out.start, INV.out.real, ST.out (by first | rfl | trivial)⟩, DR.out.own, DR.out.keeps⟩
        | true =>
          go_wp2_with fail
          go_loopw [13, 14] (fun v7 v8 wq => ∃ j : Nat, j ≤ A.length ∧ v8 = .int .i64 (j : Int) ∧ PriMid w A (fun a => k * a.cost + step) 409601 n s (weightP ((n : Int) * 409601) d) j v7 wq) (fun _ v8 _ => A.length - (intOf v8).toNat)
          case atStart => exact ⟨0, Nat.zero_le _, rfl, d, false, rfl, INV.out, DR.out, (fun _ a ha => by simp at ha), Nat.le_refl _, (fun h => by cases h)⟩
          case round =>
            obtain ⟨j, hj, rfl, d2, ag2, rfl, hinv2, hdr2, hst2, hle2, hlt2⟩ := hrel
            have INV2 := Lib.hid hinv2; have DR2 := Lib.hid hdr2; have ST2 := Lib.hid hst2; have LE2 := Lib.hid hle2; have LT2 := Lib.hid hlt2
            have hl2 := hdr2.lt
            clear hinv2 hdr2 hst2 hle2 hlt2
            by_cases hjl : j < A.length
            · obtain ⟨ba, oa, rfl, hcell⟩ := CA.out (by omega)
              obtain ⟨a, ha⟩ : ∃ a, A[j]? = some a := ⟨_, List.getElem?_eq_getElem hjl⟩
              obtain ⟨g0, g1, g2, g3⟩ := hcell j a ha
              have c0 := DR2.out.keeps.cell g0 (fun h => h)
              have c1 := DR2.out.keeps.cell g1 (fun h => h)
              have c2 := DR2.out.keeps.cell g2 (fun h => h)
              have c3 := DR2.out.keeps.cell g3 (fun h => h)
              have HA := Lib.hid ha
              obtain ⟨hf, ht, hc0, hc1⟩ := HLT.out a (List.mem_of_getElem? ha)
              obtain ⟨hm0, hm1⟩ := HWT.out a.cost hc0 hc1
              have hdl := DR2.out.len
              obtain ⟨x, hx⟩ : ∃ x, d2[a.frm]? = some x := ⟨_, List.getElem?_eq_getElem (by omega)⟩
              obtain ⟨y, hy⟩ : ∃ y, d2[a.to]? = some y := ⟨_, List.getElem?_eq_getElem (by omega)⟩
              have hxk : x ≤ 40960100000 := by
                have h1 := INV2.out.hi x (List.mem_of_getElem? hx)
                have h2 := known_le d2
                omega
              have hxl := INV2.out.lo x (List.mem_of_getElem? hx)
              have HX := Lib.hid hx; have HY := Lib.hid hy
              have KA := Lib.hid ((Keeps.refl (fun _ => False) wr).alloc (.cells #[.int .i64 (a.frm : Int), .int .i64 (a.to : Int), .int .i64 (a.op : Int), .int .i64 a.cost] 108))
              have F4 := Lib.hid (Four.new wr (.int .i64 (a.frm : Int)) (.int .i64 (a.to : Int)) (.int .i64 (a.op : Int)) (.int .i64 a.cost) 108)
              have DR3 := Lib.hid (DR2.out.keeps0 KA.out)
              clear hcell g0 g1 g2 g3 ha hdl hx hy DR2 DR HS HS2
              go_upto_region 14 with fail
              obtain ⟨b9, hb9⟩ : ∃ b9, wr.heap.size = b9 := ⟨_, rfl⟩
              rw [hb9] at F4 hl2 ⊢
              clear c0 c1 c2 c3
              generalize (wr.alloc (.cells #[.int .i64 (a.frm : Int), .int .i64 (a.to : Int), .int .i64 (a.op : Int), .int .i64 a.cost] 108)) = w5 at DR3 F4 ⊢
              clear KA hb9
              have hl9 := F4.out.lt
              have hl5 := DR3.out.lt
              obtain ⟨f0, f1, f2, f3⟩ := F4.out
              have cx := DR3.out.cell HX.out
              have i0 : (0 : Int) ≤ (a.frm : Int) := by omega
              have i1 : (a.frm : Int) < (n : Int) := by omega
              have b0 : (0 : Int) ≤ (a.to : Int) := by omega
              have b1 : (a.to : Int) < (n : Int) := by omega
              have m1 : IntKind.i64.wrap (k * a.cost) = k * a.cost := IntWalk.i64_in _ (by omega)
              have m2 : IntKind.i64.wrap (x + k * a.cost) = x + k * a.cost := IntWalk.i64_in _ (by omega)
              have m3 : IntKind.i64.wrap (x + k * a.cost + step) = x + k * a.cost + step := IntWalk.i64_in _ (by omega)
              have HNV := Lib.hid (show x + k * a.cost + step = x + (k * a.cost + step) by omega)
              go_quiet (fail)
              clear m1 m2 m3
              have kd := (Keeps.refl (fun _ => False) w5).drewN nq
              have hl9' := Nat.lt_of_lt_of_le hl9 kd.size
              have hl5' := Nat.lt_of_lt_of_le hl5 kd.size
              have f0' := kd.cell f0 (fun h => h)
              have f1' := kd.cell f1 (fun h => h)
              have cx' := kd.cell cx (fun h => h)
              have DR6 := Lib.hid (DR3.out.keeps0 kd)
              clear kd hl9 hl5 f0 f1 f2 f3 cx DR3 F4
              generalize w5.drewN nq = w6 at hl9' hl5' f0' f1' cx' DR6 ⊢
              generalize hv16 : x + k * a.cost + step = v16 at HNV ⊢
              have HV := Lib.hid hv16
              clear hv16
              have cy := DR6.out.cell HY.out
              have fy := DR6.out.frozen a.to
              by_cases hx0 : 0 ≤ x
              · by_cases hup : y < 0 ∨ v16 < y
                · have HN := Lib.hid (INV2.out.step (List.mem_of_getElem? HA.out) (by show 0 ≤ k * a.cost + step; omega) (by show k * a.cost + step ≤ 409601; omega) HX.out HY.out hx0 (by rw [← HNV.out]; exact hup))
                  have FIN := Lib.hid (show PriMid w A (fun a => k * a.cost + step) 409601 n s (weightP ((n : Int) * 409601) d) (j + 1) (.bool true) (w6.setCell ⟨w.heap.size, a.to, none⟩ (.int .i64 v16)) from by
                    obtain ⟨n1, n2, _⟩ := HN.out
                    have h1 := LE2.out
                    rw [HNV.out]
                    exact ⟨d2.set a.to (x + (k * a.cost + step)), true, rfl, n1, DR6.out.set a.to _, (fun h => by cases h), by omega, (fun _ => by omega)⟩)
                  by_cases hy0 : y < 0
                  case' pos => clear hup
                  case' neg =>
                    have hup2 : v16 < y := by omega
                    clear hup
                  all_goals
                    go_wp2_with fail
                    go_roundw
                    case rel => exact ⟨j + 1, by omega, by go_num, FIN.out⟩
                    case measure => simp [intOf]; omega
                · have hy0 : ¬ y < 0 := fun h => hup (.inl h)
                  have hvy : ¬ v16 < y := fun h => hup (.inr h)
                  have HST := Lib.hid (show stableP (fun a => k * a.cost + step) d2 a from stableP_of HX.out HY.out (.inr ⟨by omega, by have := HNV.out; show y ≤ x + (k * a.cost + step); omega⟩))
                  clear hup
                  go_wp2_with fail
                  go_roundw
                  case rel => exact ⟨j + 1, by omega, by go_num, d2, ag2, rfl, INV2.out, DR6.out, (fun h => stableP_take HA.out HST.out (ST2.out h)), LE2.out, LT2.out⟩
                  case measure => simp [intOf]; omega
              · have HST := Lib.hid (show stableP (fun a => k * a.cost + step) d2 a from stableP_of HX.out HY.out (.inl (by omega)))
                go_wp2_with fail
                go_roundw
                case rel => exact ⟨j + 1, by omega, by go_num, d2, ag2, rfl, INV2.out, DR6.out, (fun h => stableP_take HA.out HST.out (ST2.out h)), LE2.out, LT2.out⟩
                case measure => simp [intOf]; omega
            · have HTK : Hid (A.take j = A) := by unfold Hid; exact List.take_of_length_le (by omega)
              have HGD := Lib.hid (show PriHead w A (fun a => k * a.cost + step) 409601 n s (2 * weightP ((n : Int) * 409601) d2 + (if ag2 = true then 1 else 0)) (.bool ag2) wr from ⟨d2, ag2, rfl, INV2.out, DR2.out, (fun h => by have := ST2.out h; rwa [HTK.out] at this), rfl⟩)
              go_wp2_with fail
              go_roundg (2 * weightP ((n : Int) * 409601) d2 + (if ag2 = true then 1 else 0))
              case rel => exact HGD.out
              case measure =>
                have h1 := HGK.out
                have h2 := LE2.out
                have h3 := LT2.out
                cases ag2
                · rw [if_neg (by simp)]; simp at h1; omega
                · rw [if_pos rfl]; have := h3 rfl; simp at h1; omega

end Go.Proofs.Ytdonadeodioplaa

namespace Go.Proofs.Ytdonadeodioplaa
open Go.RowKit

/-! ### plain -/
def bigC : Int := 1000000000
inductive Down (A : List Arc) (acc : List Bool) : Nat → Int → Prop
  | nil {i : Nat} : acc[i]? = some true → Down A acc i 0
  | cons {a : Arc} {c : Int} : a ∈ A → Down A acc a.to c → Down A acc a.frm (a.cost + c)

structure CostInv (A : List Arc) (acc : List Bool) (d : List Int) : Prop where
  len : d.length = acc.length
  lo : ∀ x ∈ d, 0 ≤ x ∧ x ≤ bigC
  zero : ∀ i : Nat, acc[i]? = some true → d[i]? = some 0
  real : ∀ (i : Nat) (x : Int), d[i]? = some x → x < bigC → Down A acc i x
def stableC (d : List Int) (a : Arc) : Prop := ∀ y, d[a.to]? = some y → y < bigC → ∃ x, d[a.frm]? = some x ∧ x ≤ y + a.cost
structure CostOk (A : List Arc) (acc : List Bool) (d : List Int) : Prop extends CostInv A acc d where
  relax : ∀ a ∈ A, stableC d a

def weightC (d : List Int) : Nat := (d.map Int.toNat).sum
theorem weightC_set {d : List Int} {i : Nat} {x z : Int} (hi : d[i]? = some x) (hz : 0 ≤ z) (hx : z < x) : weightC (d.set i z) < weightC d := by
  induction d generalizing i with
  | nil => simp at hi
  | cons y r ih =>
    cases i with
    | zero => simp at hi; subst hi; unfold weightC; simp only [List.set_cons_zero, List.map_cons, List.sum_cons]; omega
    | succ i =>
      simp only [List.getElem?_cons_succ] at hi
      have := ih hi
      unfold weightC at this ⊢
      simp only [List.set_cons_succ, List.map_cons, List.sum_cons]; omega
theorem CostInv.step {A : List Arc} {acc : List Bool} {d : List Int} (h : CostInv A acc d) {a : Arc} (ha : a ∈ A) (hc : 0 ≤ a.cost) {x y : Int} (hx : d[a.frm]? = some x) (hy : d[a.to]? = some y) (hyb : y < bigC) (hxy : y + a.cost < x) :
    CostInv A acc (d.set a.frm (y + a.cost)) ∧ weightC (d.set a.frm (y + a.cost)) < weightC d := by
  have hfl := (List.getElem?_eq_some_iff.1 hx).1
  have hy0 := (h.lo y (List.mem_of_getElem? hy)).1
  have hxb := (h.lo x (List.mem_of_getElem? hx)).2
  refine ⟨⟨by rw [List.length_set]; exact h.len, fun z hz => ?_, fun i hi => ?_, fun i z hz hzb => ?_⟩, weightC_set hx (by omega) hxy⟩
  · rcases List.mem_or_eq_of_mem_set hz with hz | rfl
    · exact h.lo z hz
    · omega
  · rw [getElem?_setS]
    by_cases he : a.frm = i
    · have h0 := h.zero i hi
      rw [← he, hx] at h0
      simp only [Option.some.injEq] at h0; omega
    · rw [if_neg (by simp [he])]; exact h.zero i hi
  · rw [getElem?_setS] at hz
    by_cases he : a.frm = i
    · subst he
      rw [if_pos ⟨rfl, hfl⟩] at hz
      simp only [Option.some.injEq] at hz
      rw [← hz, Int.add_comm]
      exact .cons ha (h.real a.to y hy hyb)
    · rw [if_neg (by simp [he])] at hz; exact h.real i z hz hzb
def costStart (acc : List Bool) : List Int := acc.map fun b => if b = true then 0 else bigC
theorem CostInv.start (A : List Arc) (acc : List Bool) : CostInv A acc (costStart acc) := by
  unfold costStart
  refine ⟨by simp, fun x hx => ?_, fun i hi => by rw [List.getElem?_map, hi]; rfl, fun i x hx hb => ?_⟩
  · obtain ⟨b, _, rfl⟩ := List.mem_map.1 hx
    unfold bigC
    cases b <;> simp
  · rw [List.getElem?_map] at hx
    cases hb2 : acc[i]? with
    | none => rw [hb2] at hx; cases hx
    | some b =>
      rw [hb2] at hx
      cases b
      · simp at hx; omega
      · simp at hx; subst hx; exact .nil hb2

/-! ### several rows of ints -/
structure Rws (B : Nat) (W : World) (rs : List (Value × List Value)) : Prop where
  own : ∀ r ∈ rs, W.ownsRow B 3 1 r.1 r.2.length r.2
  apart : rs.Pairwise fun r s => ∀ k, r.1.ownBlock = some k → s.1.ownBlock ≠ some k

theorem Rws.keeps0 {B : Nat} {W W' : World} {rs : List (Value × List Value)} (h : Rws B W rs) (hk : Keeps (fun _ => False) W W') : Rws B W' rs := ⟨fun r hr => hk.ownsRow (h.own r hr) (fun _ _ h => h), h.apart⟩
theorem Rws.other {B : Nat} {W : World} {rs : List (Value × List Value)} (h : Rws B W rs) {i j : Nat} {r s : Value × List Value} (hi : rs[i]? = some r) (hj : rs[j]? = some s) (hne : i ≠ j) : ∀ k, r.1.ownBlock = some k → s.1.ownBlock ≠ some k := by
  obtain ⟨l1, rfl⟩ := List.getElem?_eq_some_iff.1 hi
  obtain ⟨l2, rfl⟩ := List.getElem?_eq_some_iff.1 hj
  intro k hk
  rcases Nat.lt_or_ge i j with hij | hij
  · exact List.pairwise_iff_getElem.1 h.apart i j l1 l2 hij k hk
  · intro e
    exact List.pairwise_iff_getElem.1 h.apart j i l2 l1 (by omega) k e hk
theorem Rws.push {B : Nat} {W Wa W' : World} {rs : List (Value × List Value)} (h : Rws B W rs) {i : Nat} {v v' : Value} {xs xs' : List Value} (hi : rs[i]? = some (v, xs)) (ka : Keeps (fun _ => False) W Wa) (hg : Wa.grownBy W' v.ownBlock)
    (hown : W'.ownsRow B 3 1 v' xs'.length xs') (hat : ∀ k, v'.ownBlock = some k → v.ownBlock = some k ∨ W.heap.size ≤ k) : Rws B W' (rs.set i (v', xs')) := by
  have hk : Keeps (fun k => v.ownBlock = some k) W W' := (ka.mono (fun _ _ h => h.elim)).grown hg (fun k hk => .inl hk)
  have hil := (List.getElem?_eq_some_iff.1 hi).1
  refine ⟨fun r hr => ?_, ?_⟩
  · obtain ⟨j, hj⟩ := List.mem_iff_getElem?.1 hr
    rw [getElem?_setS] at hj
    by_cases hij : i = j
    · rw [if_pos ⟨hij, hil⟩] at hj; cases hj; exact hown
    · rw [if_neg (by simp [hij])] at hj
      exact hk.ownsRow (h.own r (List.mem_of_getElem? hj)) (fun k hk1 hk2 => h.other hi hj hij k hk2 hk1)
  · rw [List.pairwise_iff_getElem]
    intro p q lp lq hpq k hk1 hk2
    have gp : (rs.set i (v', xs'))[p]? = some ((rs.set i (v', xs'))[p]) := List.getElem?_eq_getElem lp
    have gq : (rs.set i (v', xs'))[q]? = some ((rs.set i (v', xs'))[q]) := List.getElem?_eq_getElem lq
    rw [getElem?_setS] at gp gq
    generalize (rs.set i (v', xs'))[p] = r at gp hk1
    generalize (rs.set i (v', xs'))[q] = s at gq hk2
    by_cases hip : i = p
    · rw [if_pos ⟨hip, hil⟩] at gp; cases gp
      rw [if_neg (by omega)] at gq
      rcases hat k hk1 with h1 | h1
      · exact h.other hi gq (by omega) k h1 hk2
      · have := (World.ownsRow.lt (h.own s (List.mem_of_getElem? gq)) k hk2).2; omega
    · rw [if_neg (by simp [hip])] at gp
      by_cases hiq : i = q
      · rw [if_pos ⟨hiq, hil⟩] at gq; cases gq
        rcases hat k hk2 with h1 | h1
        · exact h.other gp hi (by omega) k hk1 h1
        · have := (World.ownsRow.lt (h.own r (List.mem_of_getElem? gp)) k hk1).2; omega
      · rw [if_neg (by simp [hiq])] at gq
        exact h.other gp gq (by omega) k hk1 hk2

end Go.Proofs.Ytdonadeodioplaa

namespace Go.Proofs.Ytdonadeodioplaa
open Go.RowKit

/-- v: a window on a row of one-cell elements, which reads as xs. -/
def Tail (w : World) (base : Nat) (e : TypeId) (v : Value) (xs : List Value) : Prop :=
  ∃ (g off cap : Nat) (cur : Array Value), v = .slice (some ⟨g, off, none⟩) xs.length cap ∧ base ≤ g ∧ w.heap[g]? = some (.cells cur e (0, 0)) ∧ xs.length ≤ cap ∧ cap ≤ maxLen ∧ off + cap ≤ cur.size ∧ (cur.toList.drop off).take xs.length = xs

section
variable {w w' : World} {base : Nat} {e : TypeId} {v : Value} {xs : List Value}
theorem Tail.keeps {S : Nat → Prop} (h : Tail w base e v xs) (hk : Keeps S w w') (hs : ∀ k, v.ownBlock = some k → ¬ S k) : Tail w' base e v xs := by
  obtain ⟨g, off, cap, cur, rfl, hb, hg, rest⟩ := h
  exact ⟨g, off, cap, cur, rfl, hb, hk.heap hg (hs g rfl), rest⟩
theorem Tail.lt (h : Tail w base e v xs) (k : Nat) (hk : v.ownBlock = some k) : base ≤ k ∧ k < w.heap.size := by
  obtain ⟨g, off, cap, cur, rfl, hb, hg, rest⟩ := h
  simp [Value.ownBlock] at hk; subst hk
  exact ⟨hb, lt_of_heap hg⟩
theorem Tail.block (h : Tail w base e v xs) (k : Nat) (hk : v.ownBlock = some k) : ∃ cur, w.heap[k]? = some (.cells cur e (0, 0)) := by
  obtain ⟨g, off, cap, cur, rfl, hb, hg, rest⟩ := h
  simp [Value.ownBlock] at hk; subst hk
  exact ⟨_, hg⟩
theorem Tail.not_deferred (h : Tail w base e v xs) (k : Nat) (hk : v.ownBlock = some k) : w.heap[k]? ≠ some (.deferred (some [])) := by
  obtain ⟨cur, hg⟩ := h.block k hk
  exact cells_not_deferred hg
theorem Tail.not_map {b : Nat} {kd : IntKind} {l : List (Int × Value)} (hm : IMap w b kd l) (h : Tail w base e v xs) : v.ownBlock ≠ some b := by
  intro e'
  obtain ⟨cur, hg⟩ := h.block b e'
  obtain ⟨es, c, hb, _⟩ := hm
  rw [hg] at hb; cases hb
theorem Tail.not_box {b : Nat} {t : TypeId} {u : Value} (h : Tail w base e v xs) (hx : w.heap[b]? = some (.cells #[u] t (0, 0))) (ht : t ≠ e) : v.ownBlock ≠ some b := by
  intro e'
  obtain ⟨cur, hg⟩ := h.block b e'
  rw [hg] at hx
  simp at hx
  exact ht hx.2.symm
theorem Tail.steady {row : Option Nat} (hg : w.grownBy w' row) (hr : ∀ r, row = some r → ∃ o : Obj, w.heap[r]? = some o ∧ o.isCells = false) (h : Tail w base e v xs) : Tail w' base e v xs := by
  obtain ⟨g, off, cap, cur, rfl, hb, hgg, rest⟩ := h
  exact ⟨g, off, cap, cur, rfl, hb, steady_heap hg hr hgg, rest⟩
theorem Tail.head {g off n cap : Nat} {x : Value} (h : Tail w base e (.slice (some ⟨g, off, none⟩) n cap) (x :: xs)) : w.cell? ⟨g, off, none⟩ = some x := by
  obtain ⟨g', off', cap', cur, hv, hb, hg, h1, h2, h3, h4⟩ := h
  simp only [Value.slice.injEq, Option.some.injEq, Addr.mk.injEq] at hv
  obtain ⟨⟨rfl, rfl, _⟩, rfl, rfl⟩ := hv
  rw [cell_of_blk hg]
  have := congrArg (fun l : List Value => l[0]?) h4
  simp only [List.getElem?_take, List.getElem?_drop] at this
  simpa using this
theorem Tail.form (h : Tail w base e v xs) : ∃ g off cap, v = .slice (some ⟨g, off, none⟩) xs.length cap ∧ xs.length ≤ cap ∧ cap ≤ maxLen ∧ base ≤ g ∧ g < w.heap.size := by
  obtain ⟨g, off, cap, cur, hv, hb, hg, h1, h2, _⟩ := h
  exact ⟨g, off, cap, hv, h1, h2, hb, lt_of_heap hg⟩

/-- The address behind the first element, as the machine tells it. -/
def cutAt (g off cap : Nat) : Addr := if cap = 1 then ⟨g, off, none⟩ else ⟨g, off + 1, none⟩
theorem cutAt_block (g off cap : Nat) : (cutAt g off cap).block = g := by unfold cutAt; split <;> rfl
theorem Tail.cut {g off n cap : Nat} {x : Value} (h : Tail w base e (.slice (some ⟨g, off, none⟩) (n + 1) cap) (x :: xs)) (hn : xs.length = n) : Tail w base e (.slice (some (cutAt g off cap)) n (cap - 1)) xs := by
  obtain ⟨g', off', cap', cur, hv, hb, hg, h1, h2, h3, h4⟩ := h
  simp only [Value.slice.injEq, Option.some.injEq, Addr.mk.injEq] at hv
  obtain ⟨⟨rfl, rfl, _⟩, _, rfl⟩ := hv
  have ht : (cur.toList.drop (off + 1)).take xs.length = xs := by
    have := congrArg (List.drop 1) h4
    rw [List.drop_take, List.drop_drop] at this
    simpa using this
  simp only [List.length_cons] at h1
  by_cases hc : cap = 1
  · have hz : xs = [] := List.length_eq_zero_iff.1 (by omega)
    subst hz
    refine ⟨g, off, cap - 1, cur, by simp [cutAt, hc, ← hn], hb, hg, by simp, by omega, by omega, by simp⟩
  · exact ⟨g, off + 1, cap - 1, cur, by simp [cutAt, hc, hn], hb, hg, by omega, by omega, by omega, ht⟩

theorem Tail.new (W : World) (base : Nat) (e : TypeId) (x : Value) (hb : base ≤ W.heap.size) : Tail (W.alloc (.cells #[x] e)) base e (.slice (some ⟨W.heap.size, 0, none⟩) 1 1) [x] :=
  ⟨W.heap.size, 0, 1, #[x], rfl, hb, heap_alloc_new W _, by simp, by unfold maxLen; omega, by simp, by simp⟩
end

section
variable {P : Program} (w : World)
theorem run_append_tail (base : Nat) (t ty e : TypeId) (i : TypeInfo) (z : Value) (bytes : Nat) (ht : P.underlying t = some (.slice e)) (hi : P.info? e = some i) (hz : i.zero = some z)
    (hsize : i.size = 1) (hby : i.bytes = bytes) (hzs : z.cells.size = 1)
    (v : Value) (xs : List Value) (hown : Tail w base e v xs) (ad : Addr) (c : Nat) (u : Value) (hnew : w.cell? ad = some u) (h1 : u.oneCell' = true)
    (h63 : xs.length + 1 ≤ maxLen) (hbytes : (xs.length + 1) * bytes ≤ 140737488355328) (hbase : base ≤ w.heap.size) :
    ∃ g off cap w', (Builtin.append_ #[t, t] ty #[v, .slice (some ad) 1 c]).run P w = .ok (.slice (some ⟨g, off, none⟩) (xs.length + 1) cap) w' ∧
      Tail w' base e (.slice (some ⟨g, off, none⟩) (xs.length + 1) cap) (xs ++ [u]) ∧ w.grownBy w' v.ownBlock ∧ (v.ownBlock = some g ∨ g = w.heap.size) ∧ g < w'.heap.size := by
  obtain ⟨g, off, cap, cur, rfl, hb, hg, hn, hcm, hcs, htake⟩ := hown
  have hnews : ∀ j u', [u][j]? = some u' → w.cell? (ad.add j) = some u' := by
    intro j u' hj
    cases j with
    | zero => simp at hj; subst hj; simpa [Addr.add] using hnew
    | succ j => simp at hj
  by_cases hroom : xs.length + 1 ≤ cap
  · have hsrc := Src.ofSlice (P := P) (size := i.size) w ht ad 1 c [u] (by rw [hsize]; rfl) hnews (by intro u' hu; simp at hu; subst hu; exact h1)
    have hr := run_append_room_src (P := P) w t t ty e i ht hi g off xs.length cap _ 1 [u] hsrc hroom
      (by
        intro j hj
        simp at hj
        subst hj
        rw [cell_of_blk hg, hsize, Nat.mul_one, Nat.add_zero]
        rw [Array.getElem?_eq_getElem (by omega)]; rfl)
      (by intro j hj; exact frozen_of_blk hg)
    rw [hsize, Nat.mul_one] at hr
    have hw' : w.setCells g (off + xs.length) [u] = w.setCell ⟨g, off + xs.length, none⟩ u := rfl
    rw [hw'] at hr
    refine ⟨g, off, cap, _, hr, ⟨g, off, cap, cur.setIfInBounds (off + xs.length) u, by simp, hb, blk_set_same hg u, by simpa using hroom, hcm, by simpa using hcs, ?_⟩, ?_, .inl rfl, ?_⟩
    · apply List.ext_getElem?
      intro j
      rw [List.length_append, List.length_singleton, List.getElem?_take]
      by_cases hj : j < xs.length + 1
      · rw [if_pos hj, List.getElem?_drop, Array.toList_setIfInBounds, List.getElem?_set]
        by_cases hj2 : j = xs.length
        · subst hj2
          simp; omega
        · have : ¬ off + xs.length = off + j := by omega
          rw [if_neg this, List.getElem?_append_left (by omega)]
          have h2 := congrArg (fun l : List Value => l[j]?) htake
          simp only [List.getElem?_take, List.getElem?_drop] at h2
          rw [if_pos (by omega)] at h2
          exact h2
      · rw [if_neg hj, List.getElem?_eq_none (by simp; omega)]
    · refine ⟨rfl, rfl, rfl, by simp, fun k hk hne => ?_⟩
      exact heap_setCell_other w ⟨g, off + xs.length, none⟩ k u (by rintro rfl; exact hne rfl)
    · have := lt_of_heap hg; simpa using this
  · have hold : ∀ j u', xs[j]? = some u' → w.cell? ((⟨g, off, none⟩ : Addr).add j) = some u' := by
      intro j u' hj
      have hadd : (⟨g, off, none⟩ : Addr).add j = ⟨g, off + j, none⟩ := by unfold Addr.add; split <;> simp_all
      rw [hadd, cell_of_blk hg]
      rw [← htake, List.getElem?_take] at hj
      split at hj
      · rw [List.getElem?_drop] at hj; simpa using hj
      · cases hj
    have hsmall : xs.length + 1 ≤ 9223372036854775807 := by simp only [maxLen] at h63; omega
    subst hby
    have hr := run_append_grow (P := P) w t ty e i z ht hi hz ⟨g, off, none⟩ xs.length cap xs (by rw [hsize, Nat.mul_one]) hold ad 1 c [u] (by rw [hsize]; rfl) hnews (by omega) (by omega) (growslice_fits (by omega) hbytes)
    have hge := grownCap_ge w (xs.length + 1) cap e
    have hcm2 : grownCap w (xs.length + 1) cap e ≤ maxLen := grownCap_le_maxLen w _ cap e h63
    refine ⟨w.heap.size, 0, _, _, hr, ⟨w.heap.size, 0, grownCap w (xs.length + 1) cap e, _, by simp, hbase, heap_alloc_new w.drew _, by simpa using hge, hcm2, ?_, ?_⟩, ⟨rfl, rfl, rfl, by simp, fun k hk _ => Below.heap_alloc w.drew _ k hk⟩, .inr rfl, by simp⟩
    · simp only [Array.size_append, List.size_toArray, size_zeroCells, hzs, List.length_singleton]
      omega
    · simp only [Array.toList_append, List.drop_zero]
      rw [List.take_left' (by simp)]

theorem wpListIn_append_tail {F : Fence} {n : Nat} {ops : Array Oper} {rest : List Oper} {o : Oper} {a : Act} {Q : Exit → Act → World → Prop}
    (hg : o.guard = none) (s x : Operand) (t : TypeId) (hop : o.op = Op.call { callee := Callee.builtin Builtin.append, args := #[s, x], argTypes := #[t, t] })
    (base : Nat) (e : TypeId) (i : TypeInfo) (z : Value) (bytes : Nat) (h1 : P.underlying t = some (.slice e)) (h2 : P.info? e = some i) (h3 : i.zero = some z) (h4 : i.size = 1) (h5 : i.bytes = bytes) (h6 : z.cells.size = 1)
    (v : Value) (xs : List Value) (hs : a.eval s = v) (hown : Tail w base e v xs) (ad : Addr) (c : Nat) (u : Value) (hx : a.eval x = .slice (some ad) 1 c)
    (hc : w.cell? ad = some u) (h1c : u.oneCell' = true) (k : Nat) (hk : xs.length = k) (b1 : k + 1 ≤ maxLen) (b2 : (k + 1) * bytes ≤ 140737488355328) (b3 : base ≤ w.heap.size) (H : Nat) (hH : w.heap.size = H)
    (hK : ∀ g off cap w', Tail w' base e (.slice (some ⟨g, off, none⟩) (k + 1) cap) (xs ++ [u]) → w.grownBy w' v.ownBlock → (v.ownBlock = some g ∨ g = H) → g < w'.heap.size → wpListIn F n P ops Q rest (a.put o.dst (.slice (some ⟨g, off, none⟩) (k + 1) cap)) w') :
    wpListIn F n P ops Q (o :: rest) a w := by
  refine wpListIn_plain hg fun K hK' => ?_
  subst hk
  obtain ⟨g, off, cap, w', hrun, r1, r2, r3, r4⟩ := run_append_tail (P := P) w base t o.type e i z bytes h1 h2 h3 h4 h5 h6 v xs hown ad c u hc h1c b1 b2 b3
  rw [hH] at r3
  unfold Oper.wpIn
  refine ⟨?_, ?_⟩
  · simp [Oper.about, hop, resolve, Target.leads, Sem.run_pure]
  · rw [Oper.semAt_plain F _ _ (by rw [hop]; intro c hc'; cases hc')]
    simp [execOp, hop, resolve, invoke, builtin, hs, hx, hrun, Result.andThen]
    exact hK' _ _ (hK g off cap w' r1 r2 r3 r4)
end

end Go.Proofs.Ytdonadeodioplaa

namespace Go.Proofs.Ytdonadeodioplaa
open Go.RowKit Go.Sort Go.Proofs

section
variable {α : Type} [Inhabited α] (enc : α → Value)
theorem holdsE_of_block {w : World} {g : Nat} {cur : Array Value} {e : TypeId} {ss : List α} (hb : w.heap[g]? = some (.cells cur e (0, 0))) (ht : cur.toList.take ss.length = ss.map enc) : Holds enc w g 0 ss.toArray := by
  intro j hj
  have hj' : j < ss.length := by simpa using hj
  refine ⟨?_, by simp [World.frozen?, hb]⟩
  have h1 : (cur.toList.take ss.length)[j]? = (ss.map enc)[j]? := by rw [ht]
  rw [List.getElem?_take_of_lt hj'] at h1
  simp only [World.cell?, hb, Nat.zero_add]
  simp only [Option.isSome_none, Bool.false_eq_true, if_false]
  rw [← Array.getElem?_toList, h1]
  simp [hj']
theorem take_putCellsE (cur : Array Value) (ts : List α) (h : ts.length ≤ cur.size) : (putCells enc 0 ts.toArray cur).toList.take ts.length = ts.map enc := by
  apply List.ext_getElem?
  intro j
  by_cases hj : j < ts.length
  · rw [List.getElem?_take_of_lt hj, Array.getElem?_toList]
    simp [putCells, hj, show j < cur.size by omega]
  · rw [List.getElem?_take_eq_none (by omega), List.getElem?_eq_none (by simp; omega)]
theorem heap_putE {w : World} {g n : Nat} {cur : Array Value} {e : TypeId} {fr : Nat × Nat} (d : Array α) (hb : w.heap[g]? = some (.cells cur e fr)) :
    (putRow enc (Sort.ahead w n) g 0 d).heap[g]? = some (.cells (putCells enc 0 d cur) e fr) := by
  simp [putRow, mapBlock, Sort.ahead, Array.getElem?_modify, hb, onCells]
theorem keeps_putE {w : World} {g n : Nat} (d : Array α) : Keeps (fun b => b = g) w (putRow enc (Sort.ahead w n) g 0 d) := by
  refine ⟨rfl, rfl, rfl, by simp [putRow, mapBlock, Sort.ahead], fun k hk hne => ?_⟩
  have : g ≠ k := fun e => hne e.symm
  simp [putRow, mapBlock, Sort.ahead, Array.getElem?_modify, this]
end

theorem reverse_any (w : World) (base : Nat) (T : TypeId) (v : Value) (l : List Int) (hown : w.ownsRow base T 1 v l.length (l.map (Value.int .i64))) (hlen : l.length ≤ 9223372036854775807) :
    Calls Try.prog 56 #[v] w fun e w' => e = .returned (.tuple #[]) ∧ w'.ownsRow base T 1 v l.length (l.reverse.map (Value.int .i64)) ∧ Keeps (fun b => v.ownBlock = some b) w w' := by
  rcases hown.2 with ⟨rfl, h0⟩ | ⟨g, cap, cur, rfl, hb, hg, hn, hm, hs, ht⟩
  · have hz : l = [] := List.length_eq_zero_iff.1 h0
    subst hz
    refine (Try.slices_Reverse_int_empty none 0 w).mono ?_
    rintro e w' ⟨rfl, rfl⟩
    exact ⟨rfl, World.ownsRow_nil _ _ _ _, Keeps.refl _ _⟩
  · have ht' : cur.toList.take l.length = l.map (Value.int .i64) := by simpa using ht
    refine (Try.slices_Reverse_int g 0 cap l w (holdsE_of_block (Value.int .i64) hg ht') hlen).mono ?_
    rintro e w' ⟨rfl, n, rfl⟩
    refine ⟨rfl, ⟨by simp, .inr ⟨g, cap, _, rfl, hb, heap_putE (Value.int .i64) _ hg, hn, hm, by simp [putCells, hs], ?_⟩⟩, (keeps_putE (Value.int .i64) _).mono (fun i _ h => by subst h; rfl)⟩
    have := take_putCellsE (Value.int .i64) cur l.reverse (by simp; omega)
    simpa using this

/-! ### space.Path -/
/-- The map of a tree. -/
def parL (T : List Ent) : List (Int × Value) := T.map fun e => ((e.to : Int), Value.agg #[.int .u32 (e.frm : Int), .int .i64 (e.op : Int)])
theorem parL_nodup {T : List Ent} (h : (keysT T).Nodup) : ((parL T).map Prod.fst).Nodup := by
  have e : (parL T).map Prod.fst = (keysT T).map fun x : Nat => (x : Int) := by unfold parL keysT; rw [List.map_map, List.map_map]; rfl
  rw [e]
  exact List.Pairwise.map _ (fun a b hab => by omega) h
theorem parL_mem {T : List Ent} {e : Ent} (h : e ∈ T) : ((e.to : Int), Value.agg #[.int .u32 (e.frm : Int), .int .i64 (e.op : Int)]) ∈ parL T := List.mem_map.2 ⟨e, h, rfl⟩
theorem parL_miss {T : List Ent} {x : Nat} (h : x ∉ keysT T) : ∀ p ∈ parL T, p.1 ≠ (x : Int) := by
  intro p hp e
  obtain ⟨y, hy, rfl⟩ := List.mem_map.1 hp
  have : y.to = x := by simp only at e; omega
  exact h (List.mem_map.2 ⟨y, hy, this⟩)

def intsP (p : List Nat) : List Int := p.map fun x : Nat => (x : Int)

set_option maxRecDepth 100000 in
set_option maxHeartbeats 1000000 in
theorem path_any (w : World) (m : Nat) (ops : List Wop) (s i : Nat) (T : List Ent) (k : Nat) (e : Ent) (ok : TreeOk ops s i T) (hm : IMap w m .u32 (parL T)) (he : T[k]? = some e) (few : T.length ≤ 100000) :
    Calls Try.prog 102 #[.map (some m), .int .u32 (s : Int), .int .u32 (e.to : Int)] w fun en w' => ∃ v, en = .returned v ∧ w'.ownsRow w.heap.size 3 1 v e.path.length ((intsP e.path).map (Value.int .i64)) ∧ Keeps (fun _ => False) w w' := by
  obtain ⟨i0, hi0, hz0, hz1, hz2⟩ := info_parts Try.info3
  have HM := Lib.hid hm; have OK := Lib.hid ok; have HE := Lib.hid he; have FEW := Lib.hid few
  have hkl := (List.getElem?_eq_some_iff.1 he).1
  clear hm ok he few
  go_enter Try.func102, Try.ntmps102
  go_wp2_with fail
  go_loopw [2, 7] (fun x v wr => ∃ (j : Nat) (f : Ent) (out : List Nat), T[j]? = some f ∧ out.length + j ≤ k ∧ e.path = f.path ++ out.reverse ∧ x = .int .u32 (f.to : Int) ∧ wr.ownsRow w.heap.size 3 1 v (intsP out).length ((intsP out).map (Value.int .i64)) ∧ Keeps (fun _ => False) w wr)
    (fun x _ _ => ((keysT T).idxOf (intOf x).toNat))
  case atStart => exact ⟨k, e, [], HE.out, by simp, by simp, rfl, World.ownsRow_nil _ _ _ _, Keeps.refl _ _⟩
  case round =>
    obtain ⟨j, f, out, hj, hjk, hp, rfl, hown, hkw⟩ := hrel
    have HO := Lib.hid hown; have KW := Lib.hid hkw; have HP := Lib.hid hp; have HJ := Lib.hid hj; have HJK := Lib.hid hjk
    have hmw := HM.out.keeps hkw (fun h => h)
    clear hown hkw hp hj hjk
    obtain ⟨av, cv, hv⟩ := ownsRow_form1 HO.out
    subst hv
    by_cases hne : f.to = s
    · have hb : ((f.to : Int) != (s : Int)) = false := by simp [hne]
      have hf : f.path = [] := by
        have h0 := OK.out.inj HJ.out OK.out.head hne
        subst h0
        have h1 := HJ.out
        rw [OK.out.head] at h1
        cases h1; rfl
      have HPE := Lib.hid (show (intsP out).reverse = intsP e.path by
        rw [HP.out, hf]; simp [intsP])
      clear hne hf
      go_wp2_with fail
      refine (reverse_any _ _ _ _ (intsP out) HO.out (by have := HJK.out; have := FEW.out; simp [intsP]; omega)).mono ?_
      rintro e' w5 ⟨rfl, hown2, hk5⟩
      have HO5 := Lib.hid hown2
      have K5 := Lib.hid (KW.out.trans' hk5 (fun b hb => .inr (World.ownsRow.lt HO.out b hb).1))
      clear hown2 hk5
      go_wp2_with fail
      go_ret
      refine ⟨_, rfl, ?_, K5.out⟩
      have h2 : (intsP out).length = e.path.length := by
        have := congrArg List.length HPE.out
        simpa [intsP] using this
      have h1 := HO5.out
      rw [HPE.out] at h1
      generalize (Value.slice av (intsP out).length cv) = v at h1
      rw [h2] at h1
      exact h1
    · have hb : ((f.to : Int) != (s : Int)) = true := by simp; omega
      have hj0 : 0 < j := by
        rcases Nat.eq_zero_or_pos j with h0 | h0
        · exfalso
          have h1 := HJ.out
          rw [h0, OK.out.head] at h1
          cases h1; exact hne rfl
        · exact h0
      obtain ⟨k2, g, h1, h2, h3, h4, h5, h6⟩ := OK.out.parent j f HJ.out hj0
      have HG := Lib.hid h3; have HFG := Lib.hid h4; have HPG := Lib.hid h5; have HKJ := Lib.hid h1
      have hlk := (hmw.run_lookup_hit (P := Try.prog) Try.underlying163 Try.underlying75 (parL_nodup OK.out.nodup) (parL_mem (List.mem_of_getElem? HJ.out))).2
      clear hne h1 h2 h3 h4 h5 h6 hj0
      have HB := Lib.hid (heap_alloc_new wr (.cells #[.int .u32 (f.frm : Int), .int .i64 (f.op : Int)] 162))
      have KA := Lib.hid ((Keeps.refl (fun _ => False) wr).alloc (.cells #[.int .u32 (f.frm : Int), .int .i64 (f.op : Int)] 162))
      go_upto_region 4 with fail
      generalize wr.alloc (.cells #[.int .u32 (f.frm : Int), .int .i64 (f.op : Int)] 162) = w3 at KA HB ⊢
      have c0 : w3.cell? ⟨wr.heap.size, 0, none⟩ = some (.int .u32 (f.frm : Int)) := by rw [cell_of_blk HB.out]; rfl
      have c1 : w3.cell? ⟨wr.heap.size, 1, none⟩ = some (.int .i64 (f.op : Int)) := by rw [cell_of_blk HB.out]; rfl
      have hO3 := KA.out.ownsRow HO.out (fun _ _ h => h)
      have hlen : (intsP out).length ≤ 100000 := by have := HJK.out; have := FEW.out; simp [intsP]; omega
      have hfew := FEW.out; have hs3 := KA.out.size; have hsw := KW.out.size
      go_wp2_with (at_builtin; refine wpList_append_d rfl _ _ _ rfl w.heap.size 3 i0 _ 1 8 Try.underlying22 hi0 hz0 hz1 hz2 rfl (by omega) _ (intsP out).length ((intsP out).map (Value.int .i64)) (by rfl) (World.ownsRow.alloc hO3 (.cells #[.int .i64 (f.op : Int)] 3)) ⟨w3.heap.size, 0, none⟩ 1 1 [.int .i64 (f.op : Int)] (by rfl) (by rfl) ?hnews ?hone (by omega) (by unfold maxLen; omega) (by omega) (by simp; omega) (w3.heap.size + 1) (by simp) ?_)
      case hnews => exact World.news_of_block (cs := #[.int .i64 (f.op : Int)]) (t := 3) (fr := (0, 0)) (heap_alloc_new _ _)
      case hone => simp [Value.oneCell']
      intro gg cap2 w4 hown hgrow hat hlt4 hd4
      have HN := Lib.hid (show w4.ownsRow w.heap.size 3 1 (.slice (some ⟨gg, 0, none⟩) ((intsP out).length + 1) cap2) (intsP (out ++ [f.op])).length ((intsP (out ++ [f.op])).map (Value.int .i64)) by
        have e1 : (intsP (out ++ [f.op])) = intsP out ++ [(f.op : Int)] := by simp [intsP]
        rw [e1, List.map_append, List.length_append]; exact hown)
      have HKN := Lib.hid (own_grown HO.out KW.out (KA.out.alloc (.cells #[.int .i64 (f.op : Int)] 3)) hgrow)
      have d0 : w4.cell? ⟨wr.heap.size, 0, none⟩ = some (.int .u32 (f.frm : Int)) := by
        have hb4 : w4.heap[wr.heap.size]? = _ := (steady_keeps hgrow).heap ((Below.heap_alloc w3 (.cells #[.int .i64 (f.op : Int)] 3) wr.heap.size (lt_of_heap HB.out)).trans HB.out) (fun e' => by have := (World.ownsRow.lt HO.out _ e').2; omega)
        rw [cell_of_blk hb4]; rfl
      clear hown hgrow hat hd4 c0 c1 hO3 hmw
      go_wp2_with fail
      go_roundw
      case rel =>
        refine ⟨k2, g, out ++ [f.op], HG.out, by have := HKJ.out; have := HJK.out; simp; omega, ?_, by rw [HFG.out], HN.out, HKN.out⟩
        rw [HP.out, HPG.out]; simp
      case measure =>
        have idx : ∀ (j : Nat) (x : Ent), T[j]? = some x → (keysT T).idxOf x.to = j := by
          intro j x hx
          have h1 : (keysT T)[j]? = some x.to := by unfold keysT; rw [List.getElem?_map, hx]; rfl
          obtain ⟨l1, g1⟩ := List.getElem?_eq_some_iff.1 h1
          rw [← g1]
          exact OK.out.nodup.idxOf_getElem j l1
        simp only [intOf, HFG.out, Int.toNat_natCast]
        rw [idx _ _ HG.out, idx _ _ HJ.out]
        exact HKJ.out

end Go.Proofs.Ytdonadeodioplaa

namespace Go.Proofs.Ytdonadeodioplaa
open Go.RowKit Go.Shelf
attribute [local go_sem] Oper.semAt_some

/-- What First knows between two steps. -/
structure FirS (w0 : World) (b1 b2 b3 : Nat) (T : List Ent) (q : List Nat) (vl : Value) (W : World) : Prop where
  keep : Keeps (fun _ => False) w0 W
  x1 : Boxed W b1 72 vl
  x3 : Boxed W b3 163 (.map (some b2))
  line : Tail W w0.heap.size 75 vl (q.map encW)
  map : IMap W b2 .u32 (parL T)
  l1 : w0.heap.size ≤ b1
  l2 : w0.heap.size ≤ b2
  l3 : w0.heap.size ≤ b3

section
variable {w0 : World} {b1 b2 b3 : Nat} {T : List Ent} {q : List Nat} {vl : Value} {W : World}
theorem FirS.by {W' : World} {S : Nat → Prop} (h : FirS w0 b1 b2 b3 T q vl W) (hk : Keeps S W W') (s1 : ¬ S b1) (s2 : ¬ S b2) (s3 : ¬ S b3) (ss : ∀ k, vl.ownBlock = some k → ¬ S k) (hS : ∀ k, S k → w0.heap.size ≤ k) : FirS w0 b1 b2 b3 T q vl W' :=
  ⟨h.keep.trans' hk (fun i hi => .inr (hS i hi)), hk.heap h.x1 s1, hk.heap h.x3 s3, h.line.keeps hk ss, h.map.keeps hk s2, h.l1, h.l2, h.l3⟩
theorem FirS.keeps0 {W' : World} (h : FirS w0 b1 b2 b3 T q vl W) (hk : Keeps (fun _ => False) W W') : FirS w0 b1 b2 b3 T q vl W' :=
  h.by hk (fun h => h) (fun h => h) (fun h => h) (fun _ _ h => h) (fun _ h => h.elim)
theorem FirS.row1 (h : FirS w0 b1 b2 b3 T q vl W) : vl.ownBlock ≠ some b1 := h.line.not_box h.x1 (by decide)
theorem FirS.row3 (h : FirS w0 b1 b2 b3 T q vl W) : vl.ownBlock ≠ some b3 := h.line.not_box h.x3 (by decide)
theorem FirS.row2 (h : FirS w0 b1 b2 b3 T q vl W) : vl.ownBlock ≠ some b2 := Tail.not_map h.map h.line
theorem FirS.box13 (h : FirS w0 b1 b2 b3 T q vl W) : b1 ≠ b3 := by
  rintro rfl
  have := (show W.heap[b1]? = _ from h.x1).symm.trans h.x3
  simp at this
theorem FirS.steady {W' : World} {row : Option Nat} {B : Nat} (h : FirS w0 b1 b2 b3 T q vl W) (hg : W.grownBy W' row) (hr : ∀ r, row = some r → B ≤ r ∧ ∃ o : Obj, W.heap[r]? = some o ∧ o.isCells = false) (hB : w0.heap.size ≤ B) (hb2 : b2 < B) : FirS w0 b1 b2 b3 T q vl W' :=
  ⟨steady_keeps0 hg (fun r e => (hr r e).1) hB h.keep, steady_heap hg (fun r e => (hr r e).2) h.x1, steady_heap hg (fun r e => (hr r e).2) h.x3, h.line.steady hg (fun r e => (hr r e).2), steady_map hg (fun r e => (hr r e).1) hb2 h.map, h.l1, h.l2, h.l3⟩

/-- The first of the line is taken. -/
theorem FirS.pop {g off n cap x : Nat} (h : FirS w0 b1 b2 b3 T (x :: q) (.slice (some ⟨g, off, none⟩) (n + 1) cap) W) (hn : q.length = n) :
    FirS w0 b1 b2 b3 T q (.slice (some (cutAt g off cap)) n (cap - 1)) (W.setCell ⟨b1, 0, none⟩ (.slice (some (cutAt g off cap)) n (cap - 1))) := by
  have hk : Keeps (fun b => b = b1) W (W.setCell ⟨b1, 0, none⟩ (.slice (some (cutAt g off cap)) n (cap - 1))) := (Keeps.refl (fun b => b = b1) W).setCell (p := ⟨b1, 0, none⟩) (.inl rfl) _
  have hl := h.line
  rw [List.map_cons] at hl
  refine ⟨h.keep.trans' hk (fun i hi => .inr (by subst hi; exact h.l1)), h.x1.set _, hk.heap h.x3 (fun e => h.box13 e.symm), ?_, h.map.keeps hk (box_not_map h.map h.x1), h.l1, h.l2, h.l3⟩
  refine (hl.cut (by simpa using hn)).keeps hk (fun k hk' e => ?_)
  subst e
  simp [Value.ownBlock, cutAt_block] at hk'
  exact h.row1 (by simp [Value.ownBlock, hk'])

/-- One more is put in the line. -/
theorem FirS.push {W3 : World} {o : Obj} {gg off m cap x : Nat} (h : FirS w0 b1 b2 b3 T q vl W) (hown : Tail W3 w0.heap.size 75 (.slice (some ⟨gg, off, none⟩) m cap) (q.map encW ++ [encW x]))
    (hg : (W.alloc o).grownBy W3 vl.ownBlock) (hat : vl.ownBlock = some gg ∨ gg = W.heap.size + 1) : FirS w0 b1 b2 b3 T (q ++ [x]) (.slice (some ⟨gg, off, none⟩) m cap) (W3.setCell ⟨b1, 0, none⟩ (.slice (some ⟨gg, off, none⟩) m cap)) := by
  have h' := h.keeps0 ((Keeps.refl (fun _ => False) W).alloc o)
  have hk1 : Keeps (fun b => vl.ownBlock = some b) (W.alloc o) W3 := (Keeps.refl _ _).grown hg (fun k hk => .inl hk)
  have hx1 : Boxed W3 b1 72 vl := hk1.heap h'.x1 h.row1
  have hk2 : Keeps (fun b => b = b1) W3 (W3.setCell ⟨b1, 0, none⟩ (.slice (some ⟨gg, off, none⟩) m cap)) := (Keeps.refl (fun b => b = b1) W3).setCell (p := ⟨b1, 0, none⟩) (.inl rfl) _
  have hgb : gg ≠ b1 := by
    rcases hat with e | e
    · intro e'; exact h.row1 (by rw [e, e'])
    · have := h.x1.lt; omega
  refine ⟨(h'.keep.trans' hk1 (fun i e => .inr (h.line.lt i e).1)).trans' hk2 (fun i e => .inr (by subst e; exact h.l1)), hx1.set _, hk2.heap (hk1.heap h'.x3 h.row3) (fun e => h.box13 e.symm), ?_, (h'.map.keeps hk1 h.row2).keeps hk2 (box_not_map h.map h.x1), h.l1, h.l2, h.l3⟩
  rw [List.map_append]
  exact hown.keeps hk2 (fun k hk' e => by simp [Value.ownBlock] at hk'; omega)

/-- One more is seen. -/
theorem FirS.see {W' : World} {e : Ent} (h : FirS w0 b1 b2 b3 T q vl W) (hI : IMap W' b2 .u32 (parL T ++ [((e.to : Int), .agg #[.int .u32 (e.frm : Int), .int .i64 (e.op : Int)])])) (hk : Keeps (fun k => k = b2) W W') : FirS w0 b1 b2 b3 (T ++ [e]) q vl W' :=
  ⟨h.keep.trans' hk (fun i e => .inr (by subst e; exact h.l2)), hk.heap h.x1 (fun e => box_not_map h.map h.x1 e.symm), hk.heap h.x3 (fun e => box_not_map h.map h.x3 e.symm), h.line.keeps hk (fun k hk' e => by subst e; exact h.row2 hk'),
    by simpa [parL] using hI, h.l1, h.l2, h.l3⟩
end

structure FirLoop (ops : List Wop) (st : Nat) (acc : Nat → Bool) (w0 : World) (b1 b2 b3 i : Nat) (q : List Nat) (vl : Value) (ds : List Deferred) (W : World) : Prop where
  s : FirS w0 b1 b2 b3 (tree ops st i) q vl W
  q : q = (keysT (tree ops st i)).drop i
  no : ∀ (j : Nat) f, j < i → (tree ops st i)[j]? = some f → acc f.to = false
  marks : Marks ds W w0.heap.size

/-- Within the loop over the steps of e, when the steps l have come. -/
def FirI (w0 : World) (b1 b2 b3 : Nat) (T : List Ent) (q : List Nat) (e : Ent) (ds : List Deferred) (Bs Bx : Nat) (l : List Stp) (W : World) : Prop :=
  ∃ vl, FirS w0 b1 b2 b3 (T ++ frs e (keysT T) l) (q ++ keysT (frs e (keysT T) l)) vl W ∧ Marks ds W w0.heap.size ∧ W.heap[Bs]? = some (.cells #[.int .u32 (e.to : Int)] 75 (0, 0)) ∧ W.heap[Bx]? = some (.cells #[.int .u32 (e.to : Int)] 75 (0, 0)) ∧ (∀ k, vl.ownBlock = some k → k ≠ Bs) ∧ (∀ k, vl.ownBlock = some k → k ≠ Bx)

def mapLen (W : World) (b : Nat) : Nat := match W.heap[b]? with
  | some (.map es _) => es.size
  | _ => 0
def boxLen (W : World) (b : Nat) : Nat := match W.cell? ⟨b, 0, none⟩ with
  | some v => sliceLen v
  | _ => 0

/-- What First hands back. -/
def FirstPost (ops : List Wop) (st : Nat) (acc : Nat → Bool) (w : World) (e : Ending) (w' : World) : Prop := Keeps (fun _ => False) w w' ∧
  ((Best ops st acc none ∧ e = .returned (.tuple #[.slice none 0 0, .bool false])) ∨
   (∃ p, Best ops st acc (some p) ∧ ∃ v', e = .returned (.tuple #[v', .bool true]) ∧ w'.ownsRow w.heap.size 3 1 v' p.length ((intsP p).map (Value.int .i64))))

theorem reach_small {ops : List Wop} (hops : WopsOk ops) {st : Nat} (hst : st < 4294967296) {x : Nat} (h : Reach ops st x) : x < 4294967296 := by
  induction h with
  | refl => exact hst
  | step _ hy ih =>
    unfold nexts at hy
    obtain ⟨o, ho, rfl⟩ := List.mem_map.1 hy
    have ho' := List.mem_filter.1 ho
    exact next_lt ih (hops o ho'.1).2.1

/-- What a function value must do to be asked by First. -/
structure Asked (w0 : World) (g : Nat) (pa cb : Array Value) (acc : Nat → Bool) : Prop where
  enters : ∀ args w, (callFunc g args).run Try.prog w = .ok (.enter g args) w
  answers : ∀ (W : World) (x : Nat), Keeps (fun _ => False) w0 W → x < 4294967296 → Calls Try.prog g (pa.push (.int .u32 (x : Int)) ++ cb) W fun e W' => e = .returned (.bool (acc x)) ∧ ∃ n, W' = W.drewN n

theorem keysT_append (A B : List Ent) : keysT (A ++ B) = keysT A ++ keysT B := by simp [keysT]
theorem keysT_length (A : List Ent) : (keysT A).length = A.length := by simp [keysT]

theorem FirS.count {w0 : World} {b1 b2 b3 : Nat} {T : List Ent} {q : List Nat} {vl : Value} {W : World} (h : FirS w0 b1 b2 b3 T q vl W) : mapLen W b2 = T.length ∧ boxLen W b1 = q.length := by
  obtain ⟨es, c, h1, h2⟩ := h.map.length
  obtain ⟨g, off, cap, hv, _⟩ := h.line.form
  constructor
  · unfold mapLen; rw [h1]; simp only; rw [h2]; simp [parL]
  · unfold boxLen; rw [h.x1.cell]; simp only; rw [hv]; simp [sliceLen]

set_option maxRecDepth 100000 in
set_option maxHeartbeats 4000000 in
theorem first_in (w : World) (b st g0 base : Nat) (v : Value) (ops : List Wop) (hw : WordsAt w base b st g0 v ops) (hops : WopsOk ops) (hmany : ops.length ≤ 40) (hst : st < 4294967296) (l : List Nat) (hl : reached ops st = some l)
    (ga : Nat) (pa cb : Array Value) (acc : Nat → Bool) (hask : Asked w ga pa cb acc) :
    CallsIn Fence.wide 9 Try.prog 69 #[.iface 71 (.pointer (some ⟨b, 0, none⟩)), .func (.func ga) pa cb] w (FirstPost ops st acc w) := by
  have HW := Lib.hid hw; have HL0 := Lib.hid hl; have HASK := Lib.hid hask
  have hmm := @run_makeMap Try.prog
  have mS := method_Start ⟨b, 0, none⟩
  have mT := method_Steps ⟨b, 0, none⟩
  have eg := hask.enters
  clear hw hl hask
  refine callsIn_of_wp_marks Try.func69 rfl trivial ?_ rfl
  simp only [Try.ntmps69, List.size_toArray, List.length_cons, List.length_nil, Nat.reduceAdd, Nat.reduceSub, Array.replicate_succ, Array.replicate_zero, List.push_toArray, List.append_toArray, List.nil_append, List.cons_append]
  gi_wp2
  refine ⟨trivial, ?_⟩
  refine (callsIn_wide.2 (start_any _ _ _ _ _ _ _ HW.out)).mono ?_; rintro e w1 ⟨rfl, rfl⟩
  have hm0 : IMap (w.alloc (.map #[] 0)) w.heap.size .u32 [] := IMap.made w .u32
  obtain ⟨W4, hrun, hI4, hk4⟩ := hm0.run_update_new (P := Try.prog) Try.underlying163 Try.underlying75 (x := (st : Int)) (by simp) (.agg #[.int .u32 (st : Int), .int .i64 0])
  gi_wp2
  have hS : FirS w (W4.heap.size + 1 + 1) w.heap.size W4.heap.size (tree ops st 0) [st] (.slice (some ⟨W4.heap.size + 1, 0, none⟩) 1 1) (((W4.alloc (.cells #[.map (some w.heap.size)] 163)).alloc (.cells #[.int .u32 (st : Int)] 75)).alloc (.cells #[.slice (some ⟨W4.heap.size + 1, 0, none⟩) 1 1] 72)) := by
    have hsz : w.heap.size + 1 ≤ W4.heap.size := by have := hk4.size; simpa using this
    have k0 : Keeps (fun _ => False) w W4 := ((Keeps.refl (fun _ => False) w).alloc (.map #[] 0)).trans' hk4 (fun i e => .inr (by omega))
    have kA := (Keeps.refl (fun _ => False) W4).alloc (.cells #[.map (some w.heap.size)] 163)
    have kB := (Keeps.refl (fun _ => False) (W4.alloc (.cells #[.map (some w.heap.size)] 163))).alloc (.cells #[.int .u32 (st : Int)] 75)
    have kC := (Keeps.refl (fun _ => False) ((W4.alloc (.cells #[.map (some w.heap.size)] 163)).alloc (.cells #[.int .u32 (st : Int)] 75))).alloc (.cells #[.slice (some ⟨W4.heap.size + 1, 0, none⟩) 1 1] 72)
    have n1 := Boxed.new ((W4.alloc (.cells #[.map (some w.heap.size)] 163)).alloc (.cells #[.int .u32 (st : Int)] 75)) 72 (.slice (some ⟨W4.heap.size + 1, 0, none⟩) 1 1)
    rw [World.size_alloc, World.size_alloc] at n1
    have nl := Tail.new (W4.alloc (.cells #[.map (some w.heap.size)] 163)) w.heap.size 75 (.int .u32 (st : Int)) (by simp; omega)
    rw [World.size_alloc] at nl
    have n3 := Boxed.new W4 163 (.map (some w.heap.size))
    refine ⟨k0.trans (kA.trans (kB.trans kC)), n1, kC.heap (kB.heap n3 (fun h => h)) (fun h => h), nl.keeps kC (fun _ _ h => h), ?_, by omega, Nat.le_refl _, by omega⟩
    have h4 : IMap W4 w.heap.size .u32 (parL (tree ops st 0)) := by simpa [parL, tree] using hI4
    exact h4.keeps (kA.trans (kB.trans kC)) (fun h => h)
  have HS := Lib.hid hS
  clear hS hI4 hm0 hk4
  generalize (((W4.alloc (.cells #[.map (some w.heap.size)] 163)).alloc (.cells #[.int .u32 (st : Int)] 75)).alloc (.cells #[.slice (some ⟨W4.heap.size + 1, 0, none⟩) 1 1] 72)) = W5 at HS ⊢
  generalize W4.heap.size + 1 + 1 = b1 at HS ⊢
  generalize W4.heap.size + 1 = ba at HS ⊢
  generalize W4.heap.size = b3 at HS ⊢
  clear hrun
  obtain ⟨b2, hb2⟩ : ∃ b2, w.heap.size = b2 := ⟨_, rfl⟩
  have HSB : Hid (FirS w b1 b2 b3 (tree ops st 0) [st] (.slice (some ⟨ba, 0, none⟩) 1 1) W5) := by rw [← hb2]; exact HS
  clear HS hb2
  obtain ⟨i0, hi0, hz0, hz1, hz2⟩ := info_parts Try.info_u32
  refine wpIn_loop (fun a' wr => ∃ (ds : List Deferred) (u9 u10 u11 u12 u13 u14 u15 u16 u17 u18 u19 u20 u21 u22 u23 u24 u25 u26 u27 u28 u29 u30 u31 u32 u33 u34 u35 u36 u37 u38 u39 u40 u41 u42 u43 u44 u45 u46 u47 u48 u49 u50 u51 u52 u53 u54 u55 u56 u57 u58 u59 u60 u61 : Value) (i : Nat) (q : List Nat) (vl : Value), FirLoop ops st acc w b1 b2 b3 i q vl ds wr ∧ i ≤ (tree ops st i).length ∧
      a' = { tmps := #[.iface 71 (.pointer (some ⟨b, 0, none⟩)), .func (.func ga) pa cb, undef, undef, .slice none 0 0, .bool false, .int .u32 (st : Int), .pointer (some ⟨b3, 0, none⟩), .pointer (some ⟨b1, 0, none⟩), u9, u10, u11, u12, u13, u14, u15, u16, u17, u18, u19, u20, u21, u22, u23, u24, u25, u26, u27, u28, u29, u30, u31, u32, u33, u34, u35, u36, u37, u38, u39, u40, u41, u42, u43, u44, u45, u46, u47, u48, u49, u50, u51, u52, u53, u54, u55, u56, u57, u58, u59, u60, u61], defers := ds })
    (fun _ W => l.length + 1 - (mapLen W b2 - boxLen W b1)) ?start ?round
  case start => exact ⟨[], _, _, _, _, _, _, _, _, _, _, _, _, _, _, _, _, _, _, _, _, _, _, _, _, _, _, _, _, _, _, _, _, _, _, _, _, _, _, _, _, _, _, _, _, _, _, _, _, _, _, _, _, _, 0, [st], _, ⟨HSB.out, rfl, fun j f hj => by omega, Marks.nil _ _⟩, by simp, rfl⟩
  case round =>
    rintro a wr ⟨ds, u9, u10, u11, u12, u13, u14, u15, u16, u17, u18, u19, u20, u21, u22, u23, u24, u25, u26, u27, u28, u29, u30, u31, u32, u33, u34, u35, u36, u37, u38, u39, u40, u41, u42, u43, u44, u45, u46, u47, u48, u49, u50, u51, u52, u53, u54, u55, u56, u57, u58, u59, u60, u61, i, q, vl, hL, hil, rfl⟩
    have HL := Lib.hid hL
    clear hL HSB
    have x1c := HL.out.s.x1.cell
    have x1f := HL.out.s.x1.frozen
    have x3c := HL.out.s.x3.cell
    have x1l := HL.out.s.x1.lt
    have x3l := HL.out.s.x3.lt
    obtain ⟨gl, off, cap, hv, hqc, hcm, hgb, hgl⟩ := HL.out.s.line.form
    subst hv
    rw [List.length_map] at *
    by_cases hq : q = []
    · subst hq
      gi_wp2
      refine leaves_marks HL.out.marks (fun W' hk => ?_)
      have hlen : (tree ops st i).length ≤ i := by
        have h := congrArg List.length HL.out.q
        unfold keysT at h
        simp at h; omega
      have HN := HL.out.no
      refine ⟨.tuple #[.slice none 0 0, .bool false], by simp [results, Try.results69, go_sem], HL.out.s.keep.trans' hk (fun i hi => .inr hi.1), .inl ⟨tree_none hlen (fun f hf => ?_), rfl⟩⟩
      obtain ⟨j, hj⟩ := List.mem_iff_getElem?.1 hf
      exact HN j f (by have := (List.getElem?_eq_some_iff.1 hj).1; omega) hj
    · obtain ⟨x, q', rfl⟩ : ∃ x q', q = x :: q' := by
        cases q with
        | nil => exact absurd rfl hq
        | cons x q' => exact ⟨x, q', rfl⟩
      rw [List.length_cons] at *
      have hq0 := HL.out.q
      obtain ⟨e, hTi, hex⟩ : ∃ e, (tree ops st i)[i]? = some e ∧ e.to = x := by
        have h := congrArg (fun l : List Nat => l[0]?) hq0
        simp only [List.getElem?_cons_zero, List.getElem?_drop, Nat.add_zero] at h
        unfold keysT at h
        rw [List.getElem?_map] at h
        cases hT : (tree ops st i)[i]? with
        | none => rw [hT] at h; cases h
        | some e => rw [hT] at h; exact ⟨e, rfl, by simpa using h.symm⟩
      subst hex
      have hqq : q' = (keysT (tree ops st i)).drop (i + 1) := by
        have h := congrArg (List.drop 1) hq0
        rw [List.drop_drop] at h
        simpa using h
      have htl : i < (tree ops st i).length := (List.getElem?_eq_some_iff.1 hTi).1
      have hok := tree_ok ops st i
      have hll := (reached_some HL0.out).2.1
      have htf := tree_few HL0.out i
      have hnext := tree_step hTi
      have hx32 : e.to < 4294967296 := reach_small hops hst (hok.reach e (List.mem_of_getElem? hTi))
      have hqlen : q'.length + (i + 1) = (tree ops st i).length := by rw [hqq, List.length_drop, keysT_length]; omega
      have hfound : acc e.to = true → Best ops st acc (some e.path) := fun ha => tree_found HL0.out hTi ha HL.out.no
      have hno := HL.out.no
      have hcount := HL.out.s.count
      have hcx := Tail.head (by have := HL.out.s.line; rw [List.map_cons] at this; exact this)
      unfold encW at hcx
      have hsz : w.heap.size ≤ wr.heap.size := HL.out.s.keep.size
      have hpop := HL.out.s.pop (n := q'.length) rfl
      have hmk := HL.out.marks
      have hkd : KeepsD wr (wr.setCell ⟨b1, 0, none⟩ (.slice (some (cutAt gl off cap)) q'.length (cap - 1))) :=
        KeepsD.of ((Keeps.refl (fun b => b = b1) wr).setCell (p := ⟨b1, 0, none⟩) (.inl rfl) _) (fun b hb => by subst hb; exact cells_not_deferred HL.out.s.x1)
      have hm2 := hmk.keeps hkd
      clear hq hkd
      generalize hT : tree ops st i = T at hTi hqq htl hok htf hnext hqlen hno hcount hpop hil
      have HTI := Lib.hid hTi; have HQQ := Lib.hid hqq; have HOK := Lib.hid hok; have HNX := Lib.hid hnext; have HFO := Lib.hid hfound; have HNO := Lib.hid hno; have HCO := Lib.hid hcount; have HMK := Lib.hid hmk; have HTE := Lib.hid hT
      have HTF := Lib.hid (Nat.le_trans htf hll); have HTL := Lib.hid htf; have HIT := Lib.hid htl; have HQL := Lib.hid hqlen
      clear hTi hqq hok hnext hfound hno hcount hmk hT htf hll htl hqlen hq0 HL hil
      rcases (Classical.em (cap = 1)) with hc1 | hc1
      case' inl =>
        rw [show cutAt gl off cap = ⟨gl, off, none⟩ by simp [cutAt, hc1], show cap - 1 = 0 by omega] at hpop hm2
        have hz : q'.length = 0 := by omega
        rw [hz] at hpop hm2
        have HP := Lib.hid hpop; have HM := Lib.hid hm2
        clear hpop hm2
        subst hc1
        gi_wp2
        generalize (Value.slice (some ⟨gl, off, none⟩) 1 1) = vo
        generalize (Value.slice (some ⟨gl, off, none⟩) 0 0) = vc at HP HM ⊢
        generalize (Value.int .i64 1) = v23
      case' inr =>
        rw [show cutAt gl off cap = ⟨gl, off + 1, none⟩ by simp [cutAt, hc1]] at hpop hm2
        have HP := Lib.hid hpop; have HM := Lib.hid hm2
        clear hpop hm2
        gi_wp2
        generalize (Value.slice (some ⟨gl, off, none⟩) (q'.length + 1) cap) = vo
        generalize (Value.slice (some ⟨gl, off + 1, none⟩) q'.length (cap - 1)) = vc at HP HM ⊢
        generalize (Value.int .i64 ((q'.length : Int) + 1)) = v23
      all_goals
        have hkz : (wr.setCell ⟨b1, 0, none⟩ vc).heap.size = wr.heap.size := by simp
        generalize wr.setCell ⟨b1, 0, none⟩ vc = W2 at HP HM hkz ⊢
        rw [← hkz] at hsz ⊢
        have HB9 := Lib.hid (heap_alloc_new W2 (.cells #[.int .u32 (e.to : Int)] 75))
        have HPA := Lib.hid (HP.out.keeps0 ((Keeps.refl (fun _ => False) W2).alloc (.cells #[.int .u32 (e.to : Int)] 75)))
        have HMA := Lib.hid (HM.out.keeps (KeepsD.of0 ((Keeps.refl (fun _ => False) W2).alloc (.cells #[.int .u32 (e.to : Int)] 75))))
        have hv9 : ∀ k, vc.ownBlock = some k → k ≠ W2.heap.size := fun k hk => by have := (HP.out.line.lt k hk).2; omega
        have HV9 := Lib.hid hv9
        have hb9l : W2.heap.size < (W2.alloc (.cells #[.int .u32 (e.to : Int)] 75)).heap.size := by simp
        have hb9w : w.heap.size ≤ W2.heap.size := hsz
        clear hv9 hkz HP HM hsz
        generalize (W2.alloc (.cells #[.int .u32 (e.to : Int)] 75)) = W3 at HB9 HPA HMA hb9l ⊢
        generalize W2.heap.size = b9 at HB9 HV9 hb9l hb9w ⊢
        refine ⟨trivial, ?_⟩
        refine (callsIn_wide.2 (HASK.out.answers W3 e.to HPA.out.keep hx32)).mono ?_; rintro en W4' ⟨rfl, nq, rfl⟩
        have kq := (Keeps.refl (fun _ => False) W3).drewN nq
        have hb9q : b9 < (W3.drewN nq).heap.size := hb9l
        have HB9q := Lib.hid (kq.heap HB9.out (fun h => h))
        have HPq := Lib.hid (HPA.out.keeps0 kq)
        have HMq := Lib.hid (HMA.out.keeps (KeepsD.of0 kq))
        clear kq HB9 HPA HMA hb9l
        generalize W3.drewN nq = W4 at HB9q HPq HMq hb9q ⊢
        have x1c := HPq.out.x1.cell
        have x1f := HPq.out.x1.frozen
        have x3c := HPq.out.x3.cell
        have c9 : W4.cell? ⟨b9, 0, none⟩ = some (.int .u32 (e.to : Int)) := by rw [cell_of_blk HB9q.out]; rfl
        rcases hacc : acc e.to with _ | _
        case' true =>
          gi_wp2
          refine ⟨trivial, ?_⟩
          refine (callsIn_wide.2 (path_any W4 b2 ops st i T i e HOK.out HPq.out.map HTI.out (by have := HTF.out; omega))).mono ?_; rintro en w8 ⟨v8, rfl, hown8, hk8⟩
          gi_wp2
          refine leaves_marks (HMq.out.keeps (KeepsD.of0 hk8)) (fun W' hk => ?_)
          refine ⟨.tuple #[v8, .bool true], by simp [results, Try.results69, go_sem], (HPq.out.keep.trans hk8).trans' hk (fun i hi => .inr hi.1), .inr ⟨e.path, HFO.out hacc, v8, rfl, ?_⟩⟩
          exact ownsRow_mono (hk.ownsRow hown8 (fun k hk' hs => row_not_deferred hown8 k hk' hs.2)) HPq.out.keep.size
        case' false =>
          gi_wp2
          refine ⟨trivial, ?_⟩
          refine (callsIn_wide.2 (steps_any W4 b e.to)).mono ?_; rintro en w5 ⟨rfl, rfl⟩
          gi_wp2
          obtain ⟨W6, hW6⟩ : ∃ W6, ((W4.alloc (.cells #[.pointer (some ⟨b, 0, none⟩)] 71)).alloc (.cells #[.int .u32 (e.to : Int)] 75)) = W6 := ⟨_, rfl⟩
          have hz6 : W6.heap.size = W4.heap.size + 1 + 1 := by rw [← hW6]; simp
          have k6 : Keeps (fun _ => False) W4 W6 := by rw [← hW6]; exact ((Keeps.refl _ _).alloc _).alloc _
          have hBw : W6.cell? ⟨W4.heap.size, 0, none⟩ = some (.pointer (some ⟨b, 0, none⟩)) := by
            rw [← hW6]; exact ((Boxed.new W4 _ _).alloc _).cell
          have hBs : W6.heap[W4.heap.size + 1]? = some (.cells #[.int .u32 (e.to : Int)] 75 (0, 0)) := by
            rw [← hW6]
            have := heap_alloc_new (W4.alloc (.cells #[.pointer (some ⟨b, 0, none⟩)] 71)) (.cells #[.int .u32 (e.to : Int)] 75)
            rwa [World.size_alloc] at this
          have hBsc : W6.cell? ⟨W4.heap.size + 1, 0, none⟩ = some (.int .u32 (e.to : Int)) := by rw [cell_of_blk hBs]; rfl
          rw [hW6]
          have hlow4 : w.heap.size ≤ W4.heap.size := HPq.out.keep.size
          have HA6 := Lib.hid (HPq.out.keeps0 k6)
          have HM6 := Lib.hid (HMq.out.keeps (KeepsD.of0 k6))
          have HB96 := Lib.hid (k6.heap HB9q.out (fun h => h))
          have HWW := Lib.hid (show ∃ w0 : World, WordsAt w0 base b st g0 v ops ∧ w0.heap.size ≤ w.heap.size ∧ Below w.heap.size w0 W6 from ⟨w, HW.out, Nat.le_refl _, HA6.out.keep.below⟩)
          have hgrow0 : ∀ k, vc.ownBlock = some k → k ≠ W4.heap.size + 1 := fun k hk => by have := (HPq.out.line.lt k hk).2; omega
          have HG0 := Lib.hid hgrow0
          have HBS := Lib.hid hBs
          have HWL := Lib.hid (show (wsteps ops e.to).length ≤ 40 from Nat.le_trans (wsteps_le ops e.to) hmany)
          have hb6 : w.heap.size ≤ W6.heap.size := by omega
          have hb96 : b9 < W6.heap.size := by omega
          have hb26 : b2 < W6.heap.size := HA6.out.map.lt
          clear hgrow0 hBs x1c x1f x3c c9 HB9q HPq HMq
          refine wpIn_rangeFunc_ownH (α := StpOf ops e.to) rfl (by omega) (gf := 91) (lb := #[.pointer (some ⟨W4.heap.size, 0, none⟩), .pointer (some ⟨W4.heap.size + 1, 0, none⟩)]) rfl trivial (enters_of Try.func91 (by kernel_rfl) rfl)
            (steps_stops Fence.wide 8 trivial rfl (by omega) W4.heap.size (W4.heap.size + 1) w.heap.size base b st g0 e.to v ops hops (by omega) hx32 W6 (by omega) hBw hBsc (by omega) (by omega) HWW.out)
            KpS.trans (kpS_b (by omega) (by omega)) (Below.refl _ _) (fun _ => rfl)
            (fun pre W => FirI w b1 b2 b3 T q' e ds (W4.heap.size + 1) b9 (pre.map fun y => y.1) W)
            (fun _ _ _ => False) ?_ (fun _ _ _ _ _ hs _ _ => hs) ?_
            (fun (y : StpOf ops e.to) (a' : Act) (W : World) => ∃ Bx : Nat, W.heap[Bx]? = some (Obj.cells #[.int .i64 (y.1.op : Int), .int .i64 y.1.cost, .int .u32 (y.1.to : Int)] 86 (0, 0)) ∧ a' = { tmps := #[.iface 71 (.pointer (some ⟨b, 0, none⟩)), .func (.func ga) pa cb, undef, undef, .slice none 0 0, .bool false, .int .u32 (st : Int), .pointer (some ⟨b3, 0, none⟩), .pointer (some ⟨b1, 0, none⟩), .pointer (some ⟨b9, 0, none⟩), .pointer (some ⟨Bx, 0, none⟩), u11, u12, u13, u14, u15, u16, u17, u18, u19, u20, u21, vo, v23, .bool true, vo, .pointer (some ⟨gl, off, none⟩), .int .u32 (e.to : Int), vo, vc, .func (.func ga) pa cb, .int .u32 (e.to : Int), .bool false, u33, u34, u35, u36, .iface 71 (.pointer (some ⟨b, 0, none⟩)), .int .u32 (e.to : Int), .func (.func 91) #[] #[.pointer (some ⟨W4.heap.size, 0, none⟩), .pointer (some ⟨W4.heap.size + 1, 0, none⟩)], y.1.val, u41, u42, u43, u44, u45, u46, u47, u48, u49, u50, u51, u52, u53, u54, u55, u56, u57, u58, u59, u60, u61], defers := [] }) ?_ ?_ ?_ ?_ ?_
          · intro l W W' row hs hg hr
            obtain ⟨vl, h1, h2, h3, h4, h5⟩ := hs
            exact ⟨vl, h1.steady hg hr hb6 hb26, Marks.steady HM6.out h2 hg hr, steady_heap hg (fun r e => (hr r e).2) h3, steady_heap hg (fun r e => (hr r e).2) h4, h5⟩
          · exact ⟨vc, by simpa [frs, keysT] using HA6.out, HM6.out, HBS.out, HB96.out, HG0.out, HV9.out⟩
          · intro y a' _ W W' row hs hg hr
            obtain ⟨Bx, h1, h2⟩ := hs
            exact ⟨Bx, steady_heap hg (fun r e => (hr r e).2) h1, h2⟩
          · intro l pre y W K hi hK
            simp only [Stp.val]
            gi_wp2
            obtain ⟨vl, h1, h2, h3, h4, h5⟩ := hi
            refine hK _ _ ((KeepsOthers.alloc _ _).from _) ((KpS.refl _ _ W).alloc h1.keep.size (lt_of_heap h3) _) ⟨vl, h1.keeps0 ((Keeps.refl _ _).alloc _), h2.keeps (KeepsD.of0 ((Keeps.refl _ _).alloc _)), ((Keeps.refl (fun _ => False) W).alloc _).heap h3 (fun h => h), ((Keeps.refl (fun _ => False) W).alloc _).heap h4 (fun h => h), h5⟩ ⟨W.heap.size, heap_alloc_new W _, rfl⟩
          · rintro l pre y a' W hl - ⟨vl, h1, h2, h3, h4, h5, h6⟩ ⟨Bx, hBx, rfl⟩ hlt
            have x1c := h1.x1.cell
            have x1f := h1.x1.frozen
            have x3c := h1.x3.cell
            have c9 : W.cell? ⟨b9, 0, none⟩ = some (.int .u32 (e.to : Int)) := by rw [cell_of_blk h4]; rfl
            have y0 : W.cell? ⟨Bx, 0, none⟩ = some (.int .i64 (y.1.op : Int)) := by rw [cell_of_blk hBx]; rfl
            have y2 : W.cell? ⟨Bx, 2, none⟩ = some (.int .u32 (y.1.to : Int)) := by rw [cell_of_blk hBx]; rfl
            have hBxl := lt_of_heap hBx
            have l1 := h1.x1.lt
            have l3 := h1.x3.lt
            have l9 := lt_of_heap h4
            have hnd : (keysT (T ++ frs e (keysT T) (pre.map fun y => y.1))).Nodup := by
              rw [keysT_append, frs_keys]; exact nodup_freshs HOK.out.nodup
            have hsn := frs_snoc e (pre.map fun y => y.1) y.1 (keysT T)
            by_cases hm : y.1.to ∈ keysT T ++ keysT (frs e (keysT T) (pre.map fun y => y.1))
            · obtain ⟨f, hf, hfy⟩ : ∃ f ∈ T ++ frs e (keysT T) (pre.map fun y => y.1), f.to = y.1.to := by
                rw [← keysT_append] at hm
                obtain ⟨f, h1, h2⟩ := List.mem_map.1 hm
                exact ⟨f, h1, h2⟩
              have hlk := (h1.map.run_lookup_hit (P := Try.prog) Try.underlying163 Try.underlying75 (parL_nodup hnd) (parL_mem hf)).1
              rw [hfy] at hlk
              rw [if_pos hm, List.append_nil] at hsn
              have H1 := Lib.hid h1; have H2 := Lib.hid h2; have H3 := Lib.hid h3; have H4 := Lib.hid h4; have H5 := Lib.hid h5; have H6 := Lib.hid h6; have HSN := Lib.hid hsn
              clear h1 h2 h3 h4 h5 h6 hsn hm hnd hBx hf hfy
              gi_wp2
              refine ⟨(KeepsOthers.alloc _ _).from _, (KpS.refl _ _ W).alloc H1.out.keep.size (lt_of_heap H3.out) _, ⟨vl, ?_, H2.out.keeps (KeepsD.of0 ((Keeps.refl _ _).alloc _)), ((Keeps.refl (fun _ => False) W).alloc _).heap H3.out (fun h => h), ((Keeps.refl (fun _ => False) W).alloc _).heap H4.out (fun h => h), H5.out, H6.out⟩⟩
              have e1 : frs e (keysT T) ((pre ++ [y]).map fun y => y.1) = frs e (keysT T) (pre.map fun y => y.1) := by rw [List.map_append]; exact HSN.out
              rw [e1]
              exact H1.out.keeps0 ((Keeps.refl _ _).alloc _)
            · have kal := (Keeps.refl (fun _ => False) W).alloc (.cells #[.int .u32 0, .int .i64 0] 162)
              have hm2 : y.1.to ∉ keysT (T ++ frs e (keysT T) (pre.map fun y => y.1)) := by rw [keysT_append]; exact hm
              have hlk := ((h1.map).run_lookup_miss (P := Try.prog) Try.underlying163 Try.underlying75 (z := .agg #[.int .u32 0, .int .i64 0]) (by simp [Try.zeroValue162]) (parL_miss hm2)).1
              obtain ⟨W1, hrunU, hI1, hK1⟩ := ((h1.map.alloc (.cells #[.int .u32 0, .int .i64 0] 162))).run_update_new (P := Try.prog) Try.underlying163 Try.underlying75 (parL_miss hm2) (.agg #[.int .u32 (e.to : Int), .int .i64 (y.1.op : Int)])
              have hS1 := (h1.keeps0 kal).see (e := e.of y.1) hI1 hK1
              have hb2 := box_not_map h1.map h1.x1
              have hbx2 : Bx ≠ b2 := by rintro rfl; obtain ⟨es, c, hb, _⟩ := h1.map; rw [hBx] at hb; cases hb
              have hbs2 : W4.heap.size + 1 ≠ b2 := by rintro rfl; obtain ⟨es, c, hb, _⟩ := h1.map; rw [h3] at hb; cases hb
              have hb92 : b9 ≠ b2 := by rintro rfl; obtain ⟨es, c, hb, _⟩ := h1.map; rw [h4] at hb; cases hb
              have z1c := hS1.x1.cell
              have z1f := hS1.x1.frozen
              have z3c := hS1.x3.cell
              have y2' : W1.cell? ⟨Bx, 2, none⟩ = some (.int .u32 (y.1.to : Int)) := hK1.cell (kal.cell y2 (fun h => h)) hbx2
              have zs := hS1.x1.lt
              have zb := lt_of_heap (hK1.heap (kal.heap hBx (fun h => h)) hbx2)
              rw [if_neg hm] at hsn
              have hfl : (keysT (frs e (keysT T) (pre.map fun y => y.1))).length ≤ 40 := by
                rw [frs_keys]
                have e1 := freshs_le (seen := keysT T) (xs := (pre.map fun y => y.1).map Stp.to)
                rw [List.length_map, List.length_map] at e1
                have := HWL.out; omega
              obtain ⟨sk, hsk⟩ : ∃ sk, q' ++ keysT (frs e (keysT T) (pre.map fun y => y.1)) = sk := ⟨_, rfl⟩
              have hlen : sk.length ≤ 2040 := by
                have := HQL.out; have := HTF.out
                rw [← hsk, List.length_append]; omega
              rw [hsk] at hS1
              have HSK := Lib.hid hsk
              clear hsk
              have hlowW : w.heap.size ≤ W1.heap.size := hS1.keep.size
              have HROW := Lib.hid (hS1.line.keeps ((Keeps.refl (fun _ => False) W1).alloc (.cells #[.int .u32 (y.1.to : Int)] 75)) (fun _ _ h => h))
              have H1 := Lib.hid h1; have H2 := Lib.hid h2; have H3 := Lib.hid h3; have H4 := Lib.hid h4; have H5 := Lib.hid h5; have H6 := Lib.hid h6; have HSN := Lib.hid hsn; have HS1 := Lib.hid hS1; have HK1 := Lib.hid hK1; have HNB := Lib.hid hbs2; have HN9 := Lib.hid hb92; have HI1 := Lib.hid hI1
              clear h1 h2 h3 h4 h5 h6 hsn hm hm2 hnd hBx hS1 hK1 hI1 kal hb2 hbx2 hbs2 hb92 hfl
              gi_wp2_with (gi_at_builtin; refine wpListIn_append_tail _ rfl (.tmp 57) (.tmp 60) 72 rfl w.heap.size 75 i0 _ 4 Try.underlying72 hi0 hz0 hz1 hz2 rfl vl (sk.map encW) rfl HROW.out ⟨W1.heap.size, 0, none⟩ 1 (.int .u32 (y.1.to : Int)) rfl ?_ rfl sk.length (by simp) (by unfold maxLen; omega) (by omega) (by simp; omega) (W1.heap.size + 1) (by simp) ?_)
              · exact (Boxed.new W1 _ _).cell
              intro g4 off4 cap4 W2' hown2 hgrow2 hat2 hlt2
              have hbx1 : W2'.heap[b1]? = some (.cells #[vl] 72 (0, 0)) := ((Keeps.refl (fun b => vl.ownBlock = some b) _).grown hgrow2 (fun k hk => .inl hk)).heap (((Keeps.refl (fun _ => False) W1).alloc _).heap HS1.out.x1 (fun h => h)) HS1.out.row1
              have v1c : W2'.cell? ⟨b1, 0, none⟩ = some vl := (cell_of_blk hbx1).trans rfl
              have v1f : W2'.frozen? ⟨b1, 0, none⟩ = false := frozen_of_blk hbx1
              have v1l := lt_of_heap hbx1
              have HP2 := Lib.hid (HS1.out.push (x := y.1.to) hown2 hgrow2 hat2)
              have HX1 := Lib.hid hbx1
              have HG2 := Lib.hid hgrow2
              have HAT2 := Lib.hid hat2
              clear hown2 hgrow2 hat2 hlt2 hbx1
              gi_wp2
              have hk : Keeps (fun b => b = b2 ∨ b = b1 ∨ vl.ownBlock = some b) W (W2'.setCell ⟨b1, 0, none⟩ (.slice (some ⟨g4, off4, none⟩) (sk.length + 1) cap4)) := by
                have q1 : Keeps (fun b => b = b2 ∨ b = b1 ∨ vl.ownBlock = some b) W W1 := (((Keeps.refl (fun _ => False) W).alloc (.cells #[.int .u32 0, .int .i64 0] 162)).mono (fun _ _ h => h.elim)).trans (HK1.out.mono (fun _ _ h => .inl h))
                have q2 : Keeps (fun b => b = b2 ∨ b = b1 ∨ vl.ownBlock = some b) W1 W2' := (((Keeps.refl (fun _ => False) W1).alloc (.cells #[.int .u32 (y.1.to : Int)] 75)).mono (fun _ _ h => h.elim)).trans (((Keeps.refl (fun b => vl.ownBlock = some b) _).grown HG2.out (fun k hk => .inl hk)).mono (fun _ _ h => .inr (.inr h)))
                exact (q1.trans q2).trans ((Keeps.refl _ W2').setCell (p := ⟨b1, 0, none⟩) (.inl (.inr (.inl rfl))) _)
              have hS : ∀ b, b = b2 ∨ b = b1 ∨ vl.ownBlock = some b → w.heap.size ≤ b ∧ b < W6.heap.size + W.heap.size ∧ b ≠ W4.heap.size + 1 ∧ b ≠ b9 ∧ W.heap[b]? ≠ some (.deferred (some [])) ∧ (b = b2 ∨ ∃ cs t fr, W.heap[b]? = some (.cells cs t fr)) := by
                rintro b (rfl | rfl | hb)
                · exact ⟨H1.out.l2, by have := H1.out.map.lt; omega, fun e => HNB.out e.symm, fun e => HN9.out e.symm, map_not_deferred H1.out.map, .inl rfl⟩
                · refine ⟨H1.out.l1, by have := H1.out.x1.lt; omega, ?_, ?_, cells_not_deferred H1.out.x1, .inr ⟨_, _, _, H1.out.x1⟩⟩
                  · intro e'
                    have h := (show W.heap[b]? = _ from H1.out.x1)
                    rw [e', H3.out] at h
                    simp at h
                  · intro e'
                    have h := (show W.heap[b]? = _ from H1.out.x1)
                    rw [e', H4.out] at h
                    simp at h
                · obtain ⟨cur, hcur⟩ := H1.out.line.block b hb
                  exact ⟨(H1.out.line.lt b hb).1, by have := (H1.out.line.lt b hb).2; omega, H5.out b hb, H6.out b hb, H1.out.line.not_deferred b hb, .inr ⟨_, _, _, hcur⟩⟩
              refine ⟨⟨hk.size, fun k o hB hk0 hc => ?_⟩, KpS.ofKeeps hk H1.out.keep.size (fun k hlt hs => by have := (hS k hs).1; omega) (lt_of_heap H3.out) (fun hs => (hS _ hs).2.2.1 rfl), ⟨.slice (some ⟨g4, off4, none⟩) (sk.length + 1) cap4, ?_, H2.out.keeps (KeepsD.of hk (fun b hs => (hS b hs).2.2.2.2.1)), hk.heap H3.out (fun hs => (hS _ hs).2.2.1 rfl), hk.heap H4.out (fun hs => (hS _ hs).2.2.2.1 rfl), ?_, ?_⟩⟩
              · refine hk.heap hk0 (fun hs => ?_)
                rcases (hS k hs).2.2.2.2.2 with rfl | ⟨cs, t, fr, e'⟩
                · omega
                · rw [e'] at hk0; cases hk0; cases hc
              · have e1 : frs e (keysT T) ((pre ++ [y]).map fun y => y.1) = frs e (keysT T) (pre.map fun y => y.1) ++ [e.of y.1] := by rw [List.map_append]; exact HSN.out
                rw [e1, keysT_append, ← List.append_assoc, ← List.append_assoc, HSK.out]
                exact HP2.out
              · intro k hk' e'
                simp [Value.ownBlock] at hk'
                subst hk'
                rcases HAT2.out with e2 | e2
                · exact H5.out g4 e2 e'
                · have := lt_of_heap H3.out; have := HK1.out.size; simp at this; omega
              · intro k hk' e'
                simp [Value.ownBlock] at hk'
                subst hk'
                rcases HAT2.out with e2 | e2
                · exact H6.out g4 e2 e'
                · have := lt_of_heap H4.out; have := HK1.out.size; simp at this; omega
          · rintro D ys W hD hys ⟨vl, h1, h2, h3, h4, h5, h6⟩ hd
            have hys' : (ys.map fun y => y.1) = wsteps ops e.to := hys
            rw [hys', ← HNX.out] at h1
            have HM7 := Lib.hid (HM6.out.cons h2 hD (by omega) hd)
            have H1 := Lib.hid h1
            have hle : i + 1 ≤ (tree ops st (i + 1)).length := by
              rw [HNX.out, List.length_append]; have := HIT.out; omega
            have HLE := Lib.hid hle
            have HQ2 := Lib.hid (show q' ++ keysT (frs e (keysT T) (wsteps ops e.to)) = (keysT (tree ops st (i + 1))).drop (i + 1) by
              rw [HNX.out, keysT_append, List.drop_append_of_le_length (by rw [keysT_length]; exact HIT.out), HQQ.out])
            have HNO2 := Lib.hid (show ∀ (j : Nat) f, j < i + 1 → (tree ops st (i + 1))[j]? = some f → acc f.to = false by
              intro j f hj hf
              rw [HNX.out, List.getElem?_append_left (by have := HIT.out; omega)] at hf
              by_cases hji : j < i
              · exact HNO.out j f hji hf
              · have : j = i := by omega
                subst this
                rw [HTI.out] at hf; cases hf; exact hacc)
            have HMEA := Lib.hid (show l.length + 1 - (mapLen W b2 - boxLen W b1) < l.length + 1 - (mapLen wr b2 - boxLen wr b1) by
              obtain ⟨c1, c2⟩ := H1.out.count
              obtain ⟨c3, c4⟩ := HCO.out
              have hq1 := congrArg List.length HQ2.out
              rw [List.length_drop, keysT_length] at hq1
              have hq2 := HQL.out
              have hq3 := HTL.out
              have hq4 := HIT.out
              have hq5 := HLE.out
              rw [c1, c2, c3, c4, List.length_cons, hq1]
              omega)
            clear h1 h2 h3 h4 h5 h6 hd hys hys' hle
            gi_wp2
            exact ⟨⟨mark D :: ds, _, _, _, _, _, _, _, _, _, _, _, _, _, _, _, _, _, _, _, _, _, _, _, _, _, _, _, _, _, _, _, _, _, _, _, _, _, _, _, _, _, _, _, _, _, _, _, _, _, _, _, _, _, i + 1, _, vl, ⟨H1.out, HQ2.out, HNO2.out, HM7.out⟩, HLE.out, rfl⟩, HMEA.out⟩
          · exact fun _ _ _ _ _ _ h _ => h.elim

theorem first_any (w : World) (b st g0 base : Nat) (v : Value) (ops : List Wop) (hw : WordsAt w base b st g0 v ops) (hops : WopsOk ops) (hmany : ops.length ≤ 40) (hst : st < 4294967296) (l : List Nat) (hl : reached ops st = some l)
    (ga : Nat) (pa cb : Array Value) (acc : Nat → Bool) (hask : Asked w ga pa cb acc) :
    Calls Try.prog 69 #[.iface 71 (.pointer (some ⟨b, 0, none⟩)), .func (.func ga) pa cb] w (FirstPost ops st acc w) := callsIn_wide.1 (first_in w b st g0 base v ops hw hops hmany hst l hl ga pa cb acc hask)

end Go.Proofs.Ytdonadeodioplaa

namespace Go.Proofs.Ytdonadeodioplaa

theorem PriOk.walk {A : List Arc} {wt : Arc → Int} {n s : Nat} {d : List Int} (h : PriOk A wt n s d) (hA : ∀ a ∈ A, 0 ≤ wt a) {i : Nat} {c : Int} (hw : WalkA A wt s i c) : 0 ≤ c ∧ ∃ x, d[i]? = some x ∧ 0 ≤ x ∧ x ≤ c := by
  induction hw with
  | nil => exact ⟨Int.le_refl _, 0, h.start, Int.le_refl _, Int.le_refl _⟩
  | snoc _ ha ih =>
    obtain ⟨h0, x, hx, hx0, hxc⟩ := ih
    have hc := hA _ ha
    obtain ⟨y, hy, hy0, hyx⟩ := h.relax _ ha x hx hx0
    exact ⟨by omega, y, hy, hy0, by omega⟩

theorem PriOk.le {A : List Arc} {wt : Arc → Int} {n s : Nat} {d d' : List Int} (h : PriOk A wt n s d) (h' : PriOk A wt n s d') (hA : ∀ a ∈ A, 0 ≤ wt a) (i : Nat) (x y : Int) (hx : d[i]? = some x) (hy : d'[i]? = some y) (h0 : 0 ≤ y) : 0 ≤ x ∧ x ≤ y := by
  obtain ⟨_, x', hx', h1, h2⟩ := h.walk hA (h'.real i y hy h0)
  rw [hx] at hx'; cases hx'
  exact ⟨h1, h2⟩

theorem PriOk.unique {A : List Arc} {wt : Arc → Int} {n s : Nat} {d d' : List Int} (h : PriOk A wt n s d) (h' : PriOk A wt n s d') (hA : ∀ a ∈ A, 0 ≤ wt a) : d = d' := by
  apply List.ext_getElem?
  intro i
  cases hx : d[i]? with
  | none =>
    rw [List.getElem?_eq_none_iff] at hx
    symm; rw [List.getElem?_eq_none_iff, h'.len, ← h.len]; exact hx
  | some x =>
    have hl := (List.getElem?_eq_some_iff.1 hx).1
    have hl' : i < d'.length := by rw [h'.len, ← h.len]; exact hl
    obtain ⟨y, hy⟩ : ∃ y, d'[i]? = some y := ⟨_, List.getElem?_eq_getElem hl'⟩
    have hxl := h.lo x (List.mem_of_getElem? hx)
    have hyl := h'.lo y (List.mem_of_getElem? hy)
    rw [hy]
    congr 1
    by_cases h0 : 0 ≤ y
    · have h1 := h.le h' hA i x y hx hy h0
      have h2 := h'.le h hA i y x hy hx h1.1
      omega
    · by_cases h1 : 0 ≤ x
      · have := h'.le h hA i y x hy hx h1; omega
      · omega

/-! ### depths -/
/-- Where all has been taken, all that can be reached lies in the tree. -/
theorem TreeOk.all {ops : List Wop} {s i : Nat} {T : List Ent} (h : TreeOk ops s i T) (hi : T.length ≤ i) {x : Nat} (hr : Reach ops s x) : ∃ e ∈ T, e.to = x := by
  induction hr with
  | refl => exact ⟨_, List.mem_of_getElem? h.head, rfl⟩
  | step _ hy ih =>
    obtain ⟨e, he, rfl⟩ := ih
    obtain ⟨j, hj⟩ := List.mem_iff_getElem?.1 he
    have hjl := (List.getElem?_eq_some_iff.1 hj).1
    rw [← wsteps_nexts] at hy
    obtain ⟨x, hx, rfl⟩ := List.mem_map.1 hy
    obtain ⟨f, hf, h1, _⟩ := h.closed j e (by omega) hj x hx
    exact ⟨f, hf, h1⟩

end Go.Proofs.Ytdonadeodioplaa

namespace Go.Proofs.Ytdonadeodioplaa
open Go.RowKit Go.Shelf

theorem ex_fnD {p : (Nat → Value) → Act} {a : Act} (h : a = p (fun k => a.tmps.getD k undef)) : ∃ u, a = p u := ⟨_, h⟩

section
variable {w0 : World} {b1 b2 b3 : Nat} {T : List Ent} {q : List Nat} {vl : Value} {W : World}
end

end Go.Proofs.Ytdonadeodioplaa

namespace Go.Proofs.Ytdonadeodioplaa.U
open Go.RowKit

structure Ent where
  blk : Nat
  item : Int
  key : Int
  time : Int

def Ent.ptr (e : Ent) : Value := .pointer (some ⟨e.blk, 0, none⟩)

def lessE (a b : Ent) : Bool := decide (a.key < b.key) || (a.key == b.key && decide (a.time < b.time))

/-- The slice v of entries reads as L in w. -/
structure HRep (w : World) (v : Value) (L : List Ent) : Prop where
  row : w.ownsRow 0 176 1 v L.length (L.map Ent.ptr)
  ent : ∀ (i : Nat) (e : Ent), L[i]? = some e → w.heap[e.blk]? = some (.cells #[.int .u32 e.item, .int .i64 e.key, .int .i64 e.time, .int .i64 (i : Int)] 179 (0, 0))
  small : L.length ≤ 1000000

theorem HRep.form {w : World} {v : Value} {L : List Ent} (h : HRep w v L) (hn : 0 < L.length) :
    ∃ H cap cur, v = .slice (some ⟨H, 0, none⟩) L.length cap ∧ w.heap[H]? = some (.cells cur 176 (0, 0)) ∧ cur.size = cap ∧ L.length ≤ cap ∧ ∀ (i : Nat) (e : Ent), L[i]? = some e → cur[i]? = some e.ptr := by
  rcases h.row.2 with ⟨_, h0⟩ | ⟨g, cap, cur, hv, _, hg, hn, hm, hs, ht⟩
  · omega
  · refine ⟨g, cap, cur, hv, hg, by omega, hn, fun i e he => ?_⟩
    have hi : i < L.length := (List.getElem?_eq_some_iff.1 he).1
    have : (cur.toList.take (L.length * 1))[i]? = some e.ptr := by rw [ht, List.getElem?_map, he]; rfl
    rw [List.getElem?_take, if_pos (by omega)] at this
    simpa using this

theorem HRep.cell {w : World} {v : Value} {L : List Ent} (h : HRep w v L) {H cap : Nat} (hv : v = .slice (some ⟨H, 0, none⟩) L.length cap) {i : Nat} {e : Ent} (hi : L[i]? = some e) :
    w.cell? ⟨H, i, none⟩ = some (.pointer (some ⟨e.blk, 0, none⟩)) := by
  have hl : i < L.length := (List.getElem?_eq_some_iff.1 hi).1
  obtain ⟨H', cap', cur, hv', hb, hs, hc, hcur⟩ := h.form (by omega)
  rw [hv] at hv'
  simp only [Value.slice.injEq, Option.some.injEq, Addr.mk.injEq] at hv'
  obtain ⟨⟨rfl, _⟩, _⟩ := hv'
  rw [cell_of_blk hb, hcur i e hi]; rfl

theorem HRep.e0 {w : World} {v : Value} {L : List Ent} (h : HRep w v L) {i : Nat} {e : Ent} (hi : L[i]? = some e) : w.cell? ⟨e.blk, 0, none⟩ = some (.int .u32 e.item) := by rw [cell_of_blk (h.ent i e hi)]; rfl
theorem HRep.e1 {w : World} {v : Value} {L : List Ent} (h : HRep w v L) {i : Nat} {e : Ent} (hi : L[i]? = some e) : w.cell? ⟨e.blk, 1, none⟩ = some (.int .i64 e.key) := by rw [cell_of_blk (h.ent i e hi)]; rfl
theorem HRep.e2 {w : World} {v : Value} {L : List Ent} (h : HRep w v L) {i : Nat} {e : Ent} (hi : L[i]? = some e) : w.cell? ⟨e.blk, 2, none⟩ = some (.int .i64 e.time) := by rw [cell_of_blk (h.ent i e hi)]; rfl
theorem HRep.e3 {w : World} {v : Value} {L : List Ent} (h : HRep w v L) {i : Nat} {e : Ent} (hi : L[i]? = some e) : w.cell? ⟨e.blk, 3, none⟩ = some (.int .i64 (i : Int)) := by rw [cell_of_blk (h.ent i e hi)]; rfl

set_option maxRecDepth 100000 in
set_option maxHeartbeats 1000000 in
theorem less_any (w : World) (v : Value) (L : List Ent) (h : HRep w v L) (i k : Nat) (ei ek : Ent) (hi : L[i]? = some ei) (hk : L[k]? = some ek) :
    Calls Try.prog 175 #[v, .int .i64 (i : Int), .int .i64 (k : Int)] w fun e w' => e = .returned (.bool (lessE ei ek)) ∧ ∃ n, w' = w.drewN n := by
  have li : i < L.length := (List.getElem?_eq_some_iff.1 hi).1
  have lk : k < L.length := (List.getElem?_eq_some_iff.1 hk).1
  have hsm := h.small
  obtain ⟨H, cap, cur, hv, -, -, -, -⟩ := h.form (by omega)
  have ci := h.cell hv hi
  have ck := h.cell hv hk
  have ci1 := h.e1 hi
  have ck1 := h.e1 hk
  have ci2 := h.e2 hi
  have ck2 := h.e2 hk
  subst hv
  clear h hi hk
  have i0 : (0 : Int) ≤ (i : Int) := by omega
  have k0 : (0 : Int) ≤ (k : Int) := by omega
  have il : (i : Int) < (L.length : Int) := by omega
  have kl : (k : Int) < (L.length : Int) := by omega
  by_cases h1 : ei.key < ek.key
  · have hr : lessE ei ek = true := by simp [lessE, h1]
    have HR := Lib.hid hr; clear hr
    have h1' : decide (ei.key < ek.key) = true := by simpa using h1
    go_enter Try.func175, Try.ntmps175
    go_wp2
    go_quiet (fail)
    go_wp2
    go_ret
    exact ⟨congrArg (fun b => Ending.returned (Value.bool b)) HR.out.symm, nq, rfl⟩
  · by_cases h2 : ei.key = ek.key
    · have hr : lessE ei ek = decide (ei.time < ek.time) := by simp [lessE, h2]
      have HR := Lib.hid hr; clear hr
      have h1' : decide (ei.key < ek.key) = false := by simpa using h1
      have h2' : (ei.key == ek.key) = true := by simpa using h2
      have H2 := Lib.hid h2; clear h2
      go_enter Try.func175, Try.ntmps175
      go_wp2
      go_quiet (fail)
      go_wp2
      go_ret
      exact ⟨congrArg (fun b => Ending.returned (Value.bool b)) HR.out.symm, nq, rfl⟩
    · have hr : lessE ei ek = false := by simp [lessE, h1, h2]
      have HR := Lib.hid hr; clear hr
      have h1' : decide (ei.key < ek.key) = false := by simpa using h1
      have h2' : (ei.key == ek.key) = false := by simpa using h2
      go_enter Try.func175, Try.ntmps175
      go_wp2
      go_quiet (fail)
      go_wp2
      go_ret
      exact ⟨congrArg (fun b => Ending.returned (Value.bool b)) HR.out.symm, nq, rfl⟩

/-! ### Swap -/
def swp (L : List Ent) (i k : Nat) : List Ent :=
  match L[i]?, L[k]? with
  | some a, some b => (L.set i b).set k a
  | _, _ => L

theorem swp_eq {L : List Ent} {i k : Nat} {a b : Ent} (hi : L[i]? = some a) (hk : L[k]? = some b) : swp L i k = (L.set i b).set k a := by simp [swp, hi, hk]

theorem length_swp (L : List Ent) (i k : Nat) : (swp L i k).length = L.length := by
  unfold swp; split <;> simp

theorem get_swp {L : List Ent} {i k : Nat} {a b : Ent} (hi : L[i]? = some a) (hk : L[k]? = some b) (j : Nat) :
    (swp L i k)[j]? = if j = k then some a else if j = i then some b else L[j]? := by
  have li : i < L.length := (List.getElem?_eq_some_iff.1 hi).1
  have lk : k < L.length := (List.getElem?_eq_some_iff.1 hk).1
  rw [swp_eq hi hk, List.getElem?_set]
  by_cases h : k = j
  · subst h; simp [lk]
  · rw [if_neg h, if_neg (fun e => h e.symm), List.getElem?_set]
    by_cases h' : i = j
    · subst h'; simp [li]
    · rw [if_neg h', if_neg (fun e => h' e.symm)]

theorem swp_self {L : List Ent} {i : Nat} {a : Ent} (hi : L[i]? = some a) : swp L i i = L := by
  apply List.ext_getElem?
  intro j
  rw [get_swp hi hi]
  by_cases h : j = i
  · subst h; simp [hi]
  · simp [h]

def hfoot (v : Value) (L : List Ent) (b : Nat) : Prop := v.ownBlock = some b ∨ ∃ e ∈ L, e.blk = b

theorem mem_swp {L : List Ent} {i k : Nat} {e : Ent} : e ∈ swp L i k → e ∈ L := by
  intro h
  cases hi : L[i]? with
  | none => simpa [swp, hi] using h
  | some a =>
    cases hk : L[k]? with
    | none => simpa [swp, hi, hk] using h
    | some b =>
      obtain ⟨j, hj⟩ := List.mem_iff_getElem?.1 h
      rw [get_swp hi hk] at hj
      split at hj
      · exact (Option.some.inj hj) ▸ List.mem_of_getElem? hi
      · split at hj
        · exact (Option.some.inj hj) ▸ List.mem_of_getElem? hk
        · exact List.mem_of_getElem? hj

theorem HRep.inj {w : World} {v : Value} {L : List Ent} (h : HRep w v L) {i k : Nat} {a b : Ent} (hi : L[i]? = some a) (hk : L[k]? = some b) (e : a.blk = b.blk) : i = k := by
  have x := h.ent i a hi
  rw [e, h.ent k b hk] at x
  simp at x
  omega

theorem HRep.ne_row {w : World} {v : Value} {L : List Ent} (h : HRep w v L) {i : Nat} {a : Ent} (hi : L[i]? = some a) {g : Nat} (hg : v.ownBlock = some g) : a.blk ≠ g := by
  have hl : i < L.length := (List.getElem?_eq_some_iff.1 hi).1
  obtain ⟨H, cap, cur, hv, hb, _⟩ := h.form (by omega)
  rw [hv] at hg
  obtain rfl : H = g := by simpa [Value.ownBlock] using hg
  rintro rfl
  rw [h.ent i a hi] at hb
  simp at hb

theorem HRep.lt {w : World} {v : Value} {L : List Ent} (h : HRep w v L) {b : Nat} (hb : hfoot v L b) : b < w.heap.size := by
  rcases hb with hb | ⟨e, he, rfl⟩
  · exact (h.row.lt b hb).2
  · obtain ⟨j, hj⟩ := List.mem_iff_getElem?.1 he
    exact lt_of_heap (h.ent j e hj)

theorem HRep.keeps {S : Nat → Prop} {w w' : World} {v : Value} {L : List Ent} (h : HRep w v L) (hk : Keeps S w w') (hs : ∀ b, hfoot v L b → ¬ S b) : HRep w' v L :=
  ⟨hk.ownsRow h.row (fun b hb => hs b (.inl hb)), fun i e hi => hk.heap (h.ent i e hi) (hs _ (.inr ⟨e, List.mem_of_getElem? hi, rfl⟩)), h.small⟩

theorem HRep.drewN {w : World} {v : Value} {L : List Ent} (h : HRep w v L) (n : Nat) : HRep (w.drewN n) v L := ⟨h.row, h.ent, h.small⟩

structure SwapPost (w : World) (v : Value) (L : List Ent) (i k : Nat) (w' : World) : Prop where
  rep : HRep w' v (swp L i k)
  keeps : Keeps (hfoot v L) w w'

theorem swap_post {w : World} {H n cap : Nat} {L : List Ent} (h : HRep w (.slice (some ⟨H, 0, none⟩) n cap) L) {i k : Nat} {ei ek : Ent} (hi : L[i]? = some ei) (hk : L[k]? = some ek) (hne : i ≠ k) :
    SwapPost w (.slice (some ⟨H, 0, none⟩) n cap) L i k
      ((((w.setCell ⟨H, i, none⟩ (.pointer (some ⟨ek.blk, 0, none⟩))).setCell ⟨H, k, none⟩ (.pointer (some ⟨ei.blk, 0, none⟩))).setCell ⟨ek.blk, 3, none⟩ (.int .i64 (i : Int))).setCell ⟨ei.blk, 3, none⟩ (.int .i64 (k : Int))).drew.drew := by
  have li : i < L.length := (List.getElem?_eq_some_iff.1 hi).1
  have lk : k < L.length := (List.getElem?_eq_some_iff.1 hk).1
  have nH : ∀ (j : Nat) (e : Ent), L[j]? = some e → e.blk ≠ H := fun j e hj => h.ne_row hj rfl
  have hn : n = L.length := by
    have := h.row.2
    rcases this with ⟨hv, _⟩ | ⟨_, _, _, hv, _⟩ <;> simp at hv
    omega
  subst hn
  refine ⟨⟨?_, ?_, ?_⟩, ?_⟩
  · have r1 := h.row.stored i (.pointer (some ⟨ek.blk, 0, none⟩))
    have r2 := r1.1.stored k (.pointer (some ⟨ei.blk, 0, none⟩))
    have r3 : ((((w.setCell ⟨H, i, none⟩ (.pointer (some ⟨ek.blk, 0, none⟩))).setCell ⟨H, k, none⟩ (.pointer (some ⟨ei.blk, 0, none⟩))).setCell ⟨ek.blk, 3, none⟩ (.int .i64 (i : Int))).setCell ⟨ei.blk, 3, none⟩ (.int .i64 (k : Int))).ownsRow
        0 176 1 (.slice (some ⟨H, 0, none⟩) L.length cap) L.length (((L.map Ent.ptr).set i (.pointer (some ⟨ek.blk, 0, none⟩))).set k (.pointer (some ⟨ei.blk, 0, none⟩))) := by
      refine Keeps.ownsRow (S := fun b => b ≠ H) ?_ r2.1 ?_
      · exact ((Keeps.refl _ _).setCell (.inl (nH k ek hk)) _).setCell (.inl (nH i ei hi)) _
      · intro g hg; simp [Value.ownBlock] at hg; simp [hg]
    have e1 : (swp L i k).map Ent.ptr = ((L.map Ent.ptr).set i (.pointer (some ⟨ek.blk, 0, none⟩))).set k (.pointer (some ⟨ei.blk, 0, none⟩)) := by
      rw [swp_eq hi hk, List.map_set, List.map_set]; rfl
    rw [e1, length_swp]
    exact r3
  · intro j e hj
    rw [get_swp hi hk] at hj
    simp only [heap_drew]
    by_cases hjk : j = k
    · subst hjk
      rw [if_pos rfl] at hj
      obtain rfl := Option.some.inj hj
      have hx : (((w.setCell ⟨H, i, none⟩ (.pointer (some ⟨ek.blk, 0, none⟩))).setCell ⟨H, j, none⟩ (.pointer (some ⟨ei.blk, 0, none⟩))).setCell ⟨ek.blk, 3, none⟩ (.int .i64 (i : Int))).heap[ei.blk]? = some (.cells #[.int .u32 ei.item, .int .i64 ei.key, .int .i64 ei.time, .int .i64 (i : Int)] 179 (0, 0)) := by
        rw [blk_set_ne (fun e => hne (h.inj hi hk e)), blk_set_ne (nH i ei hi), blk_set_ne (nH i ei hi)]
        exact h.ent i ei hi
      rw [blk_set_same hx]; rfl
    · rw [if_neg hjk] at hj
      by_cases hji : j = i
      · subst hji
        rw [if_pos rfl] at hj
        obtain rfl := Option.some.inj hj
        have hx : ((w.setCell ⟨H, j, none⟩ (.pointer (some ⟨ek.blk, 0, none⟩))).setCell ⟨H, k, none⟩ (.pointer (some ⟨ei.blk, 0, none⟩))).heap[ek.blk]? = some (.cells #[.int .u32 ek.item, .int .i64 ek.key, .int .i64 ek.time, .int .i64 (k : Int)] 179 (0, 0)) := by
          rw [blk_set_ne (nH k ek hk), blk_set_ne (nH k ek hk)]
          exact h.ent k ek hk
        rw [blk_set_ne (fun e => hne (h.inj hi hk e.symm)), blk_set_same hx]; rfl
      · rw [if_neg hji] at hj
        rw [blk_set_ne (fun e => hji (h.inj hj hi e)), blk_set_ne (fun e => hjk (h.inj hj hk e)), blk_set_ne (nH j e hj), blk_set_ne (nH j e hj)]
        exact h.ent j e hj
  · rw [length_swp]; exact h.small
  · refine (((((Keeps.refl _ _).setCell (.inl ?_) _).setCell (.inl ?_) _).setCell (.inl ?_) _).setCell (.inl ?_) _).drew.drew
    · exact .inl rfl
    · exact .inl rfl
    · exact .inr ⟨ek, List.mem_of_getElem? hk, rfl⟩
    · exact .inr ⟨ei, List.mem_of_getElem? hi, rfl⟩

set_option maxRecDepth 100000 in
set_option maxHeartbeats 1000000 in
theorem swap_ne (w : World) (v : Value) (L : List Ent) (h : HRep w v L) (i k : Nat) (ei ek : Ent) (hi : L[i]? = some ei) (hk : L[k]? = some ek) (hne : i ≠ k) :
    Calls Try.prog 176 #[v, .int .i64 (i : Int), .int .i64 (k : Int)] w fun e w' => e = .returned (.tuple #[]) ∧ SwapPost w v L i k w' := by
  have li : i < L.length := (List.getElem?_eq_some_iff.1 hi).1
  have lk : k < L.length := (List.getElem?_eq_some_iff.1 hk).1
  have hsm := h.small
  obtain ⟨H, cap, cur, hv, hH, -, -, -⟩ := h.form (by omega)
  have ci := h.cell hv hi
  have ck := h.cell hv hk
  have ci3 := h.e3 hi
  have ck3 := h.e3 hk
  have fi : w.frozen? ⟨H, i, none⟩ = false := frozen_of_blk hH
  have fk : w.frozen? ⟨H, k, none⟩ = false := frozen_of_blk hH
  have fi3 : w.frozen? ⟨ei.blk, 3, none⟩ = false := frozen_of_blk (h.ent i ei hi)
  have fk3 : w.frozen? ⟨ek.blk, 3, none⟩ = false := frozen_of_blk (h.ent k ek hk)
  have n1 : ¬ H = ei.blk := by rintro rfl; rw [h.ent i ei hi] at hH; simp at hH
  have n2 : ¬ H = ek.blk := by rintro rfl; rw [h.ent k ek hk] at hH; simp at hH
  have n3 : ¬ ei.blk = ek.blk := fun e => hne (h.inj hi hk e)
  subst hv
  have HP := Lib.hid (swap_post h hi hk hne)
  clear h hi hk hH
  have i0 : (0 : Int) ≤ (i : Int) := by omega
  have k0 : (0 : Int) ≤ (k : Int) := by omega
  have il : (i : Int) < (L.length : Int) := by omega
  have kl : (k : Int) < (L.length : Int) := by omega
  have hne' : ¬ k = i := fun e => hne e.symm
  have n1' : ¬ ei.blk = H := fun e => n1 e.symm
  have n2' : ¬ ek.blk = H := fun e => n2 e.symm
  have n3' : ¬ ek.blk = ei.blk := fun e => n3 e.symm
  go_enter Try.func176, Try.ntmps176
  go_wp2
  go_region
  go_wp2
  go_region
  go_end0
  exact ⟨rfl, HP.out⟩

set_option maxRecDepth 100000 in
set_option maxHeartbeats 1000000 in
theorem swap_eq (w : World) (v : Value) (L : List Ent) (h : HRep w v L) (i : Nat) (ei : Ent) (hi : L[i]? = some ei) :
    Calls Try.prog 176 #[v, .int .i64 (i : Int), .int .i64 (i : Int)] w fun e w' => e = .returned (.tuple #[]) ∧ SwapPost w v L i i w' := by
  have li : i < L.length := (List.getElem?_eq_some_iff.1 hi).1
  have hsm := h.small
  obtain ⟨H, cap, cur, hv, hH, -, -, -⟩ := h.form (by omega)
  have ci := h.cell hv hi
  have ci3 := h.e3 hi
  have fi : w.frozen? ⟨H, i, none⟩ = false := frozen_of_blk hH
  have fi3 : w.frozen? ⟨ei.blk, 3, none⟩ = false := frozen_of_blk (h.ent i ei hi)
  have n1 : ¬ H = ei.blk := by rintro rfl; rw [h.ent i ei hi] at hH; simp at hH
  subst hv
  have HP : Hid (SwapPost w (.slice (some ⟨H, 0, none⟩) L.length cap) L i i ((((w.setCell ⟨H, i, none⟩ (.pointer (some ⟨ei.blk, 0, none⟩))).setCell ⟨H, i, none⟩ (.pointer (some ⟨ei.blk, 0, none⟩))).setCell ⟨ei.blk, 3, none⟩ (.int .i64 (i : Int))).setCell ⟨ei.blk, 3, none⟩ (.int .i64 (i : Int))).drew.drew) := by
    rw [setCell_id ci, setCell_id ci, setCell_id ci3, setCell_id ci3]
    exact ⟨by rw [swp_self hi]; exact h.drewN 2, (Keeps.refl _ _).drewN 2⟩
  have n1' : ¬ ei.blk = H := fun e => n1 e.symm
  have i0 : (0 : Int) ≤ (i : Int) := by omega
  have il : (i : Int) < (L.length : Int) := by omega
  clear h hi hH
  go_enter Try.func176, Try.ntmps176
  go_wp2
  go_region
  go_wp2
  go_region
  go_end0
  exact ⟨rfl, HP.out⟩

end Go.Proofs.Ytdonadeodioplaa.U
