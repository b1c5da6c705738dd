/- The reference's Prices. -/
import Derived.Test.YtcfcmmajlkkabaaShort
namespace Go.Proofs.Ytcfcmmajlkkabaa
open Go.RowKit

/-! ### plain -/
inductive WalkA (A : List Arc) (wt : Arc → Int) (s : Nat) : Nat → Int → Prop
  | nil : WalkA A wt s s 0
  | snoc {a : Arc} {c : Int} : WalkA A wt s a.frm c → a ∈ A → WalkA A wt s a.to (c + wt a)

def weightP (m : Int) (d : List Int) : Nat := (d.map fun x => if 0 ≤ x then x.toNat else m.toNat + 1).sum
theorem weightP_set {m : Int} {d : List Int} {i : Nat} {x z : Int} (hi : d[i]? = some x) (hz : 0 ≤ z) (hzn : z ≤ m) (hx : x < 0 ∨ z < x) : weightP m (d.set i z) < weightP m d := by
  induction d generalizing i with
  | nil => simp at hi
  | cons y r ih =>
    cases i with
    | zero =>
      simp at hi; subst hi
      unfold weightP
      simp only [List.set_cons_zero, List.map_cons, List.sum_cons]
      rw [if_pos hz]
      split <;> omega
    | succ i =>
      simp only [List.getElem?_cons_succ] at hi
      have := ih hi
      unfold weightP at this ⊢
      simp only [List.set_cons_succ, List.map_cons, List.sum_cons]
      omega

structure PriInv (A : List Arc) (wt : Arc → Int) (W : Int) (n s : Nat) (d : List Int) : Prop where
  len : d.length = n
  lo : ∀ x ∈ d, -1 ≤ x
  hi : ∀ x ∈ d, x ≤ (known d : Int) * W
  start : d[s]? = some 0
  real : ∀ (i : Nat) (x : Int), d[i]? = some x → 0 ≤ x → WalkA A wt s i x

def stableP (wt : Arc → Int) (d : List Int) (a : Arc) : Prop := ∀ x, d[a.frm]? = some x → 0 ≤ x → ∃ y, d[a.to]? = some y ∧ 0 ≤ y ∧ y ≤ x + wt a

theorem PriInv.step {A : List Arc} {wt : Arc → Int} {W : Int} {n s : Nat} {d : List Int} (h : PriInv A wt W n s d) {a : Arc} (ha : a ∈ A) (hw0 : 0 ≤ wt a) (hwW : wt a ≤ W) {x y : Int} (hx : d[a.frm]? = some x) (hy : d[a.to]? = some y) (hx0 : 0 ≤ x) (hxy : y < 0 ∨ x + wt a < y) :
    PriInv A wt W n s (d.set a.to (x + wt a)) ∧ weightP ((n : Int) * W) (d.set a.to (x + wt a)) < weightP ((n : Int) * W) d ∧ x + wt a ≤ (n : Int) * W := by
  have htl := (List.getElem?_eq_some_iff.1 hy).1
  have hz : (0 : Int) ≤ x + wt a := by omega
  have hkn := known_set hy hz
  have hxk := h.hi x (List.mem_of_getElem? hx)
  have hyk := h.hi y (List.mem_of_getElem? hy)
  have hkl := known_le (d.set a.to (x + wt a))
  rw [List.length_set, h.len] at hkl
  have hW0 : 0 ≤ W := by omega
  have hmono : ∀ {p q : Nat}, p ≤ q → (p : Int) * W ≤ (q : Int) * W := fun hpq => Int.mul_le_mul_of_nonneg_right (by omega) hW0
  have hkk : known d ≤ known (d.set a.to (x + wt a)) := by rw [hkn]; omega
  have hbnd : x + wt a ≤ (known (d.set a.to (x + wt a)) : Int) * W := by
    by_cases hy0 : 0 ≤ y
    · have := hmono hkk; omega
    · have e : known (d.set a.to (x + wt a)) = known d + 1 := by rw [hkn, if_neg hy0]
      rw [e]
      have : ((known d + 1 : Nat) : Int) * W = (known d : Int) * W + W := by rw [Int.natCast_add, Int.add_mul]; simp
      omega
  have hnW := hmono hkl
  refine ⟨⟨by rw [List.length_set]; exact h.len, fun z hz' => ?_, fun z hz' => ?_, ?_, fun i z hz' h0 => ?_⟩, weightP_set hy hz (by omega) hxy, by omega⟩
  · rcases List.mem_or_eq_of_mem_set hz' with hz' | rfl
    · exact h.lo z hz'
    · omega
  · rcases List.mem_or_eq_of_mem_set hz' with hz' | rfl
    · have := h.hi z hz'; have := hmono hkk; omega
    · exact hbnd
  · rw [getElem?_setS]
    by_cases hi : a.to = s
    · have h0 := h.start
      rw [← hi, hy] at h0
      simp only [Option.some.injEq] at h0
      omega
    · rw [if_neg (by simp [hi])]; exact h.start
  · rw [getElem?_setS] at hz'
    by_cases hi : a.to = i
    · subst hi
      rw [if_pos ⟨rfl, htl⟩] at hz'
      simp only [Option.some.injEq] at hz'
      rw [← hz']
      exact .snoc (h.real a.frm x hx hx0) ha
    · rw [if_neg (by simp [hi])] at hz'
      exact h.real i z hz' h0

theorem known_start (n s : Nat) (hs : s < n) : known ((List.replicate n (-1 : Int)).set s 0) = 1 := by
  have h := known_set (d := List.replicate n (-1 : Int)) (i := s) (x := -1) (z := 0) (by rw [List.getElem?_replicate, if_pos hs]) (by omega)
  rw [h, if_neg (by omega)]
  have : known (List.replicate n (-1 : Int)) = 0 := by
    unfold known; rw [List.filter_eq_nil_iff.2 (fun x hx => by rw [List.eq_of_mem_replicate hx]; decide)]; rfl
  omega
theorem PriInv.init (A : List Arc) (wt : Arc → Int) {W : Int} (hW : 0 ≤ W) {n s : Nat} (hs : s < n) : PriInv A wt W n s ((List.replicate n (-1 : Int)).set s 0) := by
  refine ⟨by simp, fun x hx => ?_, fun x hx => ?_, by rw [getElem?_setS, if_pos ⟨rfl, by simpa using hs⟩], fun i x hx h0 => ?_⟩
  · rcases List.mem_or_eq_of_mem_set hx with hx | rfl
    · rw [List.eq_of_mem_replicate hx]; omega
    · omega
  · rw [known_start n s hs]
    rcases List.mem_or_eq_of_mem_set hx with hx | rfl
    · rw [List.eq_of_mem_replicate hx]; omega
    · omega
  · rw [getElem?_setS] at hx
    by_cases hi : s = i
    · subst hi
      rw [if_pos ⟨rfl, by simpa using hs⟩] at hx
      simp only [Option.some.injEq] at hx
      rw [← hx]; exact .nil
    · rw [if_neg (by simp [hi]), List.getElem?_replicate] at hx
      split at hx
      · simp only [Option.some.injEq] at hx; omega
      · cases hx

structure PriOk (A : List Arc) (wt : Arc → Int) (n s : Nat) (d : List Int) : Prop where
  len : d.length = n
  lo : ∀ x ∈ d, -1 ≤ x
  start : d[s]? = some 0
  real : ∀ (i : Nat) (x : Int), d[i]? = some x → 0 ≤ x → WalkA A wt s i x
  relax : ∀ a ∈ A, stableP wt d a

/-! ### the walk -/
def PriHead (w : World) (A : List Arc) (wt : Arc → Int) (W : Int) (n s : Nat) (k : Nat) (v : Value) (wr : World) : Prop :=
  ∃ (d : List Int) (again : Bool), v = .bool again ∧ PriInv A wt W n s d ∧ DRow w n d wr ∧ (again = false → ∀ a ∈ A, stableP wt d a) ∧ k = 2 * weightP ((n : Int) * W) d + (if again = true then 1 else 0)
def PriMid (w : World) (A : List Arc) (wt : Arc → Int) (W : Int) (n s : Nat) (m : Nat) (i : Nat) (v : Value) (wr : World) : Prop :=
  ∃ (d : List Int) (again : Bool), v = .bool again ∧ PriInv A wt W n s d ∧ DRow w n d wr ∧ (again = false → ∀ a ∈ A.take i, stableP wt d a) ∧ weightP ((n : Int) * W) d ≤ m ∧ (again = true → weightP ((n : Int) * W) d < m)
def PricePost (w : World) (A : List Arc) (wt : Arc → Int) (n s : Nat) (e : Ending) (w' : World) : Prop :=
  ∃ v d, e = .returned v ∧ PriOk A wt n s d ∧ w'.ownsRow w.heap.size 3 1 v n (d.map (Value.int .i64)) ∧ Keeps (fun _ => False) w w'
theorem stableP_of {wt : Arc → Int} {d : List Int} {a : Arc} {x y : Int} (hx : d[a.frm]? = some x) (hy : d[a.to]? = some y) (h : x < 0 ∨ (0 ≤ y ∧ y ≤ x + wt a)) : stableP wt d a := by
  intro z hz h0
  rw [hx] at hz; cases hz
  rcases h with h | h
  · omega
  · exact ⟨y, hy, h⟩
theorem stableP_take {wt : Arc → Int} {d : List Int} {A : List Arc} {i : Nat} {a : Arc} (ha : A[i]? = some a) (hs : stableP wt d a) (h : ∀ b ∈ A.take i, stableP wt d b) : ∀ b ∈ A.take (i + 1), stableP wt d b := by
  intro b hb
  rw [take_getS ha] at hb
  rcases List.mem_append.1 hb with hb | hb
  · exact h b hb
  · simp at hb; subst hb; exact hs

set_option maxRecDepth 100000 in
set_option maxHeartbeats 4000000 in
theorem prices_any (w : World) (vl va : Value) (ls : List (List Int)) (A : List Arc) (s : Nat) (k step : Int) (hl : Lists w vl ls) (ha : ArcsAt w va A) (hn : ls.length ≤ 100000) (hs : s < ls.length) (hA : ∀ a ∈ A, a.frm < ls.length ∧ a.to < ls.length ∧ 0 ≤ a.cost ∧ a.cost ≤ 100)
    (hk0 : 0 ≤ k) (hk1 : k ≤ 4096) (hs0 : 0 ≤ step) (hs1 : step ≤ 1) :
    Calls Try.prog 50 #[vl, va, .int .i64 (s : Int), .int .i64 k, .int .i64 step] w (PricePost w A (fun a => k * a.cost + step) ls.length s) := by
  obtain ⟨i0, hi0, hz0, hz1, hz2⟩ := info_parts Try.info3
  obtain ⟨al, cl, hvl, ml⟩ := hl.form
  obtain ⟨aa, ca, hva, ma⟩ := Sl.formN ha
  have CA := Lib.hid (ha.cell hva)
  have HLT := Lib.hid hA
  subst hva hvl
  clear ha hl hA
  have hwt : ∀ c : Int, 0 ≤ c → c ≤ 100 → 0 ≤ k * c ∧ k * c ≤ 409600 := fun c h0 h1 => by
    have e1 := Int.mul_nonneg hk0 h0
    have e2 : k * c ≤ 4096 * 100 := Int.mul_le_mul hk1 h1 h0 (by omega)
    omega
  have HWT := Lib.hid hwt
  generalize hnn : ls.length = n at hn hs ml HLT ⊢
  clear hwt hnn
  go_enter Try.func50, Try.ntmps50
  go_wp2_with (at_make; refine wpList_make_full _ rfl _ _ 22 rfl w.heap.size 3 i0 (.int .i64 0) 1 Try.underlying22 hi0 hz0 hz1 .i64 .i64 _ _ n rfl rfl rfl rfl (by rw [hz2]; omega) (by unfold maxLen; omega) (Nat.le_refl _) ?_; intro w1 hown hgrow)
  have hI : DRow w n ((List.replicate n (-1 : Int)).take 0 ++ List.replicate (n - 0) 0) w1 := by
    refine ⟨?_, (Keeps.refl (fun _ => False) w).grown hgrow (fun k hk => by cases hk)⟩
    have e : (madeCells (Value.int .i64 0).cells (n * 1)).toList = ((List.replicate n (-1 : Int)).take 0 ++ List.replicate (n - 0) 0).map (Value.int .i64) := by
      rw [Nat.mul_one, List.take_zero, List.nil_append, Nat.sub_zero, List.map_replicate]
      exact toList_madeCells_one (.int .i64 0) n
    rw [e] at hown
    exact hown
  have HI := Lib.hid hI
  clear hI hown hgrow
  go_loopw [12] (fun v6 wr => ∃ i : Nat, i ≤ n ∧ v6 = .int .i64 (i : Int) ∧ DRow w n ((List.replicate n (-1 : Int)).take i ++ List.replicate (n - i) 0) wr) (fun v6 _ => n - (intOf v6).toNat)
  case atStart => exact ⟨0, Nat.zero_le _, rfl, HI.out⟩
  case round =>
    obtain ⟨i, hi, rfl, hR⟩ := hrel
    have HR := Lib.hid hR
    have hlw := hR.lt
    clear hR
    by_cases hlt : i < n
    · have hgs : (List.replicate n (-1 : Int))[i]? = some (-1) := by rw [List.getElem?_replicate, if_pos hlt]
      have hD0 : ((List.replicate n (-1 : Int)).take i ++ List.replicate (n - i) 0)[i]? = some 0 := by
        have ht : ((List.replicate n (-1 : Int)).take i).length = i := by rw [List.length_take, List.length_replicate]; omega
        rw [List.getElem?_append_right (by omega), ht, Nat.sub_self, List.getElem?_replicate, if_pos (by omega)]
      have q0 := HR.out.cell hD0
      have qf := HR.out.frozen i
      have HN := Lib.hid (show DRow w n ((List.replicate n (-1 : Int)).take (i + 1) ++ List.replicate (n - (i + 1)) 0) (wr.setCell ⟨w.heap.size, i, none⟩ (.int .i64 (-1))) by
        rw [← fill_step hgs (by simp)]; exact HR.out.set i (-1))
      clear hgs hD0
      go_wp2_with fail
      go_roundw
      case rel => exact ⟨i + 1, by omega, by go_num, HN.out⟩
      case measure => simp [intOf]; omega
    · have HS := Lib.hid (show DRow w n (List.replicate n (-1 : Int)) wr by
        have h := HR.out
        rw [List.take_of_length_le (by rw [List.length_replicate]; omega), show n - i = 0 by omega, List.replicate_zero, List.append_nil] at h
        exact h)
      have q0 := HS.out.cell (i := s) (x := -1) (by rw [List.getElem?_replicate, if_pos hs])
      have qf := HS.out.frozen s
      have HS2 := Lib.hid (HS.out.set s 0)
      have HIV := Lib.hid (PriInv.init A (fun a => k * a.cost + step) (W := 409601) (by omega) hs)
      have u0 : (0 : Int) ≤ (s : Int) := by omega
      have u1 : (s : Int) < (n : Int) := by omega
      clear hi
      go_upto_region 7 with fail
      generalize wr.setCell ⟨w.heap.size, s, none⟩ (.int .i64 0) = w2 at HS2 ⊢
      clear q0 qf
      go_wp2_with fail
      go_loopg [13] (2 * weightP ((n : Int) * 409601) ((List.replicate n (-1 : Int)).set s 0) + 1) (fun k' v7 wq => PriHead w A (fun a => k * a.cost + step) 409601 n s k' v7 wq)
      case atStart => exact ⟨_, true, rfl, HIV.out, HS2.out, (fun h => by cases h), by rw [if_pos rfl]⟩
      case round =>
        obtain ⟨d, again, rfl, hinv, hdr, hst, hgk⟩ := hrel
        have INV := Lib.hid hinv; have DR := Lib.hid hdr; have ST := Lib.hid hst; have HGK := Lib.hid hgk
        clear hinv hdr hst hgk
        cases again with
        | false =>
          go_wp2_with fail
          go_ret
          exact ⟨_, d, rfl, ⟨INV.out.len, INV.out.lo, INV.out.start, INV.out.real, ST.out (by first | rfl | trivial)⟩, DR.out.own, DR.out.keeps⟩
        | true =>
          go_wp2_with fail
          go_loopw [13, 14] (fun v7 v8 wq => ∃ j : Nat, j ≤ A.length ∧ v8 = .int .i64 (j : Int) ∧ PriMid w A (fun a => k * a.cost + step) 409601 n s (weightP ((n : Int) * 409601) d) j v7 wq) (fun _ v8 _ => A.length - (intOf v8).toNat)
          case atStart => exact ⟨0, Nat.zero_le _, rfl, d, false, rfl, INV.out, DR.out, (fun _ a ha => by simp at ha), Nat.le_refl _, (fun h => by cases h)⟩
          case round =>
            obtain ⟨j, hj, rfl, d2, ag2, rfl, hinv2, hdr2, hst2, hle2, hlt2⟩ := hrel
            have INV2 := Lib.hid hinv2; have DR2 := Lib.hid hdr2; have ST2 := Lib.hid hst2; have LE2 := Lib.hid hle2; have LT2 := Lib.hid hlt2
            have hl2 := hdr2.lt
            clear hinv2 hdr2 hst2 hle2 hlt2
            by_cases hjl : j < A.length
            · obtain ⟨ba, oa, rfl, hcell⟩ := CA.out (by omega)
              obtain ⟨a, ha⟩ : ∃ a, A[j]? = some a := ⟨_, List.getElem?_eq_getElem hjl⟩
              obtain ⟨g0, g1, g2, g3⟩ := hcell j a ha
              have c0 := DR2.out.keeps.cell g0 (fun h => h)
              have c1 := DR2.out.keeps.cell g1 (fun h => h)
              have c2 := DR2.out.keeps.cell g2 (fun h => h)
              have c3 := DR2.out.keeps.cell g3 (fun h => h)
              have HA := Lib.hid ha
              obtain ⟨hf, ht, hc0, hc1⟩ := HLT.out a (List.mem_of_getElem? ha)
              obtain ⟨hm0, hm1⟩ := HWT.out a.cost hc0 hc1
              have hdl := DR2.out.len
              obtain ⟨x, hx⟩ : ∃ x, d2[a.frm]? = some x := ⟨_, List.getElem?_eq_getElem (by omega)⟩
              obtain ⟨y, hy⟩ : ∃ y, d2[a.to]? = some y := ⟨_, List.getElem?_eq_getElem (by omega)⟩
              have hxk : x ≤ 40960100000 := by
                have h1 := INV2.out.hi x (List.mem_of_getElem? hx)
                have h2 := known_le d2
                omega
              have hxl := INV2.out.lo x (List.mem_of_getElem? hx)
              have HX := Lib.hid hx; have HY := Lib.hid hy
              have KA := Lib.hid ((Keeps.refl (fun _ => False) wr).alloc (.cells #[.int .i64 (a.frm : Int), .int .i64 (a.to : Int), .int .i64 (a.op : Int), .int .i64 a.cost] 95))
              have F4 := Lib.hid (Four.new wr (.int .i64 (a.frm : Int)) (.int .i64 (a.to : Int)) (.int .i64 (a.op : Int)) (.int .i64 a.cost) 95)
              have DR3 := Lib.hid (DR2.out.keeps0 KA.out)
              clear hcell g0 g1 g2 g3 ha hdl hx hy DR2 DR HS HS2
              go_upto_region 14 with fail
              obtain ⟨b9, hb9⟩ : ∃ b9, wr.heap.size = b9 := ⟨_, rfl⟩
              rw [hb9] at F4 hl2 ⊢
              clear c0 c1 c2 c3
              generalize (wr.alloc (.cells #[.int .i64 (a.frm : Int), .int .i64 (a.to : Int), .int .i64 (a.op : Int), .int .i64 a.cost] 95)) = w5 at DR3 F4 ⊢
              clear KA hb9
              have hl9 := F4.out.lt
              have hl5 := DR3.out.lt
              obtain ⟨f0, f1, f2, f3⟩ := F4.out
              have cx := DR3.out.cell HX.out
              have i0 : (0 : Int) ≤ (a.frm : Int) := by omega
              have i1 : (a.frm : Int) < (n : Int) := by omega
              have b0 : (0 : Int) ≤ (a.to : Int) := by omega
              have b1 : (a.to : Int) < (n : Int) := by omega
              have m1 : IntKind.i64.wrap (k * a.cost) = k * a.cost := IntWalk.i64_in _ (by omega)
              have m2 : IntKind.i64.wrap (x + k * a.cost) = x + k * a.cost := IntWalk.i64_in _ (by omega)
              have m3 : IntKind.i64.wrap (x + k * a.cost + step) = x + k * a.cost + step := IntWalk.i64_in _ (by omega)
              have HNV := Lib.hid (show x + k * a.cost + step = x + (k * a.cost + step) by omega)
              go_quiet (fail)
              clear m1 m2 m3
              have kd := (Keeps.refl (fun _ => False) w5).drewN nq
              have hl9' := Nat.lt_of_lt_of_le hl9 kd.size
              have hl5' := Nat.lt_of_lt_of_le hl5 kd.size
              have f0' := kd.cell f0 (fun h => h)
              have f1' := kd.cell f1 (fun h => h)
              have cx' := kd.cell cx (fun h => h)
              have DR6 := Lib.hid (DR3.out.keeps0 kd)
              clear kd hl9 hl5 f0 f1 f2 f3 cx DR3 F4
              generalize w5.drewN nq = w6 at hl9' hl5' f0' f1' cx' DR6 ⊢
              generalize hv16 : x + k * a.cost + step = v16 at HNV ⊢
              have HV := Lib.hid hv16
              clear hv16
              have cy := DR6.out.cell HY.out
              have fy := DR6.out.frozen a.to
              by_cases hx0 : 0 ≤ x
              · by_cases hup : y < 0 ∨ v16 < y
                · have HN := Lib.hid (INV2.out.step (List.mem_of_getElem? HA.out) (by show 0 ≤ k * a.cost + step; omega) (by show k * a.cost + step ≤ 409601; omega) HX.out HY.out hx0 (by rw [← HNV.out]; exact hup))
                  have FIN := Lib.hid (show PriMid w A (fun a => k * a.cost + step) 409601 n s (weightP ((n : Int) * 409601) d) (j + 1) (.bool true) (w6.setCell ⟨w.heap.size, a.to, none⟩ (.int .i64 v16)) from by
                    obtain ⟨n1, n2, _⟩ := HN.out
                    have h1 := LE2.out
                    rw [HNV.out]
                    exact ⟨d2.set a.to (x + (k * a.cost + step)), true, rfl, n1, DR6.out.set a.to _, (fun h => by cases h), by omega, (fun _ => by omega)⟩)
                  by_cases hy0 : y < 0
                  case' pos => clear hup
                  case' neg =>
                    have hup2 : v16 < y := by omega
                    clear hup
                  all_goals
                    go_wp2_with fail
                    go_roundw
                    case rel => exact ⟨j + 1, by omega, by go_num, FIN.out⟩
                    case measure => simp [intOf]; omega
                · have hy0 : ¬ y < 0 := fun h => hup (.inl h)
                  have hvy : ¬ v16 < y := fun h => hup (.inr h)
                  have HST := Lib.hid (show stableP (fun a => k * a.cost + step) d2 a from stableP_of HX.out HY.out (.inr ⟨by omega, by have := HNV.out; show y ≤ x + (k * a.cost + step); omega⟩))
                  clear hup
                  go_wp2_with fail
                  go_roundw
                  case rel => exact ⟨j + 1, by omega, by go_num, d2, ag2, rfl, INV2.out, DR6.out, (fun h => stableP_take HA.out HST.out (ST2.out h)), LE2.out, LT2.out⟩
                  case measure => simp [intOf]; omega
              · have HST := Lib.hid (show stableP (fun a => k * a.cost + step) d2 a from stableP_of HX.out HY.out (.inl (by omega)))
                go_wp2_with fail
                go_roundw
                case rel => exact ⟨j + 1, by omega, by go_num, d2, ag2, rfl, INV2.out, DR6.out, (fun h => stableP_take HA.out HST.out (ST2.out h)), LE2.out, LT2.out⟩
                case measure => simp [intOf]; omega
            · have HTK : Hid (A.take j = A) := by unfold Hid; exact List.take_of_length_le (by omega)
              have HGD := Lib.hid (show PriHead w A (fun a => k * a.cost + step) 409601 n s (2 * weightP ((n : Int) * 409601) d2 + (if ag2 = true then 1 else 0)) (.bool ag2) wr from ⟨d2, ag2, rfl, INV2.out, DR2.out, (fun h => by have := ST2.out h; rwa [HTK.out] at this), rfl⟩)
              go_wp2_with fail
              go_roundg (2 * weightP ((n : Int) * 409601) d2 + (if ag2 = true then 1 else 0))
              case rel => exact HGD.out
              case measure =>
                have h1 := HGK.out
                have h2 := LE2.out
                have h3 := LT2.out
                cases ag2
                · rw [if_neg (by simp)]; simp at h1; omega
                · rw [if_pos rfl]; have := h3 rfl; simp at h1; omega

end Go.Proofs.Ytcfcmmajlkkabaa
