/- The library's heap over the queue's entries: up, down, Fix, Remove, Push, Pop: what they make of the list. -/
import Derived.Test.YtcfcmmajlkkabaaUHeapA
namespace Go.Proofs.Ytcfcmmajlkkabaa.U
open Go.RowKit

theorem method_Less_raw (a : Addr) (w : World) : (method 333 182 (.pointer (some a)) "Less").run Try.prog w = (Sem.load .plain a fun v => .pure (159, v)).run Try.prog w := by kernel_rfl
theorem method_Less {a : Addr} {w : World} {v : Value} (h : w.cell? a = some v) : (method 333 182 (.pointer (some a)) "Less").run Try.prog w = .ok (159, v) w := by
  rw [method_Less_raw]; simp [Sem.run, h]
theorem method_Swap_raw (a : Addr) (w : World) : (method 333 182 (.pointer (some a)) "Swap").run Try.prog w = (Sem.load .plain a fun v => .pure (160, v)).run Try.prog w := by kernel_rfl
theorem method_Len_raw (a : Addr) (w : World) : (method 333 182 (.pointer (some a)) "Len").run Try.prog w = (Sem.load .plain a fun v => .pure (158, v)).run Try.prog w := by kernel_rfl
theorem method_Push_raw (a : Addr) (w : World) : (method 333 182 (.pointer (some a)) "Push").run Try.prog w = .ok (162, .pointer (some a)) w := by kernel_rfl
theorem method_Pop_raw (a : Addr) (w : World) : (method 333 182 (.pointer (some a)) "Pop").run Try.prog w = .ok (161, .pointer (some a)) w := by kernel_rfl

theorem method_Swap {a : Addr} {w : World} {v : Value} (h : w.cell? a = some v) : (method 333 182 (.pointer (some a)) "Swap").run Try.prog w = .ok (160, v) w := by
  rw [method_Swap_raw]; simp [Sem.run, h]
theorem method_Len {a : Addr} {w : World} {v : Value} (h : w.cell? a = some v) : (method 333 182 (.pointer (some a)) "Len").run Try.prog w = .ok (158, v) w := by
  rw [method_Len_raw]; simp [Sem.run, h]

theorem hfoot_swp {v : Value} {L : List Ent} {i k b : Nat} (h : hfoot v (swp L i k) b) : hfoot v L b := by
  rcases h with h | ⟨e, he, rfl⟩
  · exact .inl h
  · exact .inr ⟨e, mem_swp he, rfl⟩

def lessAt (L : List Ent) (i k : Nat) : Bool :=
  match L[i]?, L[k]? with
  | some a, some b => lessE a b
  | _, _ => false

theorem lessAt_eq {L : List Ent} {i k : Nat} {a b : Ent} (hi : L[i]? = some a) (hk : L[k]? = some b) : lessAt L i k = lessE a b := by simp [lessAt, hi, hk]

def upL (L : List Ent) (j : Nat) : List Ent :=
  if j = 0 then L else if lessAt L j ((j - 1) / 2) then upL (swp L ((j - 1) / 2) j) ((j - 1) / 2) else L
termination_by j
decreasing_by omega

/-- What a call that only turns the heap leaves behind. -/
structure HPost (w : World) (v : Value) (L L' : List Ent) (w' : World) : Prop where
  rep : HRep w' v L'
  keeps : Keeps (hfoot v L) w w'
  len : L'.length = L.length
  sub : ∀ b, hfoot v L' b → hfoot v L b

theorem HPost.refl {w : World} {v : Value} {L : List Ent} (h : HRep w v L) : HPost w v L L w := ⟨h, Keeps.refl _ _, rfl, fun _ h => h⟩

theorem HPost.drewN {w w' : World} {v : Value} {L L' : List Ent} (h : HPost w v L L' w') (n : Nat) : HPost w v L L' (w'.drewN n) := ⟨h.rep.drewN n, h.keeps.drewN n, h.len, h.sub⟩

theorem HPost.swap {w w' w'' : World} {v : Value} {L L' : List Ent} (h : HPost w v L L' w') {i k : Nat} (hs : SwapPost w' v L' i k w'') : HPost w v L (swp L' i k) w'' :=
  ⟨hs.rep, h.keeps.trans (hs.keeps.mono (fun b _ hb => h.sub b hb)), by rw [length_swp]; exact h.len, fun b hb => h.sub b (hfoot_swp hb)⟩

theorem HPost.trans {w w' w'' : World} {v : Value} {L L' L'' : List Ent} (h : HPost w v L L' w') (hs : HPost w' v L' L'' w'') : HPost w v L L'' w'' :=
  ⟨hs.rep, h.keeps.trans (hs.keeps.mono (fun b _ hb => h.sub b hb)), hs.len.trans h.len, fun b hb => h.sub b (hs.sub b hb)⟩

theorem HPost.cell {w w' : World} {v : Value} {L L' : List Ent} (h : HPost w v L L' w') {Q : Nat} {o : Nat} {x : Value} (hQ : w.cell? ⟨Q, o, none⟩ = some x) (nQ : ¬ hfoot v L Q) : w'.cell? ⟨Q, o, none⟩ = some x := h.keeps.cell hQ nQ

set_option maxRecDepth 100000 in
set_option maxHeartbeats 1000000 in
theorem up_any (w : World) (Q : Nat) (v : Value) (L : List Ent) (h : HRep w v L) (hQ : w.cell? ⟨Q, 0, none⟩ = some v) (nQ : ¬ hfoot v L Q) (j : Nat) (hj : j < L.length) :
    Calls Try.prog 131 #[.iface 182 (.pointer (some ⟨Q, 0, none⟩)), .int .i64 (j : Int)] w fun e w' => e = .returned (.tuple #[]) ∧ HPost w v L (upL L j) w' := by
  have hsm := h.small
  go_enter Try.func131, Try.ntmps131
  go_wp2_with fail
  go_loopw [1] (fun x wr => ∃ (k : Nat) (Lc : List Ent), x = .int .i64 (k : Int) ∧ k < Lc.length ∧ upL Lc k = upL L j ∧ HPost w v L Lc wr) (fun x _ => (intOf x).toNat)
  case atStart => exact ⟨j, L, rfl, hj, rfl, HPost.refl h⟩
  case round =>
    obtain ⟨k, Lc, rfl, hk, hup, hP⟩ := hrel
    have hk' : Lc.length ≤ 1000000 := hP.rep.small
    have HU := Lib.hid hup; clear hup
    by_cases k0 : k = 0
    · subst k0
      have HP := Lib.hid hP; clear hP h
      go_wp2_with fail
      go_end0
      refine ⟨rfl, ?_⟩
      have := HU.out
      rw [upL, if_pos rfl] at this
      rw [← this]; exact HP.out
    · have e1 : ((k : Int) - 1) / 2 = (((k - 1) / 2 : Nat) : Int) := by omega
      have hup' : upL Lc k = if lessAt Lc k ((k - 1) / 2) then upL (swp Lc ((k - 1) / 2) k) ((k - 1) / 2) else Lc := by rw [upL, if_neg k0]
      generalize (k - 1) / 2 = i at *
      have hik : i < k := by omega
      have hne : (((i : Nat) : Int) == (k : Int)) = false := by simp; omega
      obtain ⟨ek, hek⟩ : ∃ e, Lc[k]? = some e := ⟨_, List.getElem?_eq_getElem hk⟩
      obtain ⟨ei, hei⟩ : ∃ e, Lc[i]? = some e := ⟨_, List.getElem?_eq_getElem (by omega)⟩
      rw [lessAt_eq hek hei] at hup'
      have hq : ∀ n, (wr.drewN n).cell? ⟨Q, 0, none⟩ = some v := fun n => hP.cell hQ nQ
      have mL := method_Less (hP.cell hQ nQ)
      have mS := fun n => method_Swap (hq n)
      have HE := Lib.hid hek
      have HI := Lib.hid hei
      have HUP := Lib.hid hup'
      have HP := Lib.hid hP
      have HQ := Lib.hid hQ
      clear hek hei hup' hP hq hQ h nQ
      cases hb : lessE ek ei
      · have HB := Lib.hid hb; clear hb
        go_wp2_with (first | (go_at_call 159; refine (less_any _ v Lc HP.out.rep k i ek ei HE.out HI.out).mono ?_; rintro e w' ⟨he, n, rfl⟩; rw [HB.out] at he; subst he))
        go_end0
        refine ⟨rfl, ?_⟩
        have x := HUP.out
        rw [HB.out, HU.out] at x
        rw [x]; exact HP.out.drewN n
      · have HB := Lib.hid hb; clear hb
        go_wp2_with (first | (go_at_call 159; refine (less_any _ v Lc HP.out.rep k i ek ei HE.out HI.out).mono ?_; rintro e w' ⟨he, n, rfl⟩; rw [HB.out] at he; subst he) | (go_at_call 160; refine (swap_ne _ v Lc (HP.out.rep.drewN _) i k ei ek HI.out HE.out (by omega)).mono ?_; rintro e w' ⟨rfl, hS⟩))
        go_roundw
        case rel =>
          refine ⟨i, _, by go_num, ?_, ?_, (HP.out.drewN _).swap hS⟩
          · rw [length_swp]; omega
          · have x := HUP.out
            rw [HB.out, HU.out] at x
            exact x.symm
        case measure => simp [intOf]; omega

theorem less_any' (w : World) (v : Value) (L : List Ent) (h : HRep w v L) (x y : Int) (i k : Nat) (ei ek : Ent) (hi : L[i]? = some ei) (hk : L[k]? = some ek) (b : Bool) (hb : lessE ei ek = b) (hx : x = (i : Int)) (hy : y = (k : Int)) :
    Calls Try.prog 159 #[v, .int .i64 x, .int .i64 y] w fun e w' => e = .returned (.bool b) ∧ ∃ n, w' = w.drewN n := by
  subst hx hy hb; exact less_any w v L h i k ei ek hi hk

theorem swap_ne' (w : World) (v : Value) (L : List Ent) (h : HRep w v L) (x y : Int) (i k : Nat) (ei ek : Ent) (hi : L[i]? = some ei) (hk : L[k]? = some ek) (hne : i ≠ k) (hx : x = (i : Int)) (hy : y = (k : Int)) :
    Calls Try.prog 160 #[v, .int .i64 x, .int .i64 y] w fun e w' => e = .returned (.tuple #[]) ∧ SwapPost w v L i k w' := by
  subst hx hy; exact swap_ne w v L h i k ei ek hi hk hne

def downL (L : List Ent) (n i : Nat) : List Ent × Nat :=
  if n ≤ 2 * i + 1 then (L, i) else
  let j := if 2 * i + 2 < n && lessAt L (2 * i + 2) (2 * i + 1) then 2 * i + 2 else 2 * i + 1
  if lessAt L j i then downL (swp L i j) n j else (L, i)
termination_by n - i
decreasing_by split <;> omega

theorem downL_stop {L : List Ent} {n i : Nat} (h : n ≤ 2 * i + 1) : downL L n i = (L, i) := by rw [downL, if_pos h]
theorem downL_go {L : List Ent} {n i j : Nat} (h : ¬ n ≤ 2 * i + 1) (hj : (if 2 * i + 2 < n && lessAt L (2 * i + 2) (2 * i + 1) then 2 * i + 2 else 2 * i + 1) = j) :
    downL L n i = if lessAt L j i then downL (swp L i j) n j else (L, i) := by
  rw [downL, if_neg h]; simp only [hj]

theorem ret_bool {a b : Bool} (h : a = b) : Ending.returned (.bool a) = .returned (.bool b) := by rw [h]


set_option maxRecDepth 100000 in
set_option maxHeartbeats 4000000 in
theorem down_any (w : World) (Q : Nat) (v : Value) (L : List Ent) (h : HRep w v L) (hQ : w.cell? ⟨Q, 0, none⟩ = some v) (nQ : ¬ hfoot v L Q) (i0 n : Nat) (hn : n ≤ L.length) (hi0 : i0 ≤ L.length) :
    Calls Try.prog 130 #[.iface 182 (.pointer (some ⟨Q, 0, none⟩)), .int .i64 (i0 : Int), .int .i64 (n : Int)] w fun e w' => e = .returned (.bool (decide (i0 < (downL L n i0).2))) ∧ HPost w v L (downL L n i0).1 w' := by
  have hsm := h.small
  have hnn : n ≤ 1000000 := by omega
  have hii : i0 ≤ 1000000 := by omega
  go_enter Try.func130, Try.ntmps130
  go_wp2_with fail
  go_loopw [7] (fun x wr => ∃ (i : Nat) (Lc : List Ent), x = .int .i64 (i : Int) ∧ i ≤ 1000000 ∧ downL Lc n i = downL L n i0 ∧ HPost w v L Lc wr) (fun x _ => n - (intOf x).toNat)
  case atStart => exact ⟨i0, L, rfl, hii, rfl, HPost.refl h⟩
  case round =>
    obtain ⟨i, Lc, rfl, hi, hdn, hP⟩ := hrel
    have hk' : Lc.length ≤ 1000000 := hP.rep.small
    have hlen : n ≤ Lc.length := by rw [hP.len]; exact hn
    have HU := Lib.hid hdn; clear hdn
    by_cases hst : n ≤ 2 * i + 1
    · have HP := Lib.hid hP; clear hP h
      have x := downL_stop (L := Lc) hst
      rw [HU.out] at x
      have HX := Lib.hid x; clear x
      go_wp2_with fail
      go_ret
      exact ⟨ret_bool (by rw [HX.out]), by rw [HX.out]; exact HP.out⟩
    · obtain ⟨ei, hei⟩ : ∃ e, Lc[i]? = some e := ⟨_, List.getElem?_eq_getElem (by omega)⟩
      obtain ⟨e1, he1⟩ : ∃ e, Lc[2 * i + 1]? = some e := ⟨_, List.getElem?_eq_getElem (by omega)⟩
      have hst' : 2 * i + 1 < n := by omega
      have hq : ∀ n, (wr.drewN n).cell? ⟨Q, 0, none⟩ = some v := fun n => hP.cell hQ nQ
      have mL := fun n => method_Less (hq n)
      have mL0 := method_Less (hP.cell hQ nQ)
      have mS := fun n => method_Swap (hq n)
      have HEI := Lib.hid hei
      have HE1 := Lib.hid he1
      have HP := Lib.hid hP
      by_cases h2 : 2 * i + 2 < n
      · obtain ⟨e2, he2⟩ : ∃ e, Lc[2 * i + 2]? = some e := ⟨_, List.getElem?_eq_getElem (by omega)⟩
        have HE2 := Lib.hid he2
        cases hb : lessE e2 e1
        · have hj : (if 2 * i + 2 < n && lessAt Lc (2 * i + 2) (2 * i + 1) then 2 * i + 2 else 2 * i + 1) = 2 * i + 1 := by simp [lessAt_eq he2 he1, hb]
          have HG := Lib.hid (downL_go hst hj)
          rw [lessAt_eq he1 hei, HU.out] at HG
          have HB := Lib.hid hb
          cases hc : lessE e1 ei
          · clear hei he1 hP hq hQ h nQ hb he2 hj
            have HC := Lib.hid hc; clear hc
            rw [HC.out] at HG
            go_wp2_with fail
            refine (less_any' _ v Lc HP.out.rep _ _ _ _ e2 e1 HE2.out HE1.out _ HB.out (by omega) (by omega)).mono ?_; rintro e w' ⟨rfl, n1, rfl⟩
            go_wp2_with fail
            refine (less_any' _ v Lc (HP.out.rep.drewN _) _ _ _ _ e1 ei HE1.out HEI.out _ HC.out (by omega) (by omega)).mono ?_; rintro e w' ⟨rfl, n2, rfl⟩
            go_wp2_with fail
            go_ret
            have hx := HG.out; simp only [Bool.false_eq_true, if_false] at hx
            exact ⟨ret_bool (by rw [hx]), by rw [hx]; exact HP.out.drewN _⟩
          · clear hei he1 hP hq hQ h nQ hb he2 hj
            have HC := Lib.hid hc; clear hc
            rw [HC.out] at HG
            go_wp2_with fail
            refine (less_any' _ v Lc HP.out.rep _ _ _ _ e2 e1 HE2.out HE1.out _ HB.out (by omega) (by omega)).mono ?_; rintro e w' ⟨rfl, n1, rfl⟩
            go_wp2_with fail
            refine (less_any' _ v Lc (HP.out.rep.drewN _) _ _ _ _ e1 ei HE1.out HEI.out _ HC.out (by omega) (by omega)).mono ?_; rintro e w' ⟨rfl, n2, rfl⟩
            go_wp2_with fail
            refine (swap_ne' _ v Lc (HP.out.rep.drewN _) _ _ i (2 * i + 1) ei e1 HEI.out HE1.out (by omega) (by omega) (by omega)).mono ?_; rintro e w' ⟨rfl, hS⟩
            go_wp2_with fail
            go_roundw
            case rel =>
              have hx := HG.out; simp only [if_true] at hx
              exact ⟨2 * i + 1, _, by go_num, by omega, hx.symm, (HP.out.drewN _).swap hS⟩
            case measure => simp [intOf]; omega
        · have hj : (if 2 * i + 2 < n && lessAt Lc (2 * i + 2) (2 * i + 1) then 2 * i + 2 else 2 * i + 1) = 2 * i + 2 := by simp [lessAt_eq he2 he1, hb, h2]
          have HG := Lib.hid (downL_go hst hj)
          rw [lessAt_eq he2 hei, HU.out] at HG
          have HB := Lib.hid hb
          cases hc : lessE e2 ei
          · clear hei he1 hP hq hQ h nQ hb he2 hj
            have HC := Lib.hid hc; clear hc
            rw [HC.out] at HG
            go_wp2_with fail
            refine (less_any' _ v Lc HP.out.rep _ _ _ _ e2 e1 HE2.out HE1.out _ HB.out (by omega) (by omega)).mono ?_; rintro e w' ⟨rfl, n1, rfl⟩
            go_wp2_with fail
            refine (less_any' _ v Lc (HP.out.rep.drewN _) _ _ _ _ e2 ei HE2.out HEI.out _ HC.out (by omega) (by omega)).mono ?_; rintro e w' ⟨rfl, n2, rfl⟩
            go_wp2_with fail
            go_ret
            have hx := HG.out; simp only [Bool.false_eq_true, if_false] at hx
            exact ⟨ret_bool (by rw [hx]), by rw [hx]; exact HP.out.drewN _⟩
          · clear hei he1 hP hq hQ h nQ hb he2 hj
            have HC := Lib.hid hc; clear hc
            rw [HC.out] at HG
            go_wp2_with fail
            refine (less_any' _ v Lc HP.out.rep _ _ _ _ e2 e1 HE2.out HE1.out _ HB.out (by omega) (by omega)).mono ?_; rintro e w' ⟨rfl, n1, rfl⟩
            go_wp2_with fail
            refine (less_any' _ v Lc (HP.out.rep.drewN _) _ _ _ _ e2 ei HE2.out HEI.out _ HC.out (by omega) (by omega)).mono ?_; rintro e w' ⟨rfl, n2, rfl⟩
            go_wp2_with fail
            refine (swap_ne' _ v Lc (HP.out.rep.drewN _) _ _ i (2 * i + 2) ei e2 HEI.out HE2.out (by omega) (by omega) (by omega)).mono ?_; rintro e w' ⟨rfl, hS⟩
            go_wp2_with fail
            go_roundw
            case rel =>
              have hx := HG.out; simp only [if_true] at hx
              exact ⟨2 * i + 2, _, by go_num, by omega, hx.symm, (HP.out.drewN _).swap hS⟩
            case measure => simp [intOf]; omega
      · have hj : (if 2 * i + 2 < n && lessAt Lc (2 * i + 2) (2 * i + 1) then 2 * i + 2 else 2 * i + 1) = 2 * i + 1 := by simp [h2]
        have HG := Lib.hid (downL_go hst hj)
        rw [lessAt_eq he1 hei, HU.out] at HG
        cases hc : lessE e1 ei
        · clear hei he1 hP hq hQ h nQ hj
          have HC := Lib.hid hc; clear hc
          rw [HC.out] at HG
          go_wp2_with fail
          refine (less_any' _ v Lc HP.out.rep _ _ _ _ e1 ei HE1.out HEI.out _ HC.out (by omega) (by omega)).mono ?_; rintro e w' ⟨rfl, n2, rfl⟩
          go_wp2_with fail
          go_ret
          have hx := HG.out; simp only [Bool.false_eq_true, if_false] at hx
          exact ⟨ret_bool (by rw [hx]), by rw [hx]; exact HP.out.drewN _⟩
        · clear hei he1 hP hq hQ h nQ hj
          have HC := Lib.hid hc; clear hc
          rw [HC.out] at HG
          go_wp2_with fail
          refine (less_any' _ v Lc HP.out.rep _ _ _ _ e1 ei HE1.out HEI.out _ HC.out (by omega) (by omega)).mono ?_; rintro e w' ⟨rfl, n2, rfl⟩
          go_wp2_with fail
          refine (swap_ne' _ v Lc (HP.out.rep.drewN _) _ _ i (2 * i + 1) ei e1 HEI.out HE1.out (by omega) (by omega) (by omega)).mono ?_; rintro e w' ⟨rfl, hS⟩
          go_wp2_with fail
          go_roundw
          case rel =>
            have hx := HG.out; simp only [if_true] at hx
            exact ⟨2 * i + 1, _, by go_num, by omega, hx.symm, (HP.out.drewN _).swap hS⟩
          case measure => simp [intOf]; omega

end Go.Proofs.Ytcfcmmajlkkabaa.U
