/- novelty: the law that New is the reference's. -/
import Derived.Test.YtcfcmmajlkkabaaNovRef
import Derived.Test.YtcfcmmajlkkabaaExN
namespace Go.Proofs.Ytcfcmmajlkkabaa
open Go.RowKit

/-- What the fault of the reference is, when i states have been looked at. -/
def NewSt (t : Tsk) (ls : List (List Int)) (s : List Int) (k : Int) (i : Nat) (c n : Int) : Prop :=
  (c ≠ 0 ∧ newF t ls s k = (c, n)) ∨ (c = 0 ∧ n = 0 ∧ t.Ok ∧ isSetB s t.n = true ∧ 0 ≤ k ∧ k ≤ 4 ∧ ls.length ≤ 2000 ∧ ∀ l ∈ ls.take i, isSetB l t.n = true)

theorem newF_state {t : Tsk} {ls : List (List Int)} {s : List Int} {k : Int} (h : (stateFault t s).1 ≠ 0) : newF t ls s k = stateFault t s := by unfold newF; rw [if_pos h]
theorem newF_range {t : Tsk} {ls : List (List Int)} {s : List Int} {k : Int} (h : (stateFault t s).1 = 0) (hk : k < 0 ∨ 4 < k) : newF t ls s k = (3, -8) := by unfold newF; rw [if_neg (by simpa using h), if_pos hk]
theorem newF_many {t : Tsk} {ls : List (List Int)} {s : List Int} {k : Int} (h : (stateFault t s).1 = 0) (hk : ¬ (k < 0 ∨ 4 < k)) (hl : 2000 < ls.length) : newF t ls s k = (2, -10) := by unfold newF; rw [if_neg (by simpa using h), if_neg hk, if_pos hl]
theorem newF_bad {t : Tsk} {ls : List (List Int)} {s : List Int} {k : Int} (h : (stateFault t s).1 = 0) (hk : ¬ (k < 0 ∨ 4 < k)) (hl : ¬ 2000 < ls.length) : newF t ls s k = badAt t.n ls 0 := by unfold newF; rw [if_neg (by simpa using h), if_neg hk, if_neg hl]
theorem newB_no {t : Tsk} {ls : List (List Int)} {s : List Int} {k c n : Int} (h : newF t ls s k = (c, n)) (hc : c ≠ 0) : newB t ls s k = false := by
  unfold newB
  rw [h]
  have : (((c, n) : Int × Int) == (0, 0)) = false := by rw [beq_eq_false_iff_ne]; intro e; cases e; exact hc rfl
  rw [this]; rfl
theorem NewSt.found {t : Tsk} {ls : List (List Int)} {s : List Int} {k : Int} {i : Nat} {l : List Int} (h : NewSt t ls s k i 0 0) (hl : ls[i]? = some l) (hb : isSetB l t.n = false) : NewSt t ls s k (i + 1) 5 (i : Int) := by
  rcases h with ⟨h, _⟩ | ⟨_, _, h1, h2, h3, h4, h5, h6⟩
  · exact absurd rfl h
  · refine .inl ⟨by decide, ?_⟩
    rw [newF_bad (stateFault_zero.2 ⟨h1, h2⟩) (by omega) (by omega), badAt_at h6 hl hb]; simp
theorem NewSt.next {t : Tsk} {ls : List (List Int)} {s : List Int} {k : Int} {i : Nat} {l : List Int} (h : NewSt t ls s k i 0 0) (hl : ls[i]? = some l) (hb : isSetB l t.n = true) : NewSt t ls s k (i + 1) 0 0 := by
  rcases h with ⟨h, _⟩ | ⟨_, _, h1, h2, h3, h4, h5, h6⟩
  · exact absurd rfl h
  · refine .inr ⟨rfl, rfl, h1, h2, h3, h4, h5, fun x hx => ?_⟩
    rw [take_getS hl] at hx
    rcases List.mem_append.1 hx with hx | hx
    · exact h6 x hx
    · simp at hx; subst hx; exact hb
theorem NewSt.done {t : Tsk} {ls : List (List Int)} {s : List Int} {k : Int} {i : Nat} (h : NewSt t ls s k i 0 0) (hi : ls.length ≤ i) : newF t ls s k = (0, 0) ∧ newB t ls s k = freshL ls s k.toNat [] ∧ 0 ≤ k ∧ k ≤ 4 := by
  rcases h with ⟨h, _⟩ | ⟨_, _, h1, h2, h3, h4, h5, h6⟩
  · exact absurd rfl h
  · rw [List.take_of_length_le hi] at h6
    have hf : newF t ls s k = (0, 0) := by rw [newF_bad (stateFault_zero.2 ⟨h1, h2⟩) (by omega) (by omega), badAt_set h6]
    have hn : t.n ≤ 32 := by have := h1.n1; omega
    refine ⟨hf, ?_, h3, h4⟩
    unfold newB
    rw [hf, fresh_cov (isSet_mono h2 hn) (fun l hl => isSet_mono (h6 l hl) hn)]
    rfl

set_option maxRecDepth 100000 in
set_option maxHeartbeats 4000000 in
theorem nnewLaw_any (w : World) (vi vg vo vl vs : Value) (t : Tsk) (ls : List (List Int)) (s : List Int) (k : Int) (h : TaskAt w vi vg vo t) (hl : Lists w vl ls) (hs : Ints w vs s) :
    Calls Try.prog 8 #[.agg #[.int .i64 t.n, vi, vg, vo], vl, vs, .int .i64 k] w fun e w' => e = .returned (.bool true) ∧ Keeps (fun _ => False) w w' := by
  obtain ⟨ai, ci, h1, _⟩ := h.init.form
  obtain ⟨ag, cg, h2, _⟩ := h.goal.form
  obtain ⟨ao, co, h3, hmo⟩ := h.ops.form
  obtain ⟨aa, cs, h4, hms⟩ := hs.form
  obtain ⟨al, cl, h5, hml⟩ := hl.form
  subst h1 h2 h3 h4 h5
  have HB := Lib.hid (Four.new w (.int .i64 t.n) (.slice ai t.init.length ci) (.slice ag t.goal.length cg) (.slice ao t.ops.length co) 25)
  have K1 := (Keeps.refl (fun _ => False) w).alloc (.cells #[.int .i64 t.n, .slice ai t.init.length ci, .slice ag t.goal.length cg, .slice ao t.ops.length co] 25)
  have HT := Lib.hid (h.keeps0 K1); have HK := Lib.hid K1; have HL := Lib.hid (hl.keeps0 K1); have HS := Lib.hid (show Ints _ (.slice aa s.length cs) s from hs.keeps0 K1)
  clear h K1 hl hs
  go_enter Try.func8, Try.ntmps8
  go_upto_region 1 with fail
  generalize (w.alloc (.cells #[.int .i64 t.n, .slice ai t.init.length ci, .slice ag t.goal.length cg, .slice ao t.ops.length co] 25)) = w1 at HB HT HK HL HS ⊢
  generalize w.heap.size = bt at HB ⊢
  have hbx := HB.out.lt
  obtain ⟨d0, d1, d2, d3⟩ := HB.out
  go_wp2_with fail
  refine (new_any' _ _ _ _ _ _ t ls s k HT.out HL.out HS.out).mono ?_; rintro e w2 ⟨rfl, hk⟩
  generalize hnf : newF t ls s k = f
  generalize hnb : newB t ls s k = nb
  have HNF := Lib.hid hnf; have HNB := Lib.hid hnb
  have KA := hk.alloc (.cells #[.int .i64 f.1, .int .i64 f.2] 29)
  have HF3 := Lib.hid (heap_alloc_new w2 (.cells #[.int .i64 f.1, .int .i64 f.2] 29))
  have HB3 := Lib.hid (HB.out.keeps0 KA); have HT3 := Lib.hid (HT.out.keeps0 KA); have K3 := Lib.hid (HK.out.trans KA); have HL3 := Lib.hid (HL.out.keeps0 KA); have HS3 := Lib.hid (show Ints _ (.slice aa s.length cs) s from HS.out.keeps0 KA)
  clear hk KA hnf hnb d0 d1 d2 d3 hbx HB HT HK HL HS
  simp only [fltV]
  go_upto_region 2 with fail
  generalize w2.alloc (.cells #[.int .i64 f.1, .int .i64 f.2] 29) = w3 at HF3 HB3 HT3 K3 HL3 HS3 ⊢
  generalize w2.heap.size = b10 at HF3 ⊢
  go_wp2_with fail
  refine (noveltyExample_any _).mono ?_; rintro e w4 ⟨rfl, hk⟩
  have HF4 := Lib.hid (hk.heap HF3.out (fun h => h)); have HB4 := Lib.hid (HB3.out.keeps0 hk); have HT4 := Lib.hid (HT3.out.keeps0 hk); have K4 := Lib.hid (K3.out.trans hk); have HL4 := Lib.hid (HL3.out.keeps0 hk); have HS4 := Lib.hid (show Ints _ (.slice aa s.length cs) s from HS3.out.keeps0 hk)
  clear hk HF3 HB3 HT3 K3 HL3 HS3
  have hbx := HB4.out.lt
  obtain ⟨d0, d1, d2, d3⟩ := HB4.out
  go_wp2_with fail
  refine (rStateFault_any _ _ _ _ _ t s HT4.out HS4.out).mono ?_; rintro e w5 ⟨rfl, hk⟩
  generalize hsf : stateFault t s = g
  have HSF := Lib.hid hsf
  have K45 := Lib.hid hk
  have H6 := Lib.hid (heap_alloc_new w5 (.cells #[.int .i64 g.1, .int .i64 g.2] 29))
  have K46 := Lib.hid (hk.alloc (.cells #[.int .i64 g.1, .int .i64 g.2] 29))
  have hb5 : w4.heap.size ≤ w5.heap.size := hk.size
  clear hk hsf d0 d1 d2 d3 hbx
  simp only [fltV]
  go_upto_region 5 with fail
  generalize w5.alloc (.cells #[.int .i64 g.1, .int .i64 g.2] 29) = w6 at H6 K46 ⊢
  generalize w5.heap.size = b11 at H6 hb5 ⊢
  obtain ⟨q0, q1, y0, y1, hl6⟩ := pair_cells H6.out
  have hcases : (g.1 ≠ 0) ∨ (g = (0, 0) ∧ inB k 0 4 = false) ∨ (g = (0, 0) ∧ inB k 0 4 = true ∧ 2000 < ls.length) ∨ (g = (0, 0) ∧ inB k 0 4 = true ∧ ¬ 2000 < ls.length) := by
    by_cases hc : g.1 = 0
    · have hg : g = (0, 0) := by rw [← HSF.out]; exact stateFault_ok (by rw [HSF.out]; exact hc)
      cases hi : inB k 0 4 with
      | false => exact .inr (.inl ⟨hg, rfl⟩)
      | true =>
        by_cases hl : 2000 < ls.length
        · exact .inr (.inr (.inl ⟨hg, rfl, hl⟩))
        · exact .inr (.inr (.inr ⟨hg, rfl, hl⟩))
    · exact .inl hc
  have hin : ∀ b, inB k 0 4 = b → ((b = false → k < 0 ∨ 4 < k) ∧ (b = true → ¬ (k < 0 ∨ 4 < k))) := by
    intro b hb
    unfold inB at hb
    constructor
    · rintro rfl; simp at hb; omega
    · rintro rfl; simp at hb; omega
  have HIN := Lib.hid hin
  clear hin
  rcases hcases with hc | ⟨rfl, hi⟩ | ⟨rfl, hi, hlen⟩ | ⟨rfl, hi, hlen⟩
  case' inl =>
    have hc2 : (g.1 == 0) = false := by simpa using hc
    have HST := Lib.hid (show NewSt t ls s k 0 g.1 g.2 from .inl ⟨hc, by rw [newF_state (by rw [HSF.out]; exact hc), HSF.out]⟩)
    have HZ := H6; have KZ := K46
    clear hc
    go_upto_region 9 with fail
    generalize w6 = wz at HZ KZ ⊢
  case' inr.inl =>
    have HI := Lib.hid hi
    have HST := Lib.hid (show NewSt t ls s k 0 3 (-8) from .inl ⟨by decide, newF_range (by rw [HSF.out]) ((HIN.out _ hi).1 rfl)⟩)
    clear hi
    go_wp2_with fail
    refine (in_val _ HI.out).mono ?_; rintro e w8 ⟨rfl, rfl⟩
    go_wp2_with fail
    refine (at_any _ _ _).mono ?_; rintro e w9 ⟨rfl, hk⟩
    have H9 := Lib.hid (hk.heap H6.out (fun h => h))
    have kp := keeps_pair (w := w9) b11 (.int .i64 3) (.int .i64 (-8))
    have HZ := Lib.hid (pair_set H9.out (.int .i64 3) (.int .i64 (-8)))
    have KZ := Lib.hid ((K46.out.trans hk).trans' kp (fun i hi => .inr (by omega)))
    clear q0 q1 y0 y1 hl6 hk kp
    obtain ⟨q0, q1, y0, y1, hl6⟩ := pair_cells H9.out
    go_upto_region 7 with fail
    generalize (w9.setCell ⟨b11, 0, none⟩ (.int .i64 3)).setCell ⟨b11, 1, none⟩ (.int .i64 (-8)) = wz at HZ KZ ⊢
    clear q0 q1 y0 y1 hl6
    obtain ⟨q0, q1, y0, y1, hl6⟩ := pair_cells HZ.out
    go_upto_region 9 with fail
  case' inr.inr.inl =>
    have HI := Lib.hid hi
    have HST := Lib.hid (show NewSt t ls s k 0 2 (-10) from .inl ⟨by decide, newF_many (by rw [HSF.out]) ((HIN.out _ hi).2 rfl) hlen⟩)
    have hlq : (2000 : Int) < (ls.length : Int) := by omega
    clear hi
    go_wp2_with fail
    refine (in_val _ HI.out).mono ?_; rintro e w8 ⟨rfl, rfl⟩
    go_wp2_with fail
    refine (at_any _ _ _).mono ?_; rintro e w9 ⟨rfl, hk⟩
    have H9 := Lib.hid (hk.heap H6.out (fun h => h))
    have kp := keeps_pair (w := w9) b11 (.int .i64 2) (.int .i64 (-10))
    have HZ := Lib.hid (pair_set H9.out (.int .i64 2) (.int .i64 (-10)))
    have KZ := Lib.hid ((K46.out.trans hk).trans' kp (fun i hi => .inr (by omega)))
    clear q0 q1 y0 y1 hl6 hk kp hlq hlen
    obtain ⟨q0, q1, y0, y1, hl6⟩ := pair_cells H9.out
    go_upto_region 9 with fail
    generalize (w9.setCell ⟨b11, 0, none⟩ (.int .i64 2)).setCell ⟨b11, 1, none⟩ (.int .i64 (-10)) = wz at HZ KZ ⊢
  case' inr.inr.inr =>
    have HI := Lib.hid hi
    have HST := Lib.hid (show NewSt t ls s k 0 0 0 from .inr ⟨rfl, rfl, (stateFault_zero.1 (by rw [HSF.out])).1, (stateFault_zero.1 (by rw [HSF.out])).2, by have := (HIN.out _ hi).2 rfl; omega, by have := (HIN.out _ hi).2 rfl; omega, by omega, fun l hl => by simp at hl⟩)
    have hlq : ¬ (2000 : Int) < (ls.length : Int) := by omega
    clear hi
    go_wp2_with fail
    refine (in_val _ HI.out).mono ?_; rintro e w8 ⟨rfl, rfl⟩
    have HZ := H6; have KZ := K46
    go_upto_region 9 with fail
    clear hlq hlen
    generalize w8 = wz at HZ KZ ⊢
  all_goals
    go_wp2_with fail
    go_loopw [12] (fun v12 wr => ∃ (i : Nat) (c n : Int), i ≤ ls.length ∧ v12 = .int .i64 (i : Int) ∧ wr.heap[b11]? = some (.cells #[.int .i64 c, .int .i64 n] 29 (0, 0)) ∧ NewSt t ls s k i c n ∧ Keeps (fun _ => False) w4 wr) (fun v12 _ => ls.length - (intOf v12).toNat)
    case atStart => exact ⟨0, _, _, Nat.zero_le _, rfl, HZ.out, HST.out, KZ.out⟩
    case round =>
      obtain ⟨i, c, n, hi, rfl, hblk, hst, hkr⟩ := hrel
      have HBK := Lib.hid hblk; have HNS := Lib.hid hst; have HKR := Lib.hid hkr
      obtain ⟨q0, q1, y0, y1, hl6⟩ := pair_cells hblk
      clear hblk hst hkr
      by_cases hrun : i < ls.length ∧ c = 0
      · obtain ⟨hlt, rfl⟩ := hrun
        have hst2 := HNS.out
        rcases hst2 with ⟨h, _⟩ | ⟨_, rfl, hok, _⟩
        · exact absurd rfl h
        have OK := Lib.hid hok
        clear hok
        obtain ⟨bl, ol, rfl, hx'⟩ := HL4.out.cell rfl (by omega)
        obtain ⟨l, hli⟩ : ∃ l, ls[i]? = some l := ⟨_, List.getElem?_eq_getElem hlt⟩
        obtain ⟨u, hu, hiu⟩ := hx' i l hli
        have HLI := Lib.hid hli
        have hcu := HKR.out.cell hu (fun h => h)
        obtain ⟨au, cu, hfu, _⟩ := hiu.form
        have HIU := Lib.hid (hiu.keeps0 HKR.out)
        subst hfu
        have HBr := HB4.out.keeps0 HKR.out
        have hbx := HBr.lt
        obtain ⟨d0, d1, d2, d3⟩ := HBr
        clear hx' hu hiu hli
        go_upto_region 12 with fail
        go_still_tail 5, (by kernel_rfl)
        change wpList _ _ _ _ _ wr.drew
        have KD := (Keeps.refl (fun _ => False) wr).drew
        have HTD := Lib.hid ((HT4.out.keeps0 HKR.out).keeps0 KD); have HID := Lib.hid (show Ints wr.drew (.slice au l.length cu) l from HIU.out.keeps0 KD)
        have HBD := Lib.hid (KD.heap HBK.out (fun h => h)); have KRD := Lib.hid (HKR.out.trans KD)
        clear KD hcu d0 d1 d2 d3 hbx q0 q1 y0 y1 hl6 HIU HBK HKR
        generalize wr.drew = wd' at HTD HID HBD KRD ⊢
        go_wp2_with fail
        refine (stateOk_any _ _ _ _ _ t l HTD.out HID.out OK.out.n0 (by have := OK.out.n1; omega)).mono ?_; rintro e wq ⟨rfl, hk⟩
        have HBQ := Lib.hid (hk.heap HBD.out (fun h => h)); have KRQ := Lib.hid (KRD.out.trans hk)
        clear hk HTD HID HBD KRD
        cases hb : isSetB l t.n with
        | true =>
          have HN2 := Lib.hid (HNS.out.next HLI.out hb)
          clear hb
          go_wp2_with fail
          go_roundw
          case rel => exact ⟨i + 1, 0, 0, by omega, by go_num, HBQ.out, HN2.out, KRQ.out⟩
          case measure => simp only [intOf]; omega
        | false =>
          have HN2 := Lib.hid (HNS.out.found HLI.out hb)
          clear hb
          go_wp2_with fail
          refine (at_any _ _ _).mono ?_; rintro e wp ⟨rfl, hk⟩
          have HBP := Lib.hid (hk.heap HBQ.out (fun h => h)); have KRP := Lib.hid (KRQ.out.trans hk)
          have kp := keeps_pair (w := wp) b11 (.int .i64 5) (.int .i64 (i : Int))
          have HBS := Lib.hid (pair_set HBP.out (.int .i64 5) (.int .i64 (i : Int)))
          have KRS := Lib.hid (KRP.out.trans' kp (fun i hi => .inr (by omega)))
          clear hk kp HBQ KRQ
          obtain ⟨q0, q1, y0, y1, hl6⟩ := pair_cells HBP.out
          go_wp2_with fail
          go_roundw
          case rel => exact ⟨i + 1, 5, (i : Int), by omega, by go_num, HBS.out, HN2.out, KRS.out⟩
          case measure => simp only [intOf]; omega
      · have KE := Lib.hid (K4.out.trans HKR.out)
        obtain ⟨p0, p1, z0, z1, hl5⟩ := pair_cells (HKR.out.heap HF4.out (fun h => h))
        clear y0 y1 z0 z1
        by_cases hc : c = 0
        · subst hc
          have hie : ¬ i < ls.length := fun h => hrun ⟨h, rfl⟩
          have hst2 := HNS.out
          rcases hst2 with ⟨h, _⟩ | ⟨_, rfl, _⟩
          · exact absurd rfl h
          obtain ⟨hf0, hb0, hk0, hk4⟩ := HNS.out.done (by omega)
          have hf1 : f = (0, 0) := by rw [← HNF.out]; exact hf0
          subst hf1
          have HFR := Lib.hid (show freshL ls s k.toNat [] = nb by rw [← HNB.out, hb0])
          clear hrun hf0 hb0
          by_cases hbig : 40 < ls.length ∨ 12 < s.length
          · have q : decide ((40 : Int) < (ls.length : Int)) = true ∨ (decide ((40 : Int) < (ls.length : Int)) = false ∧ decide ((12 : Int) < (s.length : Int)) = true) := by
              by_cases h0 : 40 < ls.length
              · exact .inl (by simp; omega)
              · exact .inr ⟨by simp; omega, by simp; omega⟩
            clear hbig
            rcases q with q | ⟨q, q'⟩
            all_goals
              go_wp2_with fail
              go_ret
              exact ⟨rfl, KE.out⟩
          · have q : decide ((40 : Int) < (ls.length : Int)) = false := by simp; omega
            have q' : decide ((12 : Int) < (s.length : Int)) = false := by simp; omega
            obtain ⟨kn, rfl⟩ : ∃ kn : Nat, k = (kn : Int) := ⟨k.toNat, by omega⟩
            have hkn : ((kn : Int)).toNat = kn := by omega
            rw [hkn] at HFR
            clear hbig hkn
            go_wp2_with fail
            refine (fresh_any ls s kn _ _ _ _ [] (HL4.out.keeps0 HKR.out) (HS4.out.keeps0 HKR.out) (Ints.nil _) (by simp; omega)).mono ?_; rintro e wq ⟨rfl, hk⟩
            rw [HFR.out]
            have KF := Lib.hid (KE.out.trans hk)
            clear hk
            go_wp2_with fail
            go_ret
            exact ⟨rfl, KF.out⟩
        · have hcn : newF t ls s k = (c, n) := by
            rcases HNS.out with ⟨_, h⟩ | ⟨h, _⟩
            · exact h
            · exact absurd h hc
          have hf1 : f = (c, n) := by rw [← HNF.out]; exact hcn
          have hb1 : nb = false := by rw [← HNB.out]; exact newB_no hcn hc
          subst hf1 hb1
          have hc2 : (c == 0) = false := by simpa using hc
          have hc3 : (c != 0) = true := by simpa using hc
          clear hrun hcn hc
          rcases (Nat.lt_or_ge i ls.length) with hlt | hge
          all_goals
            go_wp2_with fail
            go_ret
            exact ⟨rfl, KE.out⟩

end Go.Proofs.Ytcfcmmajlkkabaa
