/- novelty: the law that new states stay new for greater widths and fewer states. -/
import Derived.Test.YtcfcmmajlkkabaaNNewL
import Derived.Test.YtcfcmmajlkkabaaRowN
namespace Go.Proofs.Ytcfcmmajlkkabaa
open Go.RowKit

theorem badAt_zero {n : Int} : ∀ {ls : List (List Int)} {i : Int}, badAt n ls i = (0, 0) → ∀ l ∈ ls, isSetB l n = true
  | [], _, _, l, hl => by cases hl
  | x :: r, i, h, l, hl => by
    unfold badAt at h
    by_cases hx : isSetB x n = true
    · rw [if_pos hx] at h
      rcases List.mem_cons.1 hl with rfl | hl
      · exact hx
      · exact badAt_zero h l hl
    · rw [if_neg hx] at h; cases h

theorem newF_inv {t : Tsk} {ls : List (List Int)} {s : List Int} {k : Int} (h : newF t ls s k = (0, 0)) : t.Ok ∧ isSetB s t.n = true ∧ 0 ≤ k ∧ k ≤ 4 ∧ ls.length ≤ 2000 ∧ ∀ l ∈ ls, isSetB l t.n = true := by
  by_cases hs : (stateFault t s).1 = 0
  · by_cases hk : k < 0 ∨ 4 < k
    · rw [newF_range hs hk] at h; cases h
    · by_cases hl : 2000 < ls.length
      · rw [newF_many hs hk hl] at h; cases h
      · rw [newF_bad hs hk hl] at h
        obtain ⟨h1, h2⟩ := stateFault_zero.1 hs
        exact ⟨h1, h2, by omega, by omega, by omega, badAt_zero h⟩
  · rw [newF_state hs] at h; rw [h] at hs; exact absurd rfl hs
theorem newF_mk {t : Tsk} {ls : List (List Int)} {s : List Int} {k : Int} (h1 : t.Ok) (h2 : isSetB s t.n = true) (h3 : 0 ≤ k) (h4 : k ≤ 4) (h5 : ls.length ≤ 2000) (h6 : ∀ l ∈ ls, isSetB l t.n = true) :
    newF t ls s k = (0, 0) ∧ newB t ls s k = freshL ls s k.toNat [] := by
  have := (show NewSt t ls s k ls.length 0 0 from .inr ⟨rfl, rfl, h1, h2, h3, h4, h5, fun l hl => h6 l (List.mem_of_mem_take hl)⟩).done (Nat.le_refl _)
  exact ⟨this.1, this.2.1⟩

theorem new_wider {t : Tsk} {ls : List (List Int)} {s : List Int} {a b : Int} (ha : newF t ls s a = (0, 0)) (hb : newF t ls s b = (0, 0)) (hab : a ≤ b) (h : newB t ls s a = true) : newB t ls s b = true := by
  obtain ⟨h1, h2, h3, h4, h5, h6⟩ := newF_inv ha
  obtain ⟨_, _, g3, g4, _, _⟩ := newF_inv hb
  rw [(newF_mk h1 h2 h3 h4 h5 h6).2] at h
  rw [(newF_mk h1 h2 g3 g4 h5 h6).2]
  have hs := (isSet_iff.1 h2).2
  obtain ⟨F, f1, f2, f3, f4⟩ := (freshL_iff hs a.toNat [] (by simp)).1 h
  exact (freshL_iff hs b.toNat [] (by simp)).2 ⟨F, f1, f2, by omega, f4⟩
theorem new_fewer {t : Tsk} {ls : List (List Int)} {s : List Int} {a : Int} (m : Nat) (ha : newF t ls s a = (0, 0)) : newF t (ls.take m) s a = (0, 0) ∧ (newB t ls s a = true → newB t (ls.take m) s a = true) := by
  obtain ⟨h1, h2, h3, h4, h5, h6⟩ := newF_inv ha
  have hl : (ls.take m).length ≤ 2000 := by rw [List.length_take]; omega
  have hm := newF_mk (ls := ls.take m) h1 h2 h3 h4 hl (fun l hl => h6 l (List.mem_of_mem_take hl))
  refine ⟨hm.1, fun h => ?_⟩
  rw [(newF_mk h1 h2 h3 h4 h5 h6).2] at h
  rw [hm.2]
  have hs := (isSet_iff.1 h2).2
  obtain ⟨F, f1, f2, f3, f4⟩ := (freshL_iff hs a.toNat [] (by simp)).1 h
  exact (freshL_iff hs a.toNat [] (by simp)).2 ⟨F, f1, f2, f3, fun l hl => f4 l (List.mem_of_mem_take hl)⟩

theorem badAt_code {n : Int} : ∀ {ls : List (List Int)} {i : Int}, (badAt n ls i).1 = 0 → badAt n ls i = (0, 0)
  | [], _, _ => rfl
  | l :: r, i, h => by
    unfold badAt at h ⊢
    by_cases hx : isSetB l n = true
    · rw [if_pos hx] at h ⊢; exact badAt_code h
    · rw [if_neg hx] at h; cases h
theorem newF_code {t : Tsk} {ls : List (List Int)} {s : List Int} {k : Int} (h : (newF t ls s k).1 = 0) : newF t ls s k = (0, 0) := by
  by_cases hs : (stateFault t s).1 = 0
  · by_cases hk : k < 0 ∨ 4 < k
    · rw [newF_range hs hk] at h; cases h
    · by_cases hl : 2000 < ls.length
      · rw [newF_many hs hk hl] at h; cases h
      · rw [newF_bad hs hk hl] at h ⊢
        exact badAt_code h
  · rw [newF_state hs] at h; exact absurd h hs

set_option maxRecDepth 100000 in
set_option maxHeartbeats 4000000 in
theorem ngrowLaw_any (w : World) (vi vg vo vl vs : Value) (t : Tsk) (ls : List (List Int)) (s : List Int) (a b n : Int) (h : TaskAt w vi vg vo t) (hl : Lists w vl ls) (hr : Room vl ls) (hs : Ints w vs s) :
    Calls Try.prog 9 #[.agg #[.int .i64 t.n, vi, vg, vo], vl, vs, .int .i64 a, .int .i64 b, .int .i64 n] w fun e w' => e = .returned (.bool true) ∧ Keeps (fun _ => False) w w' := by
  obtain ⟨i0, hi0, hz0, hz1, hz2⟩ := info_parts Try.info22
  obtain ⟨ai, ci, h1, _⟩ := h.init.form
  obtain ⟨ag, cg, h2, _⟩ := h.goal.form
  obtain ⟨ao, co, h3, hmo⟩ := h.ops.form
  obtain ⟨aa, cs, h4, hms⟩ := hs.form
  obtain ⟨al, cl, h5, hml⟩ := hl.form
  subst h1 h2 h3 h4 h5
  have HB := Lib.hid (Four.new w (.int .i64 t.n) (.slice ai t.init.length ci) (.slice ag t.goal.length cg) (.slice ao t.ops.length co) 25)
  have K1 := (Keeps.refl (fun _ => False) w).alloc (.cells #[.int .i64 t.n, .slice ai t.init.length ci, .slice ag t.goal.length cg, .slice ao t.ops.length co] 25)
  have HT := Lib.hid (h.keeps0 K1); have HK := Lib.hid K1; have HL := Lib.hid (hl.keeps0 K1); have HS := Lib.hid (show Ints _ (.slice aa s.length cs) s from hs.keeps0 K1)
  have HRM := Lib.hid hr
  clear h K1 hl hs hr
  go_enter Try.func9, Try.ntmps9
  go_upto_region 1 with fail
  generalize (w.alloc (.cells #[.int .i64 t.n, .slice ai t.init.length ci, .slice ag t.goal.length cg, .slice ao t.ops.length co] 25)) = w1 at HB HT HK HL HS ⊢
  generalize w.heap.size = bt at HB ⊢
  go_wp2_with fail
  refine (noveltyExample_any _).mono ?_; rintro e w2 ⟨rfl, hk⟩
  have HB2 := Lib.hid (HB.out.keeps0 hk); have HT2 := Lib.hid (HT.out.keeps0 hk); have K2 := Lib.hid (HK.out.trans hk); have HL2 := Lib.hid (HL.out.keeps0 hk); have HS2 := Lib.hid (show Ints _ (.slice aa s.length cs) s from HS.out.keeps0 hk)
  clear hk HB HT HK HL HS
  have hbx := HB2.out.lt
  obtain ⟨d0, d1, d2, d3⟩ := HB2.out
  go_wp2_with fail
  refine (new_any' _ _ _ _ _ _ t ls s a HT2.out HL2.out HS2.out).mono ?_; rintro e w3 ⟨rfl, hk⟩
  generalize hnf : newF t ls s a = f
  generalize hnb : newB t ls s a = x
  have HNF := Lib.hid hnf; have HNB := Lib.hid hnb
  have KA := hk.alloc (.cells #[.int .i64 f.1, .int .i64 f.2] 29)
  have HF3 := Lib.hid (heap_alloc_new w3 (.cells #[.int .i64 f.1, .int .i64 f.2] 29))
  have HB3 := Lib.hid (HB2.out.keeps0 KA); have HT3 := Lib.hid (HT2.out.keeps0 KA); have K3 := Lib.hid (K2.out.trans KA); have HL3 := Lib.hid (HL2.out.keeps0 KA); have HS3 := Lib.hid (show Ints _ (.slice aa s.length cs) s from HS2.out.keeps0 KA)
  clear hk KA hnf hnb d0 d1 d2 d3 hbx HB2 HT2 K2 HL2 HS2
  simp only [fltV]
  go_upto_region 4 with fail
  generalize w3.alloc (.cells #[.int .i64 f.1, .int .i64 f.2] 29) = w4 at HF3 HB3 HT3 K3 HL3 HS3 ⊢
  generalize w3.heap.size = b10 at HF3 ⊢
  have hbx := HB3.out.lt
  obtain ⟨d0, d1, d2, d3⟩ := HB3.out
  go_wp2_with fail
  refine (new_any' _ _ _ _ _ _ t ls s b HT3.out HL3.out HS3.out).mono ?_; rintro e w5 ⟨rfl, hk⟩
  generalize hnf : newF t ls s b = g
  generalize hnb : newB t ls s b = y
  have HNG := Lib.hid hnf; have HNY := Lib.hid hnb
  have KA := hk.alloc (.cells #[.int .i64 g.1, .int .i64 g.2] 29)
  have HG6 := Lib.hid (heap_alloc_new w5 (.cells #[.int .i64 g.1, .int .i64 g.2] 29))
  have HF6 := Lib.hid (KA.heap HF3.out (fun h => h))
  have HB6 := Lib.hid (HB3.out.keeps0 KA); have HT6 := Lib.hid (HT3.out.keeps0 KA); have K6 := Lib.hid (K3.out.trans KA); have HL6 := Lib.hid (HL3.out.keeps0 KA); have HS6 := Lib.hid (show Ints _ (.slice aa s.length cs) s from HS3.out.keeps0 KA)
  clear hk KA hnf hnb d0 d1 d2 d3 hbx HB3 HT3 K3 HL3 HS3 HF3
  simp only [fltV]
  go_upto_region 5 with fail
  generalize w5.alloc (.cells #[.int .i64 g.1, .int .i64 g.2] 29) = w6 at HG6 HF6 HB6 HT6 K6 HL6 HS6 ⊢
  generalize w5.heap.size = b11 at HG6 ⊢
  obtain ⟨q0, q1, y0, y1, hl6⟩ := pair_cells HG6.out
  obtain ⟨p0, p1, z0, z1, hl5⟩ := pair_cells HF6.out
  clear y0 y1 z0 z1
  by_cases hf : f.1 = 0
  case neg =>
    have hc3 : (f.1 != 0) = true := by simpa using hf
    clear hf
    go_wp2_with fail
    go_ret
    exact ⟨rfl, K6.out⟩
  have hf0 : f = (0, 0) := by rw [← HNF.out]; exact newF_code (by rw [HNF.out]; exact hf)
  subst hf0
  clear hf
  by_cases hg : g.1 = 0
  case neg =>
    have hc3 : (g.1 != 0) = true := by simpa using hg
    clear hg
    go_wp2_with fail
    go_ret
    exact ⟨rfl, K6.out⟩
  have hg0 : g = (0, 0) := by rw [← HNG.out]; exact newF_code (by rw [HNG.out]; exact hg)
  subst hg0
  clear hg
  cases hi : inB n 0 (ls.length : Int) with
  | false =>
    have HI := Lib.hid hi
    clear hi
    go_wp2_with fail
    refine (in_val _ HI.out).mono ?_; rintro e w8 ⟨rfl, rfl⟩
    go_wp2_with fail
    go_ret
    exact ⟨rfl, K6.out⟩
  | true =>
    have HI := Lib.hid hi
    obtain ⟨m, rfl, hmle⟩ : ∃ m : Nat, n = (m : Int) ∧ m ≤ ls.length := by
      unfold inB at hi
      simp at hi
      exact ⟨n.toNat, by omega, by omega⟩
    have hmcl : m ≤ cl := by
      rcases HRM.out with ⟨h1, h2⟩ | ⟨a', cl', h1, h2⟩
      · rw [h2] at hmle; simp at hmle; omega
      · simp only [Value.slice.injEq] at h1; omega
    have HFW := Lib.hid (new_fewer m HNF.out)
    have HWD := Lib.hid (fun hab => new_wider HNF.out HNG.out hab)
    clear hi
    go_wp2_with fail
    refine (in_val _ HI.out).mono ?_; rintro e w8 ⟨rfl, rfl⟩
    have hbx := HB6.out.lt
    obtain ⟨d0, d1, d2, d3⟩ := HB6.out
    go_upto_region 7 with fail
    have hro : (al = none ∧ m = 0 ∧ cl = 0 ∧ ls = []) ∨ (∃ a', al = some a') := by
      rcases HRM.out with ⟨h1, h2⟩ | ⟨a', cl', h1, h2⟩
      · simp only [Value.slice.injEq] at h1
        rw [h2] at hmle; simp at hmle
        exact .inl ⟨h1.1, hmle, h1.2.2, h2⟩
      · simp only [Value.slice.injEq] at h1
        exact .inr ⟨a', h1.1⟩
    have KD := (Keeps.refl (fun _ => False) w8).drew
    have HTD := Lib.hid (HT6.out.keeps0 KD); have HSD := Lib.hid (show Ints w8.drew (.slice aa s.length cs) s from HS6.out.keeps0 KD); have KRD := Lib.hid (K6.out.trans KD)
    have HGD := Lib.hid (KD.heap HG6.out (fun h => h)); have HFD := Lib.hid (KD.heap HF6.out (fun h => h))
    have HLD : Hid (Lists w8.drew (.slice al m cl) (ls.take m)) := by
      unfold Hid
      rcases hro with ⟨rfl, rfl, rfl, rfl⟩ | ⟨a', rfl⟩
      · exact HL6.out.keeps0 KD
      · exact Lists.take (HL6.out.keeps0 KD) hmle
    obtain ⟨lt, hlt⟩ : ∃ lt, ls.take m = lt := ⟨_, rfl⟩
    rw [hlt] at HLD HFW
    obtain ⟨z, hnz⟩ : ∃ z, newB t lt s a = z := ⟨_, rfl⟩
    have HNZ := Lib.hid hnz
    have HXZ := Lib.hid (show x = true → z = true from fun h => by rw [← HNB.out] at h; rw [← HNZ.out]; exact HFW.out.2 h)
    have HXY := Lib.hid (show a ≤ b → x = true → y = true from fun hab h => by rw [← HNB.out] at h; rw [← HNY.out]; exact HWD.out hab h)
    clear hlt HWD hnz
    rcases hro with ⟨rfl, rfl, rfl, rfl⟩ | ⟨a', rfl⟩
    all_goals
      clear p0 p1 q0 q1 hl5 hl6
      have KA8 : Keeps (fun _ => False) w8.drew (w8.alloc (.cells #[.int .i64 0, .int .i64 0] 29)).drew := by
        have h := (Keeps.refl (fun _ => False) w8.drew).alloc (.cells #[.int .i64 0, .int .i64 0] 29)
        exact h
      have HZ8 := Lib.hid (show (w8.alloc (.cells #[.int .i64 0, .int .i64 0] 29)).drew.heap[w8.heap.size]? = some (.cells #[.int .i64 0, .int .i64 0] 29 (0, 0)) from heap_alloc_new w8 _)
      obtain ⟨d0', d1', d2', d3'⟩ := ((HB6.out.keeps0 KD).keeps0 KA8)
      go_region_held3 (fun w' => w'.cell? ⟨bt, 0, none⟩ = some (.int .i64 t.n) ∧ w'.cell? ⟨bt, 1, none⟩ = some (.slice ai t.init.length ci) ∧ w'.cell? ⟨bt, 2, none⟩ = some (.slice ag t.goal.length cg) ∧ w'.cell? ⟨bt, 3, none⟩ = some (.slice ao t.ops.length co))
        (go_keep)
        (first
          | (go_at_call 39; refine (new_any' w8.drew _ _ _ _ _ t lt s a HTD.out HLD.out HSD.out).mono ?_; rintro e w9 ⟨rfl, hk⟩; rw [HFW.out.1, HNZ.out]; simp only [fltV]; have KE := Lib.hid (KRD.out.trans hk); have t0 := hk.cell d0 (fun h => h); have t1 := hk.cell d1 (fun h => h); have t2 := hk.cell d2 (fun h => h); have t3 := hk.cell d3 (fun h => h); clear hk)
          | (go_at_call 39; refine (new_any' (w8.alloc (.cells #[.int .i64 0, .int .i64 0] 29)).drew _ _ _ _ _ t lt s a (HTD.out.keeps0 KA8) (HLD.out.keeps0 KA8) (HSD.out.keeps0 KA8)).mono ?_; rintro e w9 ⟨rfl, hk⟩; rw [HFW.out.1, HNZ.out]; simp only [fltV]; have KE := Lib.hid ((KRD.out.trans KA8).trans hk); have HZ9 := Lib.hid (hk.heap HZ8.out (fun h => h)); obtain ⟨q0, q1, y0, y1, hl6⟩ := pair_cells HZ9.out; have e0 := setCell_id q0; have e1 := setCell_id q1; have t0 := hk.cell d0' (fun h => h); have t1 := hk.cell d1' (fun h => h); have t2 := hk.cell d2' (fun h => h); have t3 := hk.cell d3' (fun h => h); clear hk))
      all_goals
        first
          | (have HFZ := Lib.hid HZ9.out
             have KF := Lib.hid KE.out
             clear t0 t1 t2 t3 q0 q1 y0 y1 e0 e1 HZ9 hl6
             generalize w9 = wz at HFZ KF ⊢
             generalize w8.heap.size = b12 at HFZ ⊢)
          | (have HFZ := Lib.hid (heap_alloc_new w9 (.cells #[.int .i64 0, .int .i64 0] 29))
             have KF := Lib.hid (KE.out.alloc (.cells #[.int .i64 0, .int .i64 0] 29))
             clear t0 t1 t2 t3
             generalize w9.alloc (.cells #[.int .i64 0, .int .i64 0] 29) = wz at HFZ KF ⊢
             generalize w9.heap.size = b12 at HFZ ⊢)
        obtain ⟨r0, r1, y3, y4, hl7⟩ := pair_cells HFZ.out
        clear y3 y4
        cases x with
        | false =>
          rcases Int.lt_or_le b a with hab | hab
          all_goals
            go_wp2_with fail
            go_ret
            exact ⟨rfl, KF.out⟩
        | true =>
          have hzt := HXZ.out rfl
          subst hzt
          rcases Int.lt_or_le b a with hab | hab
          · go_wp2_with fail
            go_ret
            exact ⟨rfl, KF.out⟩
          · have hyt := HXY.out hab rfl
            subst hyt
            go_wp2_with fail
            go_ret
            exact ⟨rfl, KF.out⟩

end Go.Proofs.Ytcfcmmajlkkabaa
