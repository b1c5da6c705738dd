/- novelty.New. -/
import Derived.Test.YtcfcmmajlkkabaaCover
import Derived.Test.YtcfcmmajlkkabaaLists
import Derived.Test.YtcfcmmajlkkabaaAll
import Derived.Test.YtcfcmmajlkkabaaReachW
namespace Go.Proofs.Ytcfcmmajlkkabaa
open Go.RowKit

/-- The fault of the first list that is no set. -/
def badAt (n : Int) : List (List Int) → Int → Int × Int
  | [], _ => (0, 0)
  | l :: r, i => if isSetB l n = true then badAt n r (i + 1) else (5, i)

def newF (t : Tsk) (ls : List (List Int)) (s : List Int) (k : Int) : Int × Int :=
  if (stateFault t s).1 ≠ 0 then stateFault t s else if k < 0 ∨ 4 < k then (3, -8) else if 2000 < ls.length then (2, -10) else badAt t.n ls 0
def newB (t : Tsk) (ls : List (List Int)) (s : List Int) (k : Int) : Bool := (newF t ls s k == (0, 0)) && !covN (wd s) (ls.map wd) k.toNat 0

theorem badAt_set {n : Int} : ∀ {ls : List (List Int)} {i : Int}, (∀ l ∈ ls, isSetB l n = true) → badAt n ls i = (0, 0)
  | [], _, _ => rfl
  | l :: r, i, h => by
    unfold badAt
    rw [if_pos (h l (List.mem_cons_self ..))]
    exact badAt_set (fun l hl => h l (List.mem_cons_of_mem _ hl))
theorem badAt_at {n : Int} : ∀ {ls : List (List Int)} {j : Nat} {i : Int} {l : List Int}, (∀ l ∈ ls.take j, isSetB l n = true) → ls[j]? = some l → isSetB l n = false → badAt n ls i = (5, i + (j : Int))
  | [], _, _, _, _, h, _ => by simp at h
  | l :: r, 0, i, l', _, h, hb => by
    simp at h; subst h
    unfold badAt
    rw [if_neg (by rw [hb]; simp)]; simp
  | l :: r, j + 1, i, l', h1, h, hb => by
    unfold badAt
    rw [if_pos (h1 l (by simp)), badAt_at (j := j) (fun l hl => h1 l (by simp [hl])) (by simpa using h) hb]
    simp; omega

def NewPost (t : Tsk) (ls : List (List Int)) (s : List Int) (k : Int) (w : World) (e : Ending) (w' : World) : Prop :=
  e = .returned (.tuple #[.bool (newB t ls s k), fltV (newF t ls s k).1 (newF t ls s k).2]) ∧ Keeps (fun _ => False) w w'

set_option maxRecDepth 100000 in
set_option maxHeartbeats 4000000 in
theorem new_any' (w : World) (vi vg vo vl vs : Value) (t : Tsk) (ls : List (List Int)) (s : List Int) (k : Int) (h : TaskAt w vi vg vo t) (hl : Lists w vl ls) (hs : Ints w vs s) :
    Calls Try.prog 39 #[.agg #[.int .i64 t.n, vi, vg, vo], vl, vs, .int .i64 k] w (NewPost t ls s k w) := by
  obtain ⟨j0, hj0, jz0, jz1, jz2⟩ := info_parts Try.info_u32
  obtain ⟨ai, ci, h1, _⟩ := h.init.form
  obtain ⟨ag, cg, h2, _⟩ := h.goal.form
  obtain ⟨ao, co, h3, hmo⟩ := h.ops.form
  obtain ⟨aa, cs, h4, _⟩ := hs.form
  obtain ⟨al, cl, h5, hml⟩ := hl.form
  have K1 := (Keeps.refl (fun _ => False) w).alloc (.cells #[.int .i64 t.n, vi, vg, vo] 25)
  have HT := h.keeps0 (K1.alloc (.cells #[.int .i64 0, .int .i64 0] 29))
  have HSS : Ints _ _ s := hs.keeps0 (K1.alloc (.cells #[.int .i64 0, .int .i64 0] 29))
  have HL : Lists _ _ ls := hl.keeps0 (K1.alloc (.cells #[.int .i64 0, .int .i64 0] 29))
  have HB := (Four.new w (.int .i64 t.n) vi vg vo 25).keeps0 ((Keeps.refl _ _).alloc (.cells #[.int .i64 0, .int .i64 0] 29))
  have HF : Flt w ((w.alloc (.cells #[.int .i64 t.n, vi, vg, vo] 25)).alloc (.cells #[.int .i64 0, .int .i64 0] 29)) (w.heap.size + 1) 29 :=
    ⟨by have := heap_alloc_new (w.alloc (.cells #[.int .i64 t.n, vi, vg, vo] 25)) (.cells #[.int .i64 0, .int .i64 0] 29); rwa [World.size_alloc] at this, by omega, K1.alloc _⟩
  subst h1 h2 h3 h4 h5
  replace HT := Lib.hid HT; replace HB := Lib.hid HB; replace HF := Lib.hid HF; replace HSS := Lib.hid HSS; replace HL := Lib.hid HL
  clear h hs K1 hl
  go_enter Try.func39, Try.ntmps39
  go_upto_region 1 with fail
  generalize ((w.alloc (.cells #[.int .i64 t.n, .slice ai t.init.length ci, .slice ag t.goal.length cg, .slice ao t.ops.length co] 25)).alloc (.cells #[.int .i64 0, .int .i64 0] 29)) = w1 at HT HB HF HSS HL ⊢
  have hbx := HB.out.lt
  obtain ⟨d0, d1, d2, d3⟩ := HB.out
  go_wp2_with fail
  refine (stateFault_any _ _ _ _ _ t s HT.out HSS.out).mono ?_; rintro e w2 ⟨rfl, hk⟩
  have HF2 := Lib.hid (HF.out.keeps0 hk)
  have HB2 := Lib.hid (HB.out.keeps0 hk)
  have HS2 := Lib.hid (show Ints w2 (.slice aa s.length cs) s from HSS.out.keeps0 hk)
  have HL2 := Lib.hid (HL.out.keeps0 hk)
  clear d0 d1 d2 d3 hk
  by_cases hc : (stateFault t s).1 = 0
  · obtain ⟨hok, hset⟩ := stateFault_zero.1 hc
    have hft := stateFault_ok hc
    have NF : Hid (newF t ls s k = if k < 0 ∨ 4 < k then (3, -8) else if 2000 < ls.length then (2, -10) else badAt t.n ls 0) := by
      unfold Hid newF; rw [if_neg (by simpa using hc)]
    rw [hft]
    have OK := Lib.hid hok; have SET := Lib.hid hset
    clear hc hft hok hset
    have KA := (Keeps.refl (fun _ => False) w2).alloc (.cells #[.int .i64 0, .int .i64 0] 29)
    have HF3 := Lib.hid (HF2.out.keeps0 KA); have HB3 := Lib.hid (HB2.out.keeps0 KA); have HS3 := Lib.hid (show Ints _ (.slice aa s.length cs) s from HS2.out.keeps0 KA); have HL3 := Lib.hid (HL2.out.keeps0 KA)
    have F0 := heap_alloc_new w2 (.cells #[.int .i64 0, .int .i64 0] 29)
    clear KA
    go_upto_region 2 with fail
    generalize w2.alloc (.cells #[.int .i64 0, .int .i64 0] 29) = w3 at HF3 HB3 HS3 HL3 F0 ⊢
    have f0 : w3.cell? ⟨w2.heap.size, 0, none⟩ = some (.int .i64 0) := by rw [cell_of_blk F0]; rfl
    have f1 : w3.cell? ⟨w2.heap.size, 1, none⟩ = some (.int .i64 0) := by rw [cell_of_blk F0]; rfl
    obtain ⟨d0, d1, d2, d3⟩ := HB3.out
    obtain ⟨e0, e1, z0, z1, hF⟩ := HF3.out.cells
    have hbx3 := HB3.out.lt
    clear F0
    by_cases hk : k < 0 ∨ 4 < k
    · have NF2 : Hid (newF t ls s k = (3, -8)) := by unfold Hid; rw [NF.out, if_pos hk]
      have NB : Hid (newB t ls s k = false) := by unfold Hid newB; rw [NF2.out]; rfl
      have q : (decide (k < 0) = true) ∨ (decide (k < 0) = false ∧ decide (4 < k) = true) := by
        by_cases h0 : k < 0
        · exact .inl (by simpa using h0)
        · exact .inr ⟨by simpa using h0, by simpa using hk.resolve_left h0⟩
      clear hk
      rcases q with q | ⟨q, q2⟩
      all_goals
        go_wp2_with fail
        refine bodyPost_ret (results_tmp_cell _ _ (w.heap.size + 1) 29 #[.int .i64 3, .int .i64 (-8)] (0, 0) _ rfl rfl (HF3.out.set (.int .i64 3) (.int .i64 (-8))).1 Try.underlying29 rfl (by kernel_rfl)) rfl ?_
        exact ⟨by rw [NB.out, NF2.out]; rfl, (HF3.out.set _ _).2⟩
    · have q1 : decide (k < 0) = false := by simp; omega
      have q2 : decide (4 < k) = false := by simp; omega
      by_cases hlen : 2000 < ls.length
      · have NF2 : Hid (newF t ls s k = (2, -10)) := by unfold Hid; rw [NF.out, if_neg hk, if_pos hlen]
        have NB : Hid (newB t ls s k = false) := by unfold Hid newB; rw [NF2.out]; rfl
        have q3 : decide ((2000 : Int) < (ls.length : Int)) = true := by simp; omega
        clear hk hlen
        go_wp2_with fail
        refine bodyPost_ret (results_tmp_cell _ _ (w.heap.size + 1) 29 #[.int .i64 2, .int .i64 (-10)] (0, 0) _ rfl rfl (HF3.out.set (.int .i64 2) (.int .i64 (-10))).1 Try.underlying29 rfl (by kernel_rfl)) rfl ?_
        exact ⟨by rw [NB.out, NF2.out]; rfl, (HF3.out.set _ _).2⟩
      · have NF2 : Hid (newF t ls s k = badAt t.n ls 0) := by unfold Hid; rw [NF.out, if_neg hk, if_neg hlen]
        have q3 : decide ((2000 : Int) < (ls.length : Int)) = false := by simp; omega
        have hlen2 : ls.length ≤ 2000 := by omega
        have hk2 : 0 ≤ k ∧ k ≤ 4 := by omega
        have HCL := Lib.hid (fun h0 => HL3.out.cell (ao := al) (n := ls.length) (cap := cl) rfl h0)
        have n1 := OK.out.n1
        clear hk hlen d0 d1 d2 d3 e0 e1 z0 z1
        go_wp2_with fail
        go_loopw [11, 34] (fun v11 v34 wr => ∃ (i : Nat), i ≤ ls.length ∧ v34 = .int .i64 (i : Int) ∧ wr.ownsRow w3.heap.size 90 1 v11 i (((ls.take i).map wd).map encW) ∧ (∀ l ∈ ls.take i, isSetB l t.n = true) ∧ Keeps (fun _ => False) w3 wr) (fun _ v34 _ => ls.length - (intOf v34).toNat)
        case atStart => exact ⟨0, Nat.zero_le _, rfl, World.ownsRow_nil _ _ _ _, fun l hl => by simp at hl, Keeps.refl _ _⟩
        case round =>
          obtain ⟨i, hi, rfl, hrow, hsets, hkr⟩ := hrel
          have HR := Lib.hid hrow; have HKR := Lib.hid hkr; have HSE := Lib.hid hsets
          have hsz := hkr.size
          obtain ⟨ar, cr, har⟩ := ownsRow_form1 hrow
          subst har
          have HBr := Lib.hid (HB3.out.keeps0 hkr)
          have HFr := Lib.hid (HF3.out.keeps0 hkr)
          have HSr := Lib.hid (show Ints wr (.slice aa s.length cs) s from HS3.out.keeps0 hkr)
          obtain ⟨d0, d1, d2, d3⟩ := HBr.out
          obtain ⟨e0, e1, z0, z1, hF2⟩ := HFr.out.cells
          clear hrow hsets hkr
          by_cases hlt : i < ls.length
          · obtain ⟨bl, ol, rfl, hx'⟩ := HCL.out (by omega)
            obtain ⟨l, hl⟩ : ∃ l, ls[i]? = some l := ⟨_, List.getElem?_eq_getElem hlt⟩
            obtain ⟨u, hu, hiu⟩ := hx' i l hl
            have hu2 := HKR.out.cell hu (fun h => h)
            have HU := Lib.hid (show Ints wr u l from hiu.keeps0 HKR.out)
            obtain ⟨au, cu, hfu, _⟩ := hiu.form
            subst hfu
            have HTK := Lib.hid (take_getS hl)
            have HLI := Lib.hid hl
            clear hx' hl hu hiu
            go_wp2_with fail
            refine (sIsSet_any _ _ l t.n HU.out).mono ?_; rintro e w4 ⟨rfl, rfl⟩
            cases hb : isSetB l t.n with
            | false =>
              have NF3 : Hid (newF t ls s k = (5, (i : Int))) := by unfold Hid; rw [NF2.out, badAt_at HSE.out HLI.out hb]; simp
              have NB : Hid (newB t ls s k = false) := by
                unfold Hid newB; rw [NF3.out]; rfl
              clear hb
              go_wp2_with fail
              refine bodyPost_ret (results_tmp_cell _ _ (w.heap.size + 1) 29 #[.int .i64 5, .int .i64 (i : Int)] (0, 0) _ rfl rfl (HFr.out.set (.int .i64 5) (.int .i64 (i : Int))).1 Try.underlying29 rfl (by kernel_rfl)) rfl ?_
              exact ⟨by rw [NB.out, NF3.out]; rfl, (HFr.out.set _ _).2⟩
            | true =>
              have HSB := Lib.hid hb
              clear hb
              go_wp2_with fail
              refine (word_any _ _ l HU.out (fun x hx => by have := (isSet_iff.1 HSB.out).1 x hx; omega)).mono ?_; rintro e w4 ⟨rfl, rfl⟩
              go_wp2_with (at_builtin; refine wpList_append_d rfl _ _ _ rfl w3.heap.size 90 j0 _ 1 4 Try.underlying85 hj0 jz0 jz1 jz2 rfl (by omega) _ i (((ls.take i).map wd).map encW) (by rfl) (World.ownsRow.alloc HR.out (.cells #[.int .u32 (wd l : Nat)] 90)) ⟨wr.heap.size, 0, none⟩ 1 1 [.int .u32 (wd l : Nat)] (by rfl) (by rfl) (World.news_of_block (cs := #[.int .u32 (wd l : Nat)]) (t := 90) (fr := (0, 0)) (heap_alloc_new _ _)) (by simp [Value.oneCell']) (by omega) (by unfold maxLen; omega) (by omega) (by simp; omega) (wr.heap.size + 1) (by simp) ?_)
              intro gg cap2 w5 hown hgrow hat hlt5 hd5
              have HROW : Hid (w5.ownsRow w3.heap.size 90 1 (.slice (some ⟨gg, 0, none⟩) (i + 1) cap2) (i + 1) (((ls.take (i + 1)).map wd).map encW)) := by
                unfold Hid
                have e : List.take i (ls.map (encW ∘ wd)) = ((ls.take i).map wd).map encW := by rw [← List.map_take, List.map_map]
                rw [e] at hown
                rw [HTK.out, List.map_append, List.map_append]; exact hown
              have HSE2 : Hid (∀ x ∈ ls.take (i + 1), isSetB x t.n = true) := by
                unfold Hid
                rw [HTK.out]
                intro x hx
                rcases List.mem_append.1 hx with hx | hx
                · exact HSE.out x hx
                · simp at hx; subst hx; exact HSB.out
              have HK5 := Lib.hid (own_grown HR.out HKR.out ((Keeps.refl _ wr).alloc (.cells #[.int .u32 (wd l : Nat)] 90)) hgrow)
              clear hown hgrow hat hd5 d0 d1 d2 d3 e0 e1 z0 z1
              go_wp2_with fail
              go_roundw
              case rel => exact ⟨i + 1, by omega, by go_num, HROW.out, HSE2.out, HK5.out⟩
              case measure => simp only [intOf]; omega
          · have hie : i = ls.length := by omega
            subst hie
            have HSE2 : Hid (∀ l ∈ ls, isSetB l t.n = true) := by unfold Hid; have h := HSE.out; rwa [List.take_length] at h
            have NF3 : Hid (newF t ls s k = (0, 0)) := by unfold Hid; rw [NF2.out, badAt_set HSE2.out]
            have NB : Hid (newB t ls s k = !covN (wd s) (ls.map wd) k.toNat 0) := by
              unfold Hid newB; rw [NF3.out]; simp
            have HW := Lib.hid (show Wds wr (.slice ar ls.length cr) (ls.map wd) by
              have h := Sl.of_own HR.out
              rw [List.take_length] at h
              unfold Wds; rw [List.length_map]; exact h)
            go_wp2_with fail
            refine (word_any _ _ s HSr.out (fun x hx => by have := (isSet_iff.1 SET.out).1 x hx; omega)).mono ?_; rintro e w4 ⟨rfl, rfl⟩
            obtain ⟨kn, rfl⟩ : ∃ kn : Nat, k = (kn : Int) := ⟨k.toNat, by omega⟩
            go_wp2_with fail
            refine (covered_any (wd s) ?_ (ls.map wd) ?_ kn _ _ 0 (by omega) (by omega) HW.out).mono ?_
            · exact wd_lt (n := 32) (fun x hx => by have := (isSet_iff.1 SET.out).1 x hx; omega)
            · intro x hx
              obtain ⟨l, hl, rfl⟩ := List.mem_map.1 hx
              exact wd_lt (n := 32) (fun x hx => by have := (isSet_iff.1 (HSE2.out l hl)).1 x hx; omega)
            rintro e w5 ⟨rfl, hk5, hd5⟩
            have HF5 := Lib.hid (HFr.out.keeps0 hk5)
            have hkn : ((kn : Int)).toNat = kn := by omega
            clear d0 d1 d2 d3 e0 e1 z0 z1 hF2
            obtain ⟨e0, e1, z0, z1, hF2⟩ := HF5.out.cells
            clear hk5
            go_wp2_with fail
            refine bodyPost_ret (results_tmp_cell _ _ (w.heap.size + 1) 29 #[.int .i64 0, .int .i64 0] (0, 0) _ rfl rfl (HF5.out.set (.int .i64 0) (.int .i64 0)).1 Try.underlying29 rfl (by kernel_rfl)) rfl ?_
            exact ⟨by rw [NB.out, NF3.out, hkn]; rfl, (HF5.out.set _ _).2⟩
  · have hc2 : ((stateFault t s).1 == 0) = false := by simpa using hc
    have NF2 : Hid (newF t ls s k = stateFault t s) := by unfold Hid newF; rw [if_pos hc]
    have NB : Hid (newB t ls s k = false) := by
      unfold Hid newB
      rw [NF2.out]
      have : (stateFault t s == (0, 0)) = false := by
        rw [beq_eq_false_iff_ne]; intro h; rw [h] at hc; exact hc rfl
      rw [this]; rfl
    clear hc
    generalize hfe : stateFault t s = f at hc2 NF2 ⊢
    clear hfe
    have HF3 := Lib.hid (HF2.out.keeps0 ((Keeps.refl _ _).alloc (.cells #[.int .i64 f.1, .int .i64 f.2] 29)))
    obtain ⟨e0, e1, z0, z1, hF⟩ := HF3.out.cells
    go_wp2_with fail
    go_region
    all_goals
      go_wp2
      refine bodyPost_ret (results_tmp_cell _ _ (w.heap.size + 1) 29 #[.int .i64 f.1, .int .i64 f.2] (0, 0) _ rfl rfl (((Keeps.refl (fun _ => False) _).drew).heap (HF3.out.set (.int .i64 f.1) (.int .i64 f.2)).1 (fun h => h)) Try.underlying29 rfl (by kernel_rfl)) rfl ?_
      exact ⟨by rw [NB.out, NF2.out]; rfl, ((HF3.out.set (.int .i64 f.1) (.int .i64 f.2)).2).drew⟩

end Go.Proofs.Ytcfcmmajlkkabaa
