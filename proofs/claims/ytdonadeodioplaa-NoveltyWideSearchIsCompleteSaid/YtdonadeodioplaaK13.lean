/- novelty.New. noResult, isOne, StateFault of the reference. novelty's example. novelty: NoveltyWideSearchIsComplete walked. The rows' frame: arguments of type api.Task and []int, read. No condition beyond what each theorem says. -/
import Derived.Test.YtdonadeodioplaaK11
import Derived.Test.YtdonadeodioplaaK4
import Derived.Test.YtdonadeodioplaaK5
import Derived.Test.YtdonadeodioplaaK9
import Derived.Test.YtdonadeodioplaaK12
import Derived.Test.YtdonadeodioplaaK2
import Derived.Test.YtdonadeodioplaaRows
import Derived.ProofKit
import Derived.Deep.SlicePairs
import Derived.Lib.SmallJoins

namespace Go.Proofs.Ytdonadeodioplaa
open Go.RowKit

/-- The fault of the first list that is no set. -/
def badAt (n : Int) : List (List Int) → Int → Int × Int
  | [], _ => (0, 0)
  | l :: r, i => if isSetB l n = true then badAt n r (i + 1) else (5, i)

def newF (t : Tsk) (ls : List (List Int)) (s : List Int) (k : Int) : Int × Int :=
  if (stateFault t s).1 ≠ 0 then stateFault t s else if k < 0 ∨ 4 < k then (3, -8) else if 2000 < ls.length then (2, -10) else badAt t.n ls 0
def newB (t : Tsk) (ls : List (List Int)) (s : List Int) (k : Int) : Bool := (newF t ls s k == (0, 0)) && !covN (wd s) (ls.map wd) k.toNat 0

theorem badAt_set {n : Int} : ∀ {ls : List (List Int)} {i : Int}, (∀ l ∈ ls, isSetB l n = true) → badAt n ls i = (0, 0)
  | [], _, _ => rfl
  | l :: r, i, h => by
    unfold badAt
    rw [if_pos (h l (List.mem_cons_self ..))]
    exact badAt_set (fun l hl => h l (List.mem_cons_of_mem _ hl))
theorem badAt_at {n : Int} : ∀ {ls : List (List Int)} {j : Nat} {i : Int} {l : List Int}, (∀ l ∈ ls.take j, isSetB l n = true) → ls[j]? = some l → isSetB l n = false → badAt n ls i = (5, i + (j : Int))
  | [], _, _, _, _, h, _ => by simp at h
  | l :: r, 0, i, l', _, h, hb => by
    simp at h; subst h
    unfold badAt
    rw [if_neg (by rw [hb]; simp)]; simp
  | l :: r, j + 1, i, l', h1, h, hb => by
    unfold badAt
    rw [if_pos (h1 l (by simp)), badAt_at (j := j) (fun l hl => h1 l (by simp [hl])) (by simpa using h) hb]
    simp; omega

def NewPost (t : Tsk) (ls : List (List Int)) (s : List Int) (k : Int) (w : World) (e : Ending) (w' : World) : Prop :=
  e = .returned (.tuple #[.bool (newB t ls s k), fltV (newF t ls s k).1 (newF t ls s k).2]) ∧ Keeps (fun _ => False) w w'

set_option maxRecDepth 100000 in
set_option maxHeartbeats 4000000 in
theorem new_any' (w : World) (vi vg vo vl vs : Value) (t : Tsk) (ls : List (List Int)) (s : List Int) (k : Int) (h : TaskAt w vi vg vo t) (hl : Lists w vl ls) (hs : Ints w vs s) :
    Calls Try.prog 64 #[.agg #[.int .i64 t.n, vi, vg, vo], vl, vs, .int .i64 k] w (NewPost t ls s k w) := by
  obtain ⟨j0, hj0, jz0, jz1, jz2⟩ := info_parts Try.info_u32
  obtain ⟨ai, ci, h1, _⟩ := h.init.form
  obtain ⟨ag, cg, h2, _⟩ := h.goal.form
  obtain ⟨ao, co, h3, hmo⟩ := h.ops.form
  obtain ⟨aa, cs, h4, _⟩ := hs.form
  obtain ⟨al, cl, h5, hml⟩ := hl.form
  have K1 := (Keeps.refl (fun _ => False) w).alloc (.cells #[.int .i64 t.n, vi, vg, vo] 25)
  have HT := h.keeps0 (K1.alloc (.cells #[.int .i64 0, .int .i64 0] 30))
  have HSS : Ints _ _ s := hs.keeps0 (K1.alloc (.cells #[.int .i64 0, .int .i64 0] 30))
  have HL : Lists _ _ ls := hl.keeps0 (K1.alloc (.cells #[.int .i64 0, .int .i64 0] 30))
  have HB := (Four.new w (.int .i64 t.n) vi vg vo 25).keeps0 ((Keeps.refl _ _).alloc (.cells #[.int .i64 0, .int .i64 0] 30))
  have HF : Flt w ((w.alloc (.cells #[.int .i64 t.n, vi, vg, vo] 25)).alloc (.cells #[.int .i64 0, .int .i64 0] 30)) (w.heap.size + 1) 30 :=
    ⟨by have := heap_alloc_new (w.alloc (.cells #[.int .i64 t.n, vi, vg, vo] 25)) (.cells #[.int .i64 0, .int .i64 0] 30); rwa [World.size_alloc] at this, by omega, K1.alloc _⟩
  subst h1 h2 h3 h4 h5
  replace HT := Lib.hid HT; replace HB := Lib.hid HB; replace HF := Lib.hid HF; replace HSS := Lib.hid HSS; replace HL := Lib.hid HL
  clear h hs K1 hl
  go_enter Try.func64, Try.ntmps64
  go_upto_region 1 with fail
  generalize ((w.alloc (.cells #[.int .i64 t.n, .slice ai t.init.length ci, .slice ag t.goal.length cg, .slice ao t.ops.length co] 25)).alloc (.cells #[.int .i64 0, .int .i64 0] 30)) = w1 at HT HB HF HSS HL ⊢
  have hbx := HB.out.lt
  obtain ⟨d0, d1, d2, d3⟩ := HB.out
  go_wp2_with fail
  refine (stateFault_any _ _ _ _ _ t s HT.out HSS.out).mono ?_; rintro e w2 ⟨rfl, hk⟩
  have HF2 := Lib.hid (HF.out.keeps0 hk)
  have HB2 := Lib.hid (HB.out.keeps0 hk)
  have HS2 := Lib.hid (show Ints w2 (.slice aa s.length cs) s from HSS.out.keeps0 hk)
  have HL2 := Lib.hid (HL.out.keeps0 hk)
  clear d0 d1 d2 d3 hk
  by_cases hc : (stateFault t s).1 = 0
  · obtain ⟨hok, hset⟩ := stateFault_zero.1 hc
    have hft := stateFault_ok hc
    have NF : Hid (newF t ls s k = if k < 0 ∨ 4 < k then (3, -8) else if 2000 < ls.length then (2, -10) else badAt t.n ls 0) := by
      unfold Hid newF; rw [if_neg (by simpa using hc)]
    rw [hft]
    have OK := Lib.hid hok; have SET := Lib.hid hset
    clear hc hft hok hset
    have KA := (Keeps.refl (fun _ => False) w2).alloc (.cells #[.int .i64 0, .int .i64 0] 30)
    have HF3 := Lib.hid (HF2.out.keeps0 KA); have HB3 := Lib.hid (HB2.out.keeps0 KA); have HS3 := Lib.hid (show Ints _ (.slice aa s.length cs) s from HS2.out.keeps0 KA); have HL3 := Lib.hid (HL2.out.keeps0 KA)
    have F0 := heap_alloc_new w2 (.cells #[.int .i64 0, .int .i64 0] 30)
    clear KA
    go_upto_region 2 with fail
    generalize w2.alloc (.cells #[.int .i64 0, .int .i64 0] 30) = w3 at HF3 HB3 HS3 HL3 F0 ⊢
    have f0 : w3.cell? ⟨w2.heap.size, 0, none⟩ = some (.int .i64 0) := by rw [cell_of_blk F0]; rfl
    have f1 : w3.cell? ⟨w2.heap.size, 1, none⟩ = some (.int .i64 0) := by rw [cell_of_blk F0]; rfl
    obtain ⟨d0, d1, d2, d3⟩ := HB3.out
    obtain ⟨e0, e1, z0, z1, hF⟩ := HF3.out.cells
    have hbx3 := HB3.out.lt
    clear F0
    by_cases hk : k < 0 ∨ 4 < k
    · have NF2 : Hid (newF t ls s k = (3, -8)) := by unfold Hid; rw [NF.out, if_pos hk]
      have NB : Hid (newB t ls s k = false) := by unfold Hid newB; rw [NF2.out]; rfl
      have q : (decide (k < 0) = true) ∨ (decide (k < 0) = false ∧ decide (4 < k) = true) := by
        by_cases h0 : k < 0
        · exact .inl (by simpa using h0)
        · exact .inr ⟨by simpa using h0, by simpa using hk.resolve_left h0⟩
      clear hk
      rcases q with q | ⟨q, q2⟩
      all_goals
        go_wp2_with fail
        refine bodyPost_ret (results_tmp_cell _ _ (w.heap.size + 1) 30 #[.int .i64 3, .int .i64 (-8)] (0, 0) _ rfl rfl (HF3.out.set (.int .i64 3) (.int .i64 (-8))).1 Try.underlying30 rfl (by kernel_rfl)) rfl ?_
        exact ⟨by rw [NB.out, NF2.out]; rfl, (HF3.out.set _ _).2⟩
    · have q1 : decide (k < 0) = false := by simp; omega
      have q2 : decide (4 < k) = false := by simp; omega
      by_cases hlen : 2000 < ls.length
      · have NF2 : Hid (newF t ls s k = (2, -10)) := by unfold Hid; rw [NF.out, if_neg hk, if_pos hlen]
        have NB : Hid (newB t ls s k = false) := by unfold Hid newB; rw [NF2.out]; rfl
        have q3 : decide ((2000 : Int) < (ls.length : Int)) = true := by simp; omega
        clear hk hlen
        go_wp2_with fail
        refine bodyPost_ret (results_tmp_cell _ _ (w.heap.size + 1) 30 #[.int .i64 2, .int .i64 (-10)] (0, 0) _ rfl rfl (HF3.out.set (.int .i64 2) (.int .i64 (-10))).1 Try.underlying30 rfl (by kernel_rfl)) rfl ?_
        exact ⟨by rw [NB.out, NF2.out]; rfl, (HF3.out.set _ _).2⟩
      · have NF2 : Hid (newF t ls s k = badAt t.n ls 0) := by unfold Hid; rw [NF.out, if_neg hk, if_neg hlen]
        have q3 : decide ((2000 : Int) < (ls.length : Int)) = false := by simp; omega
        have hlen2 : ls.length ≤ 2000 := by omega
        have hk2 : 0 ≤ k ∧ k ≤ 4 := by omega
        have HCL := Lib.hid (fun h0 => HL3.out.cell (ao := al) (n := ls.length) (cap := cl) rfl h0)
        have n1 := OK.out.n1
        clear hk hlen d0 d1 d2 d3 e0 e1 z0 z1
        go_wp2_with fail
        go_loopw [11, 34] (fun v11 v34 wr => ∃ (i : Nat), i ≤ ls.length ∧ v34 = .int .i64 (i : Int) ∧ wr.ownsRow w3.heap.size 75 1 v11 i (((ls.take i).map wd).map encW) ∧ (∀ l ∈ ls.take i, isSetB l t.n = true) ∧ Keeps (fun _ => False) w3 wr) (fun _ v34 _ => ls.length - (intOf v34).toNat)
        case atStart => exact ⟨0, Nat.zero_le _, rfl, World.ownsRow_nil _ _ _ _, fun l hl => by simp at hl, Keeps.refl _ _⟩
        case round =>
          obtain ⟨i, hi, rfl, hrow, hsets, hkr⟩ := hrel
          have HR := Lib.hid hrow; have HKR := Lib.hid hkr; have HSE := Lib.hid hsets
          have hsz := hkr.size
          obtain ⟨ar, cr, har⟩ := ownsRow_form1 hrow
          subst har
          have HBr := Lib.hid (HB3.out.keeps0 hkr)
          have HFr := Lib.hid (HF3.out.keeps0 hkr)
          have HSr := Lib.hid (show Ints wr (.slice aa s.length cs) s from HS3.out.keeps0 hkr)
          obtain ⟨d0, d1, d2, d3⟩ := HBr.out
          obtain ⟨e0, e1, z0, z1, hF2⟩ := HFr.out.cells
          clear hrow hsets hkr
          by_cases hlt : i < ls.length
          · obtain ⟨bl, ol, rfl, hx'⟩ := HCL.out (by omega)
            obtain ⟨l, hl⟩ : ∃ l, ls[i]? = some l := ⟨_, List.getElem?_eq_getElem hlt⟩
            obtain ⟨u, hu, hiu⟩ := hx' i l hl
            have hu2 := HKR.out.cell hu (fun h => h)
            have HU := Lib.hid (show Ints wr u l from hiu.keeps0 HKR.out)
            obtain ⟨au, cu, hfu, _⟩ := hiu.form
            subst hfu
            have HTK := Lib.hid (take_getS hl)
            have HLI := Lib.hid hl
            clear hx' hl hu hiu
            go_wp2_with fail
            refine (sIsSet_any _ _ l t.n HU.out).mono ?_; rintro e w4 ⟨rfl, rfl⟩
            cases hb : isSetB l t.n with
            | false =>
              have NF3 : Hid (newF t ls s k = (5, (i : Int))) := by unfold Hid; rw [NF2.out, badAt_at HSE.out HLI.out hb]; simp
              have NB : Hid (newB t ls s k = false) := by
                unfold Hid newB; rw [NF3.out]; rfl
              clear hb
              go_wp2_with fail
              refine bodyPost_ret (results_tmp_cell _ _ (w.heap.size + 1) 30 #[.int .i64 5, .int .i64 (i : Int)] (0, 0) _ rfl rfl (HFr.out.set (.int .i64 5) (.int .i64 (i : Int))).1 Try.underlying30 rfl (by kernel_rfl)) rfl ?_
              exact ⟨by rw [NB.out, NF3.out]; rfl, (HFr.out.set _ _).2⟩
            | true =>
              have HSB := Lib.hid hb
              clear hb
              go_wp2_with fail
              refine (word_any _ _ l HU.out (fun x hx => by have := (isSet_iff.1 HSB.out).1 x hx; omega)).mono ?_; rintro e w4 ⟨rfl, rfl⟩
              go_wp2_with (at_builtin; refine wpList_append_d rfl _ _ _ rfl w3.heap.size 75 j0 _ 1 4 Try.underlying72 hj0 jz0 jz1 jz2 rfl (by omega) _ i (((ls.take i).map wd).map encW) (by rfl) (World.ownsRow.alloc HR.out (.cells #[.int .u32 (wd l : Nat)] 75)) ⟨wr.heap.size, 0, none⟩ 1 1 [.int .u32 (wd l : Nat)] (by rfl) (by rfl) (World.news_of_block (cs := #[.int .u32 (wd l : Nat)]) (t := 75) (fr := (0, 0)) (heap_alloc_new _ _)) (by simp [Value.oneCell']) (by omega) (by unfold maxLen; omega) (by omega) (by simp; omega) (wr.heap.size + 1) (by simp) ?_)
              intro gg cap2 w5 hown hgrow hat hlt5 hd5
              have HROW : Hid (w5.ownsRow w3.heap.size 75 1 (.slice (some ⟨gg, 0, none⟩) (i + 1) cap2) (i + 1) (((ls.take (i + 1)).map wd).map encW)) := by
                unfold Hid
                have e : List.take i (ls.map (encW ∘ wd)) = ((ls.take i).map wd).map encW := by rw [← List.map_take, List.map_map]
                rw [e] at hown
                rw [HTK.out, List.map_append, List.map_append]; exact hown
              have HSE2 : Hid (∀ x ∈ ls.take (i + 1), isSetB x t.n = true) := by
                unfold Hid
                rw [HTK.out]
                intro x hx
                rcases List.mem_append.1 hx with hx | hx
                · exact HSE.out x hx
                · simp at hx; subst hx; exact HSB.out
              have HK5 := Lib.hid (own_grown HR.out HKR.out ((Keeps.refl _ wr).alloc (.cells #[.int .u32 (wd l : Nat)] 75)) hgrow)
              clear hown hgrow hat hd5 d0 d1 d2 d3 e0 e1 z0 z1
              go_wp2_with fail
              go_roundw
              case rel => exact ⟨i + 1, by omega, by go_num, HROW.out, HSE2.out, HK5.out⟩
              case measure => simp only [intOf]; omega
          · have hie : i = ls.length := by omega
            subst hie
            have HSE2 : Hid (∀ l ∈ ls, isSetB l t.n = true) := by unfold Hid; have h := HSE.out; rwa [List.take_length] at h
            have NF3 : Hid (newF t ls s k = (0, 0)) := by unfold Hid; rw [NF2.out, badAt_set HSE2.out]
            have NB : Hid (newB t ls s k = !covN (wd s) (ls.map wd) k.toNat 0) := by
              unfold Hid newB; rw [NF3.out]; simp
            have HW := Lib.hid (show Wds wr (.slice ar ls.length cr) (ls.map wd) by
              have h := Sl.of_own HR.out
              rw [List.take_length] at h
              unfold Wds; rw [List.length_map]; exact h)
            go_wp2_with fail
            refine (word_any _ _ s HSr.out (fun x hx => by have := (isSet_iff.1 SET.out).1 x hx; omega)).mono ?_; rintro e w4 ⟨rfl, rfl⟩
            obtain ⟨kn, rfl⟩ : ∃ kn : Nat, k = (kn : Int) := ⟨k.toNat, by omega⟩
            go_wp2_with fail
            refine (covered_any (wd s) ?_ (ls.map wd) ?_ kn _ _ 0 (by omega) (by omega) HW.out).mono ?_
            · exact wd_lt (n := 32) (fun x hx => by have := (isSet_iff.1 SET.out).1 x hx; omega)
            · intro x hx
              obtain ⟨l, hl, rfl⟩ := List.mem_map.1 hx
              exact wd_lt (n := 32) (fun x hx => by have := (isSet_iff.1 (HSE2.out l hl)).1 x hx; omega)
            rintro e w5 ⟨rfl, hk5, hd5⟩
            have HF5 := Lib.hid (HFr.out.keeps0 hk5)
            have hkn : ((kn : Int)).toNat = kn := by omega
            clear d0 d1 d2 d3 e0 e1 z0 z1 hF2
            obtain ⟨e0, e1, z0, z1, hF2⟩ := HF5.out.cells
            clear hk5
            go_wp2_with fail
            refine bodyPost_ret (results_tmp_cell _ _ (w.heap.size + 1) 30 #[.int .i64 0, .int .i64 0] (0, 0) _ rfl rfl (HF5.out.set (.int .i64 0) (.int .i64 0)).1 Try.underlying30 rfl (by kernel_rfl)) rfl ?_
            exact ⟨by rw [NB.out, NF3.out, hkn]; rfl, (HF5.out.set _ _).2⟩
  · have hc2 : ((stateFault t s).1 == 0) = false := by simpa using hc
    have NF2 : Hid (newF t ls s k = stateFault t s) := by unfold Hid newF; rw [if_pos hc]
    have NB : Hid (newB t ls s k = false) := by
      unfold Hid newB
      rw [NF2.out]
      have : (stateFault t s == (0, 0)) = false := by
        rw [beq_eq_false_iff_ne]; intro h; rw [h] at hc; exact hc rfl
      rw [this]; rfl
    clear hc
    generalize hfe : stateFault t s = f at hc2 NF2 ⊢
    clear hfe
    have HF3 := Lib.hid (HF2.out.keeps0 ((Keeps.refl _ _).alloc (.cells #[.int .i64 f.1, .int .i64 f.2] 30)))
    obtain ⟨e0, e1, z0, z1, hF⟩ := HF3.out.cells
    go_wp2_with fail
    go_region
    all_goals
      go_wp2
      refine bodyPost_ret (results_tmp_cell _ _ (w.heap.size + 1) 30 #[.int .i64 f.1, .int .i64 f.2] (0, 0) _ rfl rfl (((Keeps.refl (fun _ => False) _).drew).heap (HF3.out.set (.int .i64 f.1) (.int .i64 f.2)).1 (fun h => h)) Try.underlying30 rfl (by kernel_rfl)) rfl ?_
      exact ⟨by rw [NB.out, NF2.out]; rfl, ((HF3.out.set (.int .i64 f.1) (.int .i64 f.2)).2).drew⟩

end Go.Proofs.Ytdonadeodioplaa

namespace Go.Proofs.Ytdonadeodioplaa
open Go.RowKit

def noResB (f : Bool) (m : Nat) (c n : Int) : Bool := !f && (m == 0) && (c == 0) && (n == 0)

set_option maxRecDepth 100000 in
set_option maxHeartbeats 1000000 in
theorem noResult_any (w : World) (f : Bool) (ao : Option Addr) (m cap : Nat) (c n : Int) (hm : m ≤ 9223372036854775807) :
    Calls Try.prog 58 #[resV f (.slice ao m cap) c n] w fun e w' => e = .returned (.bool (noResB f m c n)) ∧ Keeps (fun _ => False) w w' := by
  have HK := Lib.hid ((Keeps.refl (fun _ => False) w).alloc (.cells #[.bool f, .slice ao m cap, .int .i64 c, .int .i64 n] 48))
  have HX := heap_alloc_new w (.cells #[.bool f, .slice ao m cap, .int .i64 c, .int .i64 n] 48)
  have HE : Hid (noResB f m c n = (!f && (m == 0) && (c == 0) && (n == 0))) := rfl
  unfold resV
  go_enter Try.func58, Try.ntmps58
  go_upto_region 1 with fail
  generalize w.alloc (.cells #[.bool f, .slice ao m cap, .int .i64 c, .int .i64 n] 48) = w1 at HX HK ⊢
  have s0 : w1.cell? ⟨w.heap.size, 0, none⟩ = some (.bool f) := by rw [cell_of_blk HX]; rfl
  have s1 : w1.cell? ⟨w.heap.size, 1, none⟩ = some (.slice ao m cap) := by rw [cell_of_blk HX]; rfl
  have s2 : w1.cell? ⟨w.heap.size, 2, none⟩ = some (.int .i64 c) := by rw [cell_of_blk HX]; rfl
  have s3 : w1.cell? ⟨w.heap.size, 3, none⟩ = some (.int .i64 n) := by rw [cell_of_blk HX]; rfl
  have hl := lt_of_heap HX
  clear HX
  cases f with
  | true =>
    go_wp2_with fail
    go_ret
    exact ⟨congrArg (fun b => Ending.returned (Value.bool b)) (show false = noResB true m c n by rw [HE.out]; rfl), HK.out⟩
  | false =>
    by_cases h1 : m = 0
    · subst h1
      cases h2 : (c == 0) with
      | true =>
        go_wp2_with fail
        go_ret
        exact ⟨congrArg (fun b => Ending.returned (Value.bool b)) (show (n == 0) = noResB false 0 c n by rw [HE.out, h2]; rfl), HK.out⟩
      | false =>
        go_wp2_with fail
        go_ret
        exact ⟨congrArg (fun b => Ending.returned (Value.bool b)) (show false = noResB false 0 c n by rw [HE.out, h2]; rfl), HK.out⟩
    · have h2 : ((m : Int) == 0) = false := by simp; omega
      go_wp2_with fail
      go_ret
      exact ⟨congrArg (fun b => Ending.returned (Value.bool b)) (show false = noResB false m c n by rw [HE.out]; simp [h1]), HK.out⟩

/-! ### StateFault of the reference -/
end Go.Proofs.Ytdonadeodioplaa

/- isOne at the task step. -/
namespace Go.Proofs.Ytdonadeodioplaa
open Go.RowKit

set_option maxRecDepth 100000 in
set_option maxHeartbeats 1000000 in
theorem isOne_any (w : World) (vp : Value) (n : Int) (h : Ints w vp [0]) :
    Calls Try.prog 52 #[resV true vp 3 n, fltV 0 0] w fun e w' => e = .returned (.bool true) ∧ Keeps (fun _ => False) w w' := by
  obtain ⟨ap, cp, h4, _⟩ := h.form
  subst h4
  have KA := (Keeps.refl (fun _ => False) w).alloc (.cells #[.bool true, .slice ap 1 cp, .int .i64 3, .int .i64 n] 48)
  have KB := (Keeps.refl (fun _ => False) (w.alloc (.cells #[.bool true, .slice ap 1 cp, .int .i64 3, .int .i64 n] 48))).alloc (.cells #[.int .i64 0, .int .i64 0] 30)
  have HK := Lib.hid (KA.trans KB)
  have HX := KB.heap (heap_alloc_new w (.cells #[.bool true, .slice ap 1 cp, .int .i64 3, .int .i64 n] 48)) (fun h => h)
  have HF := heap_alloc_new (w.alloc (.cells #[.bool true, .slice ap 1 cp, .int .i64 3, .int .i64 n] 48)) (.cells #[.int .i64 0, .int .i64 0] 30)
  rw [World.size_alloc] at HF
  have HP := Lib.hid (show Ints _ (.slice ap 1 cp) [0] from h.keeps0 (KA.trans KB))
  clear KA KB h
  unfold resV fltV
  go_enter Try.func52, Try.ntmps52
  go_upto_region 1 with fail
  generalize (w.alloc (.cells #[.bool true, .slice ap 1 cp, .int .i64 3, .int .i64 n] 48)).alloc (.cells #[.int .i64 0, .int .i64 0] 30) = w1 at HX HF HK HP ⊢
  have s0 : w1.cell? ⟨w.heap.size, 0, none⟩ = some (.bool true) := by rw [cell_of_blk HX]; rfl
  have s1 : w1.cell? ⟨w.heap.size, 1, none⟩ = some (.slice ap 1 cp) := by rw [cell_of_blk HX]; rfl
  have s2 : w1.cell? ⟨w.heap.size, 2, none⟩ = some (.int .i64 3) := by rw [cell_of_blk HX]; rfl
  have f0 : w1.cell? ⟨w.heap.size + 1, 0, none⟩ = some (.int .i64 0) := by rw [cell_of_blk HF]; rfl
  have hl := lt_of_heap HX
  have hlF := lt_of_heap HF
  have kc := (Keeps.refl (fun _ => False) w1).alloc (.cells #[.int .i64 0] 3)
  have HQ := Lib.hid (Ints.one (x := 0) (heap_alloc_new w1 (.cells #[.int .i64 0] 3)))
  have HP2 := Lib.hid (show Ints _ (.slice ap 1 cp) [0] from HP.out.keeps0 kc)
  have HK2 := Lib.hid (HK.out.trans kc)
  have HX2 := Lib.hid (kc.heap HX (fun h => h))
  clear kc HX HF
  go_wp2_with fail
  refine (ints_any _ _ _ _ _ HP2.out HQ.out).mono ?_; rintro e w3 ⟨rfl, hk⟩
  have hx := hk.heap HX2.out (fun h => h)
  clear s0 s1 s2 hl
  have s2 : w3.cell? ⟨w.heap.size, 2, none⟩ = some (.int .i64 3) := by rw [cell_of_blk hx]; rfl
  have hl := lt_of_heap hx
  have HKE := Lib.hid (HK2.out.trans hk)
  clear hx hk
  go_wp2_with fail
  go_ret
  exact ⟨rfl, HKE.out⟩

end Go.Proofs.Ytdonadeodioplaa

namespace Go.Proofs.Ytdonadeodioplaa
open Go.RowKit

theorem stepT_nov : NovRes (accW (wd stepT.goal)) (covW 0) (wordsOf stepT.ops) (wd stepT.init) (some [0]) 1 :=
  NovRes.found (ops := wordsOf stepT.ops) 0 ⟨0, 0, 0, []⟩ ⟨1, 0, 0, [0]⟩ (by decide) (fun j e hj => absurd hj (Nat.not_lt_zero _)) rfl (by rfl)

theorem stepT_new : newB stepT [[]] [0] 1 = true ∧ newF stepT [[]] [0] 1 = (0, 0) := by decide

theorem Lists.nil1 {w : World} {b : Nat} {T : TypeId} (h : w.heap[b]? = some (.cells #[.slice none 0 0] T (0, 0))) : Lists w (.slice (some ⟨b, 0, none⟩) 1 1) [[]] := by
  refine ⟨_, 1, rfl, by unfold maxLen; simp, fun _ => ⟨b, 0, rfl, fun i l hl => ?_⟩⟩
  cases i with
  | zero =>
    simp at hl; subst hl
    refine ⟨.slice none 0 0, ?_, Ints.nil _⟩
    rw [cell_of_blk h]; rfl
  | succ i => simp at hl

theorem nplanStep_any (w : World) (vi vg vo : Value) (h : TaskAt w vi vg vo stepT) :
    Calls Try.prog 35 #[.agg #[.int .i64 1, vi, vg, vo], .int .i64 0] w fun e w' => ∃ v, e = .returned (.tuple #[resV true v 3 1, fltV 0 0]) ∧ Ints w' v [0] ∧ Keeps (fun _ => False) w w' := by
  refine (nplan_any w vi vg vo stepT 0 h).mono ?_
  rintro e w' ⟨hk, fnd, vp, lp, c, n, fc, fi, rfl, hi, hr⟩
  have hf : nplanF stepT 0 = (0, 0) := by
    unfold nplanF
    rw [stepT_ok, stepT_reached]; decide
  rcases hr with ⟨h1, h2, _⟩ | ⟨_, _, _, _, l, o, m, h1, h2⟩
  · rw [hf] at h1; cases h1; exact absurd rfl h2
  · obtain ⟨rfl, rfl⟩ := h2.res.unique stepT_nov
    have h3 := h2.fault
    have h4 : ((0 : Int), (0 : Int)) = (fc, fi) := by rw [← h3]; decide
    cases h4
    obtain ⟨rfl, rfl, rfl, rfl⟩ := h2.good rfl
    exact ⟨vp, rfl, hi, hk⟩

theorem widthStep_any (w : World) (vi vg vo : Value) (h : TaskAt w vi vg vo stepT) :
    Calls Try.prog 63 #[.agg #[.int .i64 1, vi, vg, vo]] w fun e w' => e = .returned (.tuple #[.int .i64 0, .bool true, fltV 0 0]) ∧ Keeps (fun _ => False) w w' := by
  refine (width_any w vi vg vo stepT h).mono ?_
  rintro e w' ⟨hk, n, ok, c, i, rfl, hr⟩
  have hf : expF stepT = (0, 0) := by
    unfold expF
    rw [stepT_ok, stepT_reached]; decide
  have nomiss : ¬ widthMiss stepT 0 := by
    rintro ⟨m, hm⟩
    have := (hm.unique stepT_nov).1
    cases this
  rcases hr with ⟨h1, h2, _⟩ | ⟨_, rfl, rfl, _, l, _, ⟨k, hk4, rfl, rfl, _, hj⟩ | ⟨_, _, hj⟩⟩
  · rw [hf] at h1; cases h1; exact absurd rfl h2
  · have : k = 0 := by
      rcases Nat.eq_zero_or_pos k with h | h
      · exact h
      · exact absurd (hj 0 h) nomiss
    subst this
    exact ⟨rfl, hk⟩
  · exact absurd (hj 0 (by omega)) nomiss

set_option maxRecDepth 100000 in
set_option maxHeartbeats 2000000 in
theorem noveltyExample_any (w : World) : Calls Try.prog 34 #[] w fun e w' => e = .returned (.bool true) ∧ Keeps (fun _ => False) w w' := by
  go_enter Try.func34, Try.ntmps34
  go_wp2_with fail
  refine (step_any _).mono ?_; rintro e w1 ⟨vi, vg, vo, rfl, ht, hk⟩
  have HT := Lib.hid ht; have K1 := Lib.hid hk
  clear ht hk
  go_wp2_with fail
  refine (nplanStep_any _ _ _ _ HT.out).mono ?_; rintro e w2 ⟨vp, rfl, hp, hk⟩
  obtain ⟨ap, cp, hvp, _⟩ := hp.form
  subst hvp
  have HP := Lib.hid hp; have K2 := Lib.hid (K1.out.trans hk)
  clear hp hk HT
  simp only [resV, fltV]
  have HRB := heap_alloc_new w2 (.cells #[.bool true, .slice ap [(0 : Int)].length cp, .int .i64 3, .int .i64 1] 48)
  have HFB := heap_alloc_new (w2.alloc (.cells #[.bool true, .slice ap [(0 : Int)].length cp, .int .i64 3, .int .i64 1] 48)) (.cells #[.int .i64 0, .int .i64 0] 30)
  have KA := ((Keeps.refl (fun _ => False) w2).alloc (.cells #[.bool true, .slice ap [(0 : Int)].length cp, .int .i64 3, .int .i64 1] 48)).alloc (.cells #[.int .i64 0, .int .i64 0] 30)
  rw [World.size_alloc] at HFB
  have HR3 := Lib.hid (((Keeps.refl (fun _ => False) _).alloc (.cells #[.int .i64 0, .int .i64 0] 30)).heap HRB (fun h => h))
  have HF3 := Lib.hid HFB
  have K3 := Lib.hid (K2.out.trans KA); have HP3 := Lib.hid (HP.out.keeps0 KA)
  clear KA HRB HFB
  go_upto_region 2 with fail
  generalize (w2.alloc (.cells #[.bool true, .slice ap [(0 : Int)].length cp, .int .i64 3, .int .i64 1] 48)).alloc (.cells #[.int .i64 0, .int .i64 0] 30) = w3 at HR3 HF3 K3 HP3 ⊢
  go_wp2_with fail
  refine (step_any _).mono ?_; rintro e w4 ⟨vi2, vg2, vo2, rfl, ht, hk⟩
  have HT4 := Lib.hid ht; have K4 := Lib.hid (K3.out.trans hk); have HR4 := Lib.hid (hk.heap HR3.out (fun h => h)); have HF4 := Lib.hid (hk.heap HF3.out (fun h => h)); have HP4 := Lib.hid (HP3.out.keeps0 hk)
  clear ht hk HR3 HF3 K3 HP3
  go_wp2_with fail
  refine (widthStep_any _ _ _ _ HT4.out).mono ?_; rintro e w5 ⟨rfl, hk⟩
  have KA := hk.alloc (.cells #[.int .i64 0, .int .i64 0] 30)
  have HF6 := Lib.hid (heap_alloc_new w5 (.cells #[.int .i64 0, .int .i64 0] 30))
  have K6 := Lib.hid (K4.out.trans KA); have HR6 := Lib.hid (KA.heap HR4.out (fun h => h)); have HF26 := Lib.hid (KA.heap HF4.out (fun h => h)); have HP6 := Lib.hid (HP4.out.keeps0 KA)
  clear hk KA HT4 K4 HR4 HF4 HP4
  simp only [fltV]
  go_upto_region 3 with fail
  generalize w5.alloc (.cells #[.int .i64 0, .int .i64 0] 30) = w6 at HF6 K6 HR6 HF26 HP6 ⊢
  generalize w5.heap.size = b5 at HF6 ⊢
  go_wp2_with fail
  refine (step_any _).mono ?_; rintro e w7 ⟨vi3, vg3, vo3, rfl, ht, hk⟩
  have KA := ((Keeps.refl (fun _ => False) w7).alloc (.cells #[.slice none 0 0] 22)).alloc (.cells #[.int .i64 0] 3)
  have KB := (Keeps.refl (fun _ => False) (w7.alloc (.cells #[.slice none 0 0] 22))).alloc (.cells #[.int .i64 0] 3)
  have HL := Lib.hid (Lists.nil1 (KB.heap (heap_alloc_new w7 (.cells #[.slice none 0 0] 22)) (fun h => h)))
  have h8 := Ints.one (x := 0) (heap_alloc_new (w7.alloc (.cells #[.slice none 0 0] 22)) (.cells #[.int .i64 0] 3))
  rw [World.size_alloc] at h8
  have HS := Lib.hid h8
  have HT8 := Lib.hid (ht.keeps0 KA); have K8 := Lib.hid (K6.out.trans (hk.trans KA)); have HR8 := Lib.hid ((hk.trans KA).heap HR6.out (fun h => h)); have HF28 := Lib.hid ((hk.trans KA).heap HF26.out (fun h => h)); have HF8 := Lib.hid ((hk.trans KA).heap HF6.out (fun h => h)); have HP8 := Lib.hid (HP6.out.keeps0 (hk.trans KA))
  clear ht hk KA KB h8 HF6 K6 HR6 HF26 HP6
  go_wp2_with fail
  refine (new_any' _ _ _ _ _ _ stepT [[]] [0] 1 HT8.out HL.out HS.out).mono ?_; rintro e w9 ⟨rfl, hk⟩
  rw [stepT_new.1, stepT_new.2]
  simp only [fltV]
  have KA := hk.alloc (.cells #[.int .i64 0, .int .i64 0] 30)
  have HF10 := Lib.hid (heap_alloc_new w9 (.cells #[.int .i64 0, .int .i64 0] 30))
  have K10 := Lib.hid (K8.out.trans KA); have HR10 := Lib.hid (KA.heap HR8.out (fun h => h)); have HF210 := Lib.hid (KA.heap HF28.out (fun h => h)); have HF510 := Lib.hid (KA.heap HF8.out (fun h => h)); have HP10 := Lib.hid (HP8.out.keeps0 KA)
  clear hk KA HT8 K8 HR8 HF28 HF8 HP8 HL HS
  go_upto_region 4 with fail
  generalize w9.alloc (.cells #[.int .i64 0, .int .i64 0] 30) = wa at HF10 K10 HR10 HF210 HF510 HP10 ⊢
  generalize w9.heap.size = b9 at HF10 ⊢
  generalize w2.heap.size = b2 at HR10 HF210 ⊢
  have s0 : wa.cell? ⟨b2, 0, none⟩ = some (.bool true) := by rw [cell_of_blk HR10.out]; rfl
  have s1 : wa.cell? ⟨b2, 1, none⟩ = some (.slice ap [(0 : Int)].length cp) := by rw [cell_of_blk HR10.out]; rfl
  have s2 : wa.cell? ⟨b2, 2, none⟩ = some (.int .i64 3) := by rw [cell_of_blk HR10.out]; rfl
  have s3 : wa.cell? ⟨b2, 3, none⟩ = some (.int .i64 1) := by rw [cell_of_blk HR10.out]; rfl
  have hl2 := lt_of_heap HR10.out
  obtain ⟨p0, p1, z0, z1, hl3⟩ := pair_cells HF210.out
  clear z0 z1
  go_wp2_with fail
  refine (isOne_any _ _ _ HP10.out).mono ?_; rintro e wb ⟨rfl, hk⟩
  have K11 := Lib.hid (K10.out.trans hk)
  have HRb := Lib.hid (hk.heap HR10.out (fun h => h)); have HF5b := Lib.hid (hk.heap HF510.out (fun h => h)); have HF7b := Lib.hid (hk.heap HF10.out (fun h => h))
  clear s0 s1 s2 s3 hl2 p0 p1 hl3 hk
  have s3 : wb.cell? ⟨b2, 3, none⟩ = some (.int .i64 1) := by rw [cell_of_blk HRb.out]; rfl
  have hl2 := lt_of_heap HRb.out
  obtain ⟨p0, p1, z0, z1, hl3⟩ := pair_cells HF5b.out
  obtain ⟨q0, q1, y0, y1, hl4⟩ := pair_cells HF7b.out
  clear z0 z1 y0 y1
  go_wp2_with fail
  go_ret
  exact ⟨rfl, K11.out⟩

end Go.Proofs.Ytdonadeodioplaa

namespace Go.Proofs.Ytdonadeodioplaa
open Go.RowKit

theorem explore_weak {w : World} {vi vg vo : Value} {t : Tsk} (h : TaskAt w vi vg vo t) :
    Calls Try.prog 14 #[.agg #[.int .i64 t.n, vi, vg, vo]] w fun e w' => ∃ a n c x y, e = .returned (.tuple #[.slice a n c, fltV x y]) ∧ Keeps (fun _ => False) w w' := by
  refine (explore_any w vi vg vo t h).mono ?_
  rintro e w' ⟨hk, ⟨c', i', hc, he', rfl⟩ | ⟨_, l', ws, v, h1, h2, h3, rfl, h4⟩⟩
  · exact ⟨_, _, _, _, _, rfl, hk⟩
  · obtain ⟨a, c, hv, _⟩ := h4.form
    subst hv
    exact ⟨_, _, _, _, _, rfl, hk⟩
theorem optimal_weak {w : World} {vi vg vo : Value} {t : Tsk} (h : TaskAt w vi vg vo t) :
    Calls Try.prog 21 #[.agg #[.int .i64 t.n, vi, vg, vo]] w fun e w' => ∃ n x y, e = .returned (.tuple #[.int .i64 n, fltV x y]) ∧ Keeps (fun _ => False) w w' := by
  refine (optimal_any w vi vg vo t h).mono ?_
  rintro e w' ⟨hk, ⟨c', i', hc, he', rfl⟩ | ⟨_, l', ws, D, h1, h2, h3, h4, rfl⟩⟩
  · exact ⟨_, _, _, rfl, hk⟩
  · exact ⟨_, _, _, rfl, hk⟩

/-- The good end of novelty.Plan. -/
theorem nplan_good {t : Tsk} {k : Int} {fnd : Bool} {lp : List Int} {c n fi : Int} (h : (nplanF t k = (0, fi) ∧ (0 : Int) ≠ 0 ∧ fnd = false ∧ lp = [] ∧ c = 0 ∧ n = 0) ∨
   (nplanF t k = (0, 0) ∧ t.Ok ∧ 0 ≤ k ∧ k ≤ 4 ∧ ∃ l o m, explored t = some l ∧ NPlanRes t k o m fnd lp c n 0 fi)) : t.Ok ∧ 0 ≤ k ∧ ∃ l o m, explored t = some l ∧ NPlanRes t k o m fnd lp c n 0 fi := by
  rcases h with ⟨_, h, _⟩ | ⟨_, h1, h2, _, h3⟩
  · exact absurd rfl h
  · exact ⟨h1, h2, h3⟩

set_option maxRecDepth 100000 in
set_option maxHeartbeats 1000000 in
theorem nwideLaw_any (w : World) (vi vg vo : Value) (t : Tsk) (k : Int) (h : TaskAt w vi vg vo t) :
    Calls Try.prog 8 #[.agg #[.int .i64 t.n, vi, vg, vo], .int .i64 k] w fun e w' => e = .returned (.bool true) ∧ Keeps (fun _ => False) w w' := by
  obtain ⟨ai, ci, h1, _⟩ := h.init.form
  obtain ⟨ag, cg, h2, _⟩ := h.goal.form
  obtain ⟨ao, co, h3, hmo⟩ := h.ops.form
  subst h1 h2 h3
  have HB := Lib.hid (Four.new w (.int .i64 t.n) (.slice ai t.init.length ci) (.slice ag t.goal.length cg) (.slice ao t.ops.length co) 25)
  have K1 := (Keeps.refl (fun _ => False) w).alloc (.cells #[.int .i64 t.n, .slice ai t.init.length ci, .slice ag t.goal.length cg, .slice ao t.ops.length co] 25)
  have HT := Lib.hid (h.keeps0 K1); have HK := Lib.hid K1
  clear h K1
  go_enter Try.func8, Try.ntmps8
  go_upto_region 1 with fail
  generalize (w.alloc (.cells #[.int .i64 t.n, .slice ai t.init.length ci, .slice ag t.goal.length cg, .slice ao t.ops.length co] 25)) = w1 at HB HT HK ⊢
  generalize w.heap.size = bt at HB ⊢
  go_wp2_with fail
  refine (noveltyExample_any _).mono ?_; rintro e w2 ⟨rfl, hk⟩
  have HB1 := Lib.hid (HB.out.keeps0 hk); have HT1 := Lib.hid (HT.out.keeps0 hk); have HK1 := Lib.hid (HK.out.trans hk)
  clear HB HT HK
  clear hk
  have hbxd := HB1.out.lt
  obtain ⟨d0, d1, d2, d3⟩ := HB1.out
  go_wp2_with fail
  refine (nplan_any _ _ _ _ t k HT1.out).mono ?_; rintro e w4 ⟨hk, fnd, vp, lp, c, n, fc, fi, rfl, hvp, hr⟩
  obtain ⟨ap, cp, hpv, _⟩ := hvp.form
  subst hpv
  have KA := (hk.alloc (.cells #[.bool fnd, .slice ap lp.length cp, .int .i64 c, .int .i64 n] 48)).alloc (.cells #[.int .i64 fc, .int .i64 fi] 30)
  have h5 := heap_alloc_new (w4.alloc (.cells #[.bool fnd, .slice ap lp.length cp, .int .i64 c, .int .i64 n] 48)) (.cells #[.int .i64 fc, .int .i64 fi] 30)
  rw [World.size_alloc] at h5
  have HB2 := Lib.hid (HB1.out.keeps0 KA); have HT2 := Lib.hid (HT1.out.keeps0 KA); have HK2 := Lib.hid (HK1.out.trans KA)
  clear HB1 HT1 HK1
  have HF := Lib.hid (h5)
  have HR := Lib.hid (((Keeps.refl (fun _ => False) _).alloc (.cells #[.int .i64 fc, .int .i64 fi] 30)).heap (heap_alloc_new w4 (.cells #[.bool fnd, .slice ap lp.length cp, .int .i64 c, .int .i64 n] 48)) (fun h => h))
  have HRR := Lib.hid hr
  clear hbxd d0 d1 d2 d3
  clear hk KA h5 hvp hr
  simp only [resV, fltV]
  go_upto_region 4 with fail
  generalize (w4.alloc (.cells #[.bool fnd, .slice ap lp.length cp, .int .i64 c, .int .i64 n] 48)).alloc (.cells #[.int .i64 fc, .int .i64 fi] 30) = w5 at HB2 HT2 HK2 HF HR ⊢
  generalize w4.heap.size = b4 at HF HR ⊢
  by_cases hfc : fc = 0
  ·
    subst hfc
    obtain ⟨hok, hk0, l, o, m, hx, hres⟩ := nplan_good HRR.out
    have OK := Lib.hid hok; have HX := Lib.hid hx; have RES := Lib.hid hres
    clear hok hx hres HRR
    have hbxd := HB2.out.lt
    obtain ⟨d0, d1, d2, d3⟩ := HB2.out
    go_wp2_with fail
    refine (explore_good HT2.out OK.out HX.out).mono ?_; rintro e y1 ⟨ws, v1, hws, rfl, hr, hk⟩
    have WS := Lib.hid hws
    obtain ⟨a1, c1, hv, _⟩ := hr.form
    rw [List.length_map] at hv
    subst hv
    clear hbxd d0 d1 d2 d3
    simp only [fltV]
    have KA := (Keeps.refl (fun _ => False) y1).alloc (.cells #[.int .i64 0, .int .i64 0] 30)
    have KB := hk.trans KA
    have HB3 := Lib.hid (HB2.out.keeps0 KB); have HT3 := Lib.hid (HT2.out.keeps0 KB); have HK3 := Lib.hid (HK2.out.trans KB); have HF1 := Lib.hid (KB.heap HF.out (fun h => h)); have HR1 := Lib.hid (KB.heap HR.out (fun h => h))
    clear HB2 HT2 HK2 HF HR
    have F1 := Lib.hid (heap_alloc_new y1 (.cells #[.int .i64 0, .int .i64 0] 30))
    have V1 := Lib.hid (hr.keeps0 KA)
    clear hk KA KB
    go_upto_region 5 with fail
    generalize y1.alloc (.cells #[.int .i64 0, .int .i64 0] 30) = z1 at HB3 HT3 HK3 HF1 HR1 F1 V1 ⊢
    generalize y1.heap.size = b1 at F1 ⊢
    clear hr hws
    have hbxd := HB3.out.lt
    obtain ⟨d0, d1, d2, d3⟩ := HB3.out
    go_wp2_with fail
    refine (optimal_good HT3.out OK.out HX.out WS.out).mono ?_; rintro e y2 ⟨D, rfl, hd, hk⟩
    have HD := Lib.hid hd
    clear hd
    clear hbxd d0 d1 d2 d3
    simp only [fltV]
    have KA := (Keeps.refl (fun _ => False) y2).alloc (.cells #[.int .i64 0, .int .i64 0] 30)
    have KB := hk.trans KA
    have HB4 := Lib.hid (HB3.out.keeps0 KB); have HT4 := Lib.hid (HT3.out.keeps0 KB); have HK4 := Lib.hid (HK3.out.trans KB); have HF2 := Lib.hid (KB.heap HF1.out (fun h => h)); have HR2 := Lib.hid (KB.heap HR1.out (fun h => h)); have F11 := Lib.hid (KB.heap F1.out (fun h => h)); have V11 := Lib.hid (V1.out.keeps0 KB)
    clear HB3 HT3 HK3 HF1 HR1 F1 V1
    have F2 := Lib.hid (heap_alloc_new y2 (.cells #[.int .i64 0, .int .i64 0] 30))
    clear hk KA KB
    go_upto_region 6 with fail
    generalize y2.alloc (.cells #[.int .i64 0, .int .i64 0] 30) = z2 at HB4 HT4 HK4 HF2 HR2 F11 V11 F2 ⊢
    generalize y2.heap.size = b2 at F2 ⊢
    obtain ⟨p0, q0, r0, s0, l0⟩ := pair_cells HF2.out
    clear r0 s0
    obtain ⟨p1, q1, r1, s1, l1⟩ := pair_cells F11.out
    clear r1 s1
    obtain ⟨p2, q2, r2, s2, l2⟩ := pair_cells F2.out
    clear r2 s2
    obtain ⟨t0, t1, t2, t3, tl⟩ := quad_cells HR2.out
    obtain ⟨hyes, hno⟩ := wide_plain OK.out HX.out WS.out HD.out hk0 RES.out
    have HNO := Lib.hid hno
    clear t1 t2 t3 hno
    have HCV := Lib.hid (V11.out.cell rfl)
    have hfew : ws.length ≤ 2000 := (costs_need OK.out HX.out WS.out.1).2.2.2.2.1
    generalize D (wd t.init) = dd at hyes HNO ⊢
    have hdd : fnd = true → decide (dd < 1000000000) = true := fun h => by simpa using hyes h
    have HDD := Lib.hid hdd
    clear hyes hdd
    go_wp2_with fail
    go_loop [11] (fun v11 => ∃ i : Nat, i ≤ ws.length ∧ v11 = .int .i64 (i : Int) ∧ ∀ x ∈ ws.take i, ((facts x).length : Int) ≤ k) (fun v11 => ws.length - (intOf v11).toNat)
    case atStart => exact ⟨0, Nat.zero_le _, rfl, fun x hx => by simp at hx⟩
    case round =>
      obtain ⟨i, hi, rfl, hall⟩ := hrel
      have HALL := Lib.hid hall
      clear hall
      by_cases hlt : i < ws.length
      · obtain ⟨x, hx⟩ : ∃ x, ws[i]? = some x := ⟨_, List.getElem?_eq_getElem hlt⟩
        have HXI := Lib.hid hx
        obtain ⟨bl, ol, rfl, hx'⟩ := HCV.out (by rw [List.length_map]; omega)
        obtain ⟨uf, hu, hiu⟩ := hx' i (facts x) (by rw [List.getElem?_map, hx]; rfl)
        obtain ⟨af, cf, hfu, hfl⟩ := hiu.form
        subst hfu
        clear hx hx' hiu
        by_cases hle : ((facts x).length : Int) ≤ k
        · have HALL2 : Hid (∀ y ∈ ws.take (i + 1), ((facts y).length : Int) ≤ k) := by
            unfold Hid
            rw [take_getS HXI.out]
            intro y hy
            rcases List.mem_append.1 hy with hy | hy
            · exact HALL.out y hy
            · rw [List.mem_singleton] at hy; subst hy; exact hle
          go_wp2_with fail
          go_round
          case rel => exact ⟨i + 1, by omega, by go_num, HALL2.out⟩
          case measure => simp only [intOf]; omega
        · cases hf : fnd with
          | false =>
            subst hf
            go_wp2_with fail
            go_ret
            exact ⟨rfl, HK4.out⟩
          | true =>
            have hd1 := HDD.out hf
            subst hf
            go_wp2_with fail
            go_ret
            exact ⟨rfl, HK4.out⟩
      · have hie : i = ws.length := by omega
        subst hie
        have hall := HALL.out
        rw [List.take_length] at hall
        have HA := Lib.hid hall
        clear hall
        cases hf : fnd with
        | false =>
          have hd1 := HNO.out hf HA.out
          subst hf
          subst hd1
          go_wp2_with fail
          go_ret
          exact ⟨rfl, HK4.out⟩
        | true =>
          have hd1 := HDD.out hf
          subst hf
          go_wp2_with fail
          go_ret
          exact ⟨rfl, HK4.out⟩
  ·
    have hfb : (fc != 0) = true := by simpa using hfc
    clear HRR hfc
    have hbxd := HB2.out.lt
    obtain ⟨d0, d1, d2, d3⟩ := HB2.out
    go_wp2_with fail
    refine (explore_weak HT2.out).mono ?_; rintro e y1 ⟨a1, n1, c1, f1, g1, rfl, hk⟩
    clear hbxd d0 d1 d2 d3
    simp only [fltV]
    have KA := (Keeps.refl (fun _ => False) y1).alloc (.cells #[.int .i64 f1, .int .i64 g1] 30)
    have KB := hk.trans KA
    have HB3 := Lib.hid (HB2.out.keeps0 KB); have HT3 := Lib.hid (HT2.out.keeps0 KB); have HK3 := Lib.hid (HK2.out.trans KB); have HF1 := Lib.hid (KB.heap HF.out (fun h => h)); have HR1 := Lib.hid (KB.heap HR.out (fun h => h))
    clear HB2 HT2 HK2 HF HR
    have F1 := Lib.hid (heap_alloc_new y1 (.cells #[.int .i64 f1, .int .i64 g1] 30))
    clear hk KA KB
    go_upto_region 5 with fail
    generalize y1.alloc (.cells #[.int .i64 f1, .int .i64 g1] 30) = z1 at HB3 HT3 HK3 HF1 HR1 F1 ⊢
    generalize y1.heap.size = b1 at F1 ⊢
    have hbxd := HB3.out.lt
    obtain ⟨d0, d1, d2, d3⟩ := HB3.out
    go_wp2_with fail
    refine (optimal_weak HT3.out).mono ?_; rintro e y2 ⟨n2, f2, g2, rfl, hk⟩
    clear hbxd d0 d1 d2 d3
    simp only [fltV]
    have KA := (Keeps.refl (fun _ => False) y2).alloc (.cells #[.int .i64 f2, .int .i64 g2] 30)
    have KB := hk.trans KA
    have HB4 := Lib.hid (HB3.out.keeps0 KB); have HT4 := Lib.hid (HT3.out.keeps0 KB); have HK4 := Lib.hid (HK3.out.trans KB); have HF2 := Lib.hid (KB.heap HF1.out (fun h => h)); have HR2 := Lib.hid (KB.heap HR1.out (fun h => h)); have F11 := Lib.hid (KB.heap F1.out (fun h => h))
    clear HB3 HT3 HK3 HF1 HR1 F1
    have F2 := Lib.hid (heap_alloc_new y2 (.cells #[.int .i64 f2, .int .i64 g2] 30))
    clear hk KA KB
    go_upto_region 6 with fail
    generalize y2.alloc (.cells #[.int .i64 f2, .int .i64 g2] 30) = z2 at HB4 HT4 HK4 HF2 HR2 F11 F2 ⊢
    generalize y2.heap.size = b2 at F2 ⊢
    obtain ⟨p0, q0, r0, s0, l0⟩ := pair_cells HF2.out
    clear r0 s0
    obtain ⟨p1, q1, r1, s1, l1⟩ := pair_cells F11.out
    clear r1 s1
    obtain ⟨p2, q2, r2, s2, l2⟩ := pair_cells F2.out
    clear r2 s2
    go_wp2_with fail
    go_ret
    exact ⟨rfl, HK4.out⟩

end Go.Proofs.Ytdonadeodioplaa

namespace Go.Proofs.Ytdonadeodioplaa
open Go.ChangeShapes Go.WideShapes Go.ChangeAt Go.RowKit Go.Deep

theorem cells_int : Try.prog.cellsOf 3 = 1 := by kernel_rfl
theorem cells_operator : Try.prog.cellsOf 39 = 4 := by kernel_rfl
theorem cells_task : Try.prog.cellsOf 25 = 4 := by kernel_rfl
theorem cells_ints : Try.prog.cellsOf 22 = 1 := by kernel_rfl

theorem ints_of_trod {H : Type} {enc : TypeId × Value → H} {W : World} {v : Value} {fuel : Nat} {x : DataW H × List MemPlace}
    (hf : DataW.trod enc Try.prog W 0 (fun _ => true) true fuel 22 [v] = some x) : ∃ l, Ints W v l := by
  rcases open_ints Try.underlying22 Try.underlying3 cells_int hf with ⟨hcs, hx⟩ | ⟨a, len, cap, zs, hcs, _, hl, hm, hz, hx, hcell, hwz⟩
  · simp at hcs
    subst hcs
    exact ⟨[], none, 0, rfl, by simp, fun h => by simp at h⟩
  · simp at hcs
    subst hcs
    simp only [if_true] at hz
    have hlt : (zs.take len).length = len := by simp; omega
    refine ⟨zs.take len, some a, cap, by rw [hlt], by rw [hlt]; omega, fun h => ?_⟩
    rw [hlt] at h
    obtain ⟨b, off, spot⟩ := a
    have hspot : spot = none := by simpa [Addr.add] using World.cell?_spot (hcell 0 (by omega))
    subst hspot
    refine ⟨b, off, rfl, fun j x hj => ?_⟩
    rw [List.getElem?_map, List.getElem?_take] at hj
    split at hj
    · have := hcell j (by omega)
      rw [add_plain] at this
      rw [List.getD_eq_getElem?_getD] at this
      obtain ⟨y, hy⟩ : ∃ y, zs[j]? = some y := ⟨_, List.getElem?_eq_getElem (by omega)⟩
      rw [hy] at this hj
      simp at hj this
      subst hj
      exact this
    · simp at hj

theorem operator_struct : ∃ f0 f1 f2 f3 : Field, Try.prog.underlying 39 = some (.struct #[f0, f1, f2, f3]) ∧ (f0.type = 22 ∧ f1.type = 22 ∧ f2.type = 22 ∧ f3.type = 3) ∧ f0.offset = 0 ∧ f1.offset = 1 ∧ f2.offset = 2 ∧ f3.offset = 3 :=
  ⟨_, _, _, _, Try.underlying39, ⟨rfl, rfl, rfl, rfl⟩, rfl, rfl, rfl, rfl⟩

set_option maxRecDepth 100000 in
theorem ops_of_trod {H : Type} {enc : TypeId × Value → H} {W : World} {v : Value} {fuel : Nat} {x : DataW H × List MemPlace}
    (hf : DataW.trod enc Try.prog W 0 (fun _ => true) true fuel 23 [v] = some x) : ∃ ops, OpsAt W v ops := by
  rcases open_slice Try.underlying23 hf with ⟨hcs, hx⟩ | ⟨a, len, cap, m, n, D, Pl, hcs, hb, hl, hm, hmm, hx, each⟩
  · simp at hcs
    subst hcs
    exact ⟨[], none, 0, rfl, by simp, fun h => by simp at h⟩
  · simp at hcs
    subst hcs
    simp only [if_true] at hmm
    obtain ⟨f0, f1, f2, f3, hs, ⟨t0, t1, t2, t3⟩, s0, s1, s2, s3⟩ := operator_struct
    have all : ∀ i, i < len → ∃ (o : Opr) (va vb vc : Value), W.cell? (a.add (i * 4)) = some va ∧ W.cell? (a.add (i * 4 + 1)) = some vb ∧ W.cell? (a.add (i * 4 + 2)) = some vc ∧ W.cell? (a.add (i * 4 + 3)) = some (.int .i64 o.cost) ∧ Ints W va o.pre ∧ Ints W vb o.add ∧ Ints W vc o.del := by
      intro i hi
      obtain ⟨cs', h1, h2⟩ := each i (by omega)
      rw [cells_operator] at h1
      obtain ⟨_, hlen, hcell⟩ := World.cells?_some h1
      obtain ⟨xs, k, hk, hxy, _, hxl, hff⟩ := DataW.trod_struct hs h2
      match xs, hxl, cs', hlen with
      | [y0, y1, y2, y3], _, [v0, v1, v2, v3], _ =>
        have g0 := hff 0 f0 rfl
        have g1 := hff 1 f1 rfl
        have g2 := hff 2 f2 rfl
        have g3 := hff 3 f3 rfl
        simp [t0, t1, t2, t3, s0, s1, s2, s3, cells_int, cells_ints] at g0 g1 g2 g3
        obtain ⟨l0, e0⟩ := ints_of_trod g0
        obtain ⟨l1, e1⟩ := ints_of_trod g1
        obtain ⟨l2, e2⟩ := ints_of_trod g2
        obtain ⟨x3, e3, _⟩ := DataW.trod_int Try.underlying3 g3
        simp at e3
        subst e3
        have c0 := hcell 0 (by omega)
        have c1 := hcell 1 (by omega)
        have c2 := hcell 2 (by omega)
        have c3 := hcell 3 (by omega)
        rw [add_add] at c0 c1 c2 c3
        exact ⟨⟨l0, l1, l2, x3⟩, v0, v1, v2, by simpa using c0, by simpa using c1, by simpa using c2, by simpa using c3, e0, e1, e2⟩
    have hops : ∀ n, n ≤ len → ∃ ops : List Opr, ops.length = n ∧ ∀ i o, ops[i]? = some o → ∃ va vb vc : Value, W.cell? (a.add (i * 4)) = some va ∧ W.cell? (a.add (i * 4 + 1)) = some vb ∧ W.cell? (a.add (i * 4 + 2)) = some vc ∧ W.cell? (a.add (i * 4 + 3)) = some (.int .i64 o.cost) ∧ Ints W va o.pre ∧ Ints W vb o.add ∧ Ints W vc o.del := by
      intro n
      induction n with
      | zero => intro _; exact ⟨[], rfl, by simp⟩
      | succ n ih =>
        intro hn
        obtain ⟨ops, h1, h2⟩ := ih (by omega)
        obtain ⟨o, ho⟩ := all n (by omega)
        refine ⟨ops ++ [o], by simp [h1], fun i o' hi => ?_⟩
        by_cases hin : i < ops.length
        · rw [List.getElem?_append_left hin] at hi
          exact h2 i o' hi
        · rw [List.getElem?_append_right (by omega)] at hi
          have hz : i - ops.length = 0 := by
            have := (List.getElem?_eq_some_iff.1 hi).1; simp at this; omega
          rw [hz] at hi
          simp at hi
          subst hi
          have : i = n := by omega
          subst this
          exact ho
    obtain ⟨ops, hlen, hcells⟩ := hops len (Nat.le_refl _)
    refine ⟨ops, some a, cap, by rw [hlen], by rw [hlen]; omega, fun h => ?_⟩
    obtain ⟨o, va, vb, vc, ho, _⟩ := all 0 (by omega)
    obtain ⟨b, off, spot⟩ := a
    have hspot : spot = none := by simpa [Addr.add] using World.cell?_spot ho
    subst hspot
    refine ⟨b, off, rfl, fun i o' hi => ?_⟩
    obtain ⟨va, vb, vc, g0, g1, g2, g3, g4⟩ := hcells i o' hi
    rw [add_plain] at g0 g1 g2 g3
    exact ⟨va, vb, vc, g0, g1, g2, g3, g4⟩

set_option maxRecDepth 100000 in
theorem task_struct : ∃ f0 f1 f2 f3 : Field, Try.prog.underlying 25 = some (.struct #[f0, f1, f2, f3]) ∧ (f0.type = 3 ∧ f1.type = 22 ∧ f2.type = 22 ∧ f3.type = 23) ∧ oneCellFields Try.prog #[f0, f1, f2, f3] = true :=
  ⟨_, _, _, _, Try.underlying25, ⟨rfl, rfl, rfl, rfl⟩, by kernel_rfl⟩

set_option maxRecDepth 100000 in
theorem opened_task {H : Type} {enc : TypeId × Value → H} {W : World} {v : Value} {d0 : DataW H} {p : List MemPlace} {r : Go.Reach} {b0 : Nat}
    (h0 : DataW.Trod enc Try.prog W 0 (fun _ => true) true 25 v d0 p) (hv : Value.okWide Try.prog W r b0 25 v) : ∃ (t : Tsk) (vi vg vo : Value), v = .agg #[.int .i64 t.n, vi, vg, vo] ∧ TaskAt W vi vg vo t := by
  obtain ⟨f0, f1, f2, f3, hs, ⟨t0, t1, t2, t3⟩, hone⟩ := task_struct
  obtain ⟨v0, v1, v2, v3, y0, y1, y2, y3, n, rfl, _, _, h1, h2, h3, h4⟩ := Joins.open_agg4 hs hone cells_task hv h0
  rw [t0] at h1; rw [t1] at h2; rw [t2] at h3; rw [t3] at h4
  obtain ⟨x0, e0, _⟩ := DataW.trod_int Try.underlying3 h1
  simp at e0
  subst e0
  obtain ⟨l1, k1⟩ := ints_of_trod h2
  obtain ⟨l2, k2⟩ := ints_of_trod h3
  obtain ⟨ops, k3⟩ := ops_of_trod h4
  exact ⟨⟨x0, l1, l2, ops⟩, v1, v2, v3, rfl, k1, k2, k3⟩

theorem opened_ints {H : Type} {enc : TypeId × Value → H} {W : World} {v : Value} {d0 : DataW H} {p : List MemPlace}
    (h0 : DataW.Trod enc Try.prog W 0 (fun _ => true) true 22 v d0 p) (hv : ∃ a n c, v = .slice a n c) : ∃ l, Ints W v l := by
  obtain ⟨a0, len, cap, rfl⟩ := hv
  obtain ⟨fuel, hf⟩ := h0
  exact ints_of_trod (x := (d0, p)) (by simpa [Value.cells] using hf)

theorem godebug_own : ownKnob Try.prog.godebug = none := by kernel_rfl
theorem laidOut : laidOutB Try.prog = true := by kernel_rfl

end Go.Proofs.Ytdonadeodioplaa
