/- novelty.New. noResult, isOne, StateFault of the reference. novelty's example. novelty: NoveltyWideSearchIsComplete walked. The rows' frame: arguments of type api.Task and []int, read. strips.Contains, Update, Can, Next. strips.Run, Works, Steps, PlanFault. strips.Steps, PlanFault, Works, Solves, Cost, Play. No condition beyond what each theorem says. -/
import Derived.Test.YtdonadeodioplaaK11
import Derived.Test.YtdonadeodioplaaK4
import Derived.Test.YtdonadeodioplaaK5
import Derived.Test.YtdonadeodioplaaK9
import Derived.Test.YtdonadeodioplaaK12
import Derived.Test.YtdonadeodioplaaK2
import Derived.Test.YtdonadeodioplaaRows
import Derived.ProofKit
import Derived.Deep.SlicePairs
import Derived.Lib.SmallJoins
import Derived.Test.YtdonadeodioplaaK10
import Derived.Sort.OwnSortedInts

namespace Go.Proofs.Ytdonadeodioplaa
open Go.RowKit

/-- The fault of the first list that is no set. -/
def badAt (n : Int) : List (List Int) → Int → Int × Int
  | [], _ => (0, 0)
  | l :: r, i => if isSetB l n = true then badAt n r (i + 1) else (5, i)

def newF (t : Tsk) (ls : List (List Int)) (s : List Int) (k : Int) : Int × Int :=
  if (stateFault t s).1 ≠ 0 then stateFault t s else if k < 0 ∨ 4 < k then (3, -8) else if 2000 < ls.length then (2, -10) else badAt t.n ls 0
def newB (t : Tsk) (ls : List (List Int)) (s : List Int) (k : Int) : Bool := (newF t ls s k == (0, 0)) && !covN (wd s) (ls.map wd) k.toNat 0

theorem badAt_set {n : Int} : ∀ {ls : List (List Int)} {i : Int}, (∀ l ∈ ls, isSetB l n = true) → badAt n ls i = (0, 0)
  | [], _, _ => rfl
  | l :: r, i, h => by
    unfold badAt
    rw [if_pos (h l (List.mem_cons_self ..))]
    exact badAt_set (fun l hl => h l (List.mem_cons_of_mem _ hl))
theorem badAt_at {n : Int} : ∀ {ls : List (List Int)} {j : Nat} {i : Int} {l : List Int}, (∀ l ∈ ls.take j, isSetB l n = true) → ls[j]? = some l → isSetB l n = false → badAt n ls i = (5, i + (j : Int))
  | [], _, _, _, _, h, _ => by simp at h
  | l :: r, 0, i, l', _, h, hb => by
    simp at h; subst h
    unfold badAt
    rw [if_neg (by rw [hb]; simp)]; simp
  | l :: r, j + 1, i, l', h1, h, hb => by
    unfold badAt
    rw [if_pos (h1 l (by simp)), badAt_at (j := j) (fun l hl => h1 l (by simp [hl])) (by simpa using h) hb]
    simp; omega

def NewPost (t : Tsk) (ls : List (List Int)) (s : List Int) (k : Int) (w : World) (e : Ending) (w' : World) : Prop :=
  e = .returned (.tuple #[.bool (newB t ls s k), fltV (newF t ls s k).1 (newF t ls s k).2]) ∧ Keeps (fun _ => False) w w'

set_option maxRecDepth 100000 in
set_option maxHeartbeats 4000000 in
theorem new_any' (w : World) (vi vg vo vl vs : Value) (t : Tsk) (ls : List (List Int)) (s : List Int) (k : Int) (h : TaskAt w vi vg vo t) (hl : Lists w vl ls) (hs : Ints w vs s) :
    Calls Try.prog 64 #[.agg #[.int .i64 t.n, vi, vg, vo], vl, vs, .int .i64 k] w (NewPost t ls s k w) := by
  obtain ⟨j0, hj0, jz0, jz1, jz2⟩ := info_parts Try.info_u32
  obtain ⟨ai, ci, h1, _⟩ := h.init.form
  obtain ⟨ag, cg, h2, _⟩ := h.goal.form
  obtain ⟨ao, co, h3, hmo⟩ := h.ops.form
  obtain ⟨aa, cs, h4, _⟩ := hs.form
  obtain ⟨al, cl, h5, hml⟩ := hl.form
  have K1 := (Keeps.refl (fun _ => False) w).alloc (.cells #[.int .i64 t.n, vi, vg, vo] 25)
  have HT := h.keeps0 (K1.alloc (.cells #[.int .i64 0, .int .i64 0] 30))
  have HSS : Ints _ _ s := hs.keeps0 (K1.alloc (.cells #[.int .i64 0, .int .i64 0] 30))
  have HL : Lists _ _ ls := hl.keeps0 (K1.alloc (.cells #[.int .i64 0, .int .i64 0] 30))
  have HB := (Four.new w (.int .i64 t.n) vi vg vo 25).keeps0 ((Keeps.refl _ _).alloc (.cells #[.int .i64 0, .int .i64 0] 30))
  have HF : Flt w ((w.alloc (.cells #[.int .i64 t.n, vi, vg, vo] 25)).alloc (.cells #[.int .i64 0, .int .i64 0] 30)) (w.heap.size + 1) 30 :=
    ⟨by have := heap_alloc_new (w.alloc (.cells #[.int .i64 t.n, vi, vg, vo] 25)) (.cells #[.int .i64 0, .int .i64 0] 30); rwa [World.size_alloc] at this, by omega, K1.alloc _⟩
  subst h1 h2 h3 h4 h5
  replace HT := Lib.hid HT; replace HB := Lib.hid HB; replace HF := Lib.hid HF; replace HSS := Lib.hid HSS; replace HL := Lib.hid HL
  clear h hs K1 hl
  go_enter Try.func64, Try.ntmps64
  go_upto_region 1 with fail
  generalize ((w.alloc (.cells #[.int .i64 t.n, .slice ai t.init.length ci, .slice ag t.goal.length cg, .slice ao t.ops.length co] 25)).alloc (.cells #[.int .i64 0, .int .i64 0] 30)) = w1 at HT HB HF HSS HL ⊢
  have hbx := HB.out.lt
  obtain ⟨d0, d1, d2, d3⟩ := HB.out
  go_wp2_with fail
  refine (stateFault_any _ _ _ _ _ t s HT.out HSS.out).mono ?_; rintro e w2 ⟨rfl, hk⟩
  have HF2 := Lib.hid (HF.out.keeps0 hk)
  have HB2 := Lib.hid (HB.out.keeps0 hk)
  have HS2 := Lib.hid (show Ints w2 (.slice aa s.length cs) s from HSS.out.keeps0 hk)
  have HL2 := Lib.hid (HL.out.keeps0 hk)
  clear d0 d1 d2 d3 hk
  by_cases hc : (stateFault t s).1 = 0
  · obtain ⟨hok, hset⟩ := stateFault_zero.1 hc
    have hft := stateFault_ok hc
    have NF : Hid (newF t ls s k = if k < 0 ∨ 4 < k then (3, -8) else if 2000 < ls.length then (2, -10) else badAt t.n ls 0) := by
      unfold Hid newF; rw [if_neg (by simpa using hc)]
    rw [hft]
    have OK := Lib.hid hok; have SET := Lib.hid hset
    clear hc hft hok hset
    have KA := (Keeps.refl (fun _ => False) w2).alloc (.cells #[.int .i64 0, .int .i64 0] 30)
    have HF3 := Lib.hid (HF2.out.keeps0 KA); have HB3 := Lib.hid (HB2.out.keeps0 KA); have HS3 := Lib.hid (show Ints _ (.slice aa s.length cs) s from HS2.out.keeps0 KA); have HL3 := Lib.hid (HL2.out.keeps0 KA)
    have F0 := heap_alloc_new w2 (.cells #[.int .i64 0, .int .i64 0] 30)
    clear KA
    go_upto_region 2 with fail
    generalize w2.alloc (.cells #[.int .i64 0, .int .i64 0] 30) = w3 at HF3 HB3 HS3 HL3 F0 ⊢
    have f0 : w3.cell? ⟨w2.heap.size, 0, none⟩ = some (.int .i64 0) := by rw [cell_of_blk F0]; rfl
    have f1 : w3.cell? ⟨w2.heap.size, 1, none⟩ = some (.int .i64 0) := by rw [cell_of_blk F0]; rfl
    obtain ⟨d0, d1, d2, d3⟩ := HB3.out
    obtain ⟨e0, e1, z0, z1, hF⟩ := HF3.out.cells
    have hbx3 := HB3.out.lt
    clear F0
    by_cases hk : k < 0 ∨ 4 < k
    · have NF2 : Hid (newF t ls s k = (3, -8)) := by unfold Hid; rw [NF.out, if_pos hk]
      have NB : Hid (newB t ls s k = false) := by unfold Hid newB; rw [NF2.out]; rfl
      have q : (decide (k < 0) = true) ∨ (decide (k < 0) = false ∧ decide (4 < k) = true) := by
        by_cases h0 : k < 0
        · exact .inl (by simpa using h0)
        · exact .inr ⟨by simpa using h0, by simpa using hk.resolve_left h0⟩
      clear hk
      rcases q with q | ⟨q, q2⟩
      all_goals
        go_wp2_with fail
        refine bodyPost_ret (results_tmp_cell _ _ (w.heap.size + 1) 30 #[.int .i64 3, .int .i64 (-8)] (0, 0) _ rfl rfl (HF3.out.set (.int .i64 3) (.int .i64 (-8))).1 Try.underlying30 rfl (by kernel_rfl)) rfl ?_
        exact ⟨by rw [NB.out, NF2.out]; rfl, (HF3.out.set _ _).2⟩
    · have q1 : decide (k < 0) = false := by simp; omega
      have q2 : decide (4 < k) = false := by simp; omega
      by_cases hlen : 2000 < ls.length
      · have NF2 : Hid (newF t ls s k = (2, -10)) := by unfold Hid; rw [NF.out, if_neg hk, if_pos hlen]
        have NB : Hid (newB t ls s k = false) := by unfold Hid newB; rw [NF2.out]; rfl
        have q3 : decide ((2000 : Int) < (ls.length : Int)) = true := by simp; omega
        clear hk hlen
        go_wp2_with fail
        refine bodyPost_ret (results_tmp_cell _ _ (w.heap.size + 1) 30 #[.int .i64 2, .int .i64 (-10)] (0, 0) _ rfl rfl (HF3.out.set (.int .i64 2) (.int .i64 (-10))).1 Try.underlying30 rfl (by kernel_rfl)) rfl ?_
        exact ⟨by rw [NB.out, NF2.out]; rfl, (HF3.out.set _ _).2⟩
      · have NF2 : Hid (newF t ls s k = badAt t.n ls 0) := by unfold Hid; rw [NF.out, if_neg hk, if_neg hlen]
        have q3 : decide ((2000 : Int) < (ls.length : Int)) = false := by simp; omega
        have hlen2 : ls.length ≤ 2000 := by omega
        have hk2 : 0 ≤ k ∧ k ≤ 4 := by omega
        have HCL := Lib.hid (fun h0 => HL3.out.cell (ao := al) (n := ls.length) (cap := cl) rfl h0)
        have n1 := OK.out.n1
        clear hk hlen d0 d1 d2 d3 e0 e1 z0 z1
        go_wp2_with fail
        go_loopw [11, 34] (fun v11 v34 wr => ∃ (i : Nat), i ≤ ls.length ∧ v34 = .int .i64 (i : Int) ∧ wr.ownsRow w3.heap.size 75 1 v11 i (((ls.take i).map wd).map encW) ∧ (∀ l ∈ ls.take i, isSetB l t.n = true) ∧ Keeps (fun _ => False) w3 wr) (fun _ v34 _ => ls.length - (intOf v34).toNat)
        case atStart => exact ⟨0, Nat.zero_le _, rfl, World.ownsRow_nil _ _ _ _, fun l hl => by simp at hl, Keeps.refl _ _⟩
        case round =>
          obtain ⟨i, hi, rfl, hrow, hsets, hkr⟩ := hrel
          have HR := Lib.hid hrow; have HKR := Lib.hid hkr; have HSE := Lib.hid hsets
          have hsz := hkr.size
          obtain ⟨ar, cr, har⟩ := ownsRow_form1 hrow
          subst har
          have HBr := Lib.hid (HB3.out.keeps0 hkr)
          have HFr := Lib.hid (HF3.out.keeps0 hkr)
          have HSr := Lib.hid (show Ints wr (.slice aa s.length cs) s from HS3.out.keeps0 hkr)
          obtain ⟨d0, d1, d2, d3⟩ := HBr.out
          obtain ⟨e0, e1, z0, z1, hF2⟩ := HFr.out.cells
          clear hrow hsets hkr
          by_cases hlt : i < ls.length
          · obtain ⟨bl, ol, rfl, hx'⟩ := HCL.out (by omega)
            obtain ⟨l, hl⟩ : ∃ l, ls[i]? = some l := ⟨_, List.getElem?_eq_getElem hlt⟩
            obtain ⟨u, hu, hiu⟩ := hx' i l hl
            have hu2 := HKR.out.cell hu (fun h => h)
            have HU := Lib.hid (show Ints wr u l from hiu.keeps0 HKR.out)
            obtain ⟨au, cu, hfu, _⟩ := hiu.form
            subst hfu
            have HTK := Lib.hid (take_getS hl)
            have HLI := Lib.hid hl
            clear hx' hl hu hiu
            go_wp2_with fail
            refine (sIsSet_any _ _ l t.n HU.out).mono ?_; rintro e w4 ⟨rfl, rfl⟩
            cases hb : isSetB l t.n with
            | false =>
              have NF3 : Hid (newF t ls s k = (5, (i : Int))) := by unfold Hid; rw [NF2.out, badAt_at HSE.out HLI.out hb]; simp
              have NB : Hid (newB t ls s k = false) := by
                unfold Hid newB; rw [NF3.out]; rfl
              clear hb
              go_wp2_with fail
              refine bodyPost_ret (results_tmp_cell _ _ (w.heap.size + 1) 30 #[.int .i64 5, .int .i64 (i : Int)] (0, 0) _ rfl rfl (HFr.out.set (.int .i64 5) (.int .i64 (i : Int))).1 Try.underlying30 rfl (by kernel_rfl)) rfl ?_
              exact ⟨by rw [NB.out, NF3.out]; rfl, (HFr.out.set _ _).2⟩
            | true =>
              have HSB := Lib.hid hb
              clear hb
              go_wp2_with fail
              refine (word_any _ _ l HU.out (fun x hx => by have := (isSet_iff.1 HSB.out).1 x hx; omega)).mono ?_; rintro e w4 ⟨rfl, rfl⟩
              go_wp2_with (at_builtin; refine wpList_append_d rfl _ _ _ rfl w3.heap.size 75 j0 _ 1 4 Try.underlying72 hj0 jz0 jz1 jz2 rfl (by omega) _ i (((ls.take i).map wd).map encW) (by rfl) (World.ownsRow.alloc HR.out (.cells #[.int .u32 (wd l : Nat)] 75)) ⟨wr.heap.size, 0, none⟩ 1 1 [.int .u32 (wd l : Nat)] (by rfl) (by rfl) (World.news_of_block (cs := #[.int .u32 (wd l : Nat)]) (t := 75) (fr := (0, 0)) (heap_alloc_new _ _)) (by simp [Value.oneCell']) (by omega) (by unfold maxLen; omega) (by omega) (by simp; omega) (wr.heap.size + 1) (by simp) ?_)
              intro gg cap2 w5 hown hgrow hat hlt5 hd5
              have HROW : Hid (w5.ownsRow w3.heap.size 75 1 (.slice (some ⟨gg, 0, none⟩) (i + 1) cap2) (i + 1) (((ls.take (i + 1)).map wd).map encW)) := by
                unfold Hid
                have e : List.take i (ls.map (encW ∘ wd)) = ((ls.take i).map wd).map encW := by rw [← List.map_take, List.map_map]
                rw [e] at hown
                rw [HTK.out, List.map_append, List.map_append]; exact hown
              have HSE2 : Hid (∀ x ∈ ls.take (i + 1), isSetB x t.n = true) := by
                unfold Hid
                rw [HTK.out]
                intro x hx
                rcases List.mem_append.1 hx with hx | hx
                · exact HSE.out x hx
                · simp at hx; subst hx; exact HSB.out
              have HK5 := Lib.hid (own_grown HR.out HKR.out ((Keeps.refl _ wr).alloc (.cells #[.int .u32 (wd l : Nat)] 75)) hgrow)
              clear hown hgrow hat hd5 d0 d1 d2 d3 e0 e1 z0 z1
              go_wp2_with fail
              go_roundw
              case rel => exact ⟨i + 1, by omega, by go_num, HROW.out, HSE2.out, HK5.out⟩
              case measure => simp only [intOf]; omega
          · have hie : i = ls.length := by omega
            subst hie
            have HSE2 : Hid (∀ l ∈ ls, isSetB l t.n = true) := by unfold Hid; have h := HSE.out; rwa [List.take_length] at h
            have NF3 : Hid (newF t ls s k = (0, 0)) := by unfold Hid; rw [NF2.out, badAt_set HSE2.out]
            have NB : Hid (newB t ls s k = !covN (wd s) (ls.map wd) k.toNat 0) := by
              unfold Hid newB; rw [NF3.out]; simp
            have HW := Lib.hid (show Wds wr (.slice ar ls.length cr) (ls.map wd) by
              have h := Sl.of_own HR.out
              rw [List.take_length] at h
              unfold Wds; rw [List.length_map]; exact h)
            go_wp2_with fail
            refine (word_any _ _ s HSr.out (fun x hx => by have := (isSet_iff.1 SET.out).1 x hx; omega)).mono ?_; rintro e w4 ⟨rfl, rfl⟩
            obtain ⟨kn, rfl⟩ : ∃ kn : Nat, k = (kn : Int) := ⟨k.toNat, by omega⟩
            go_wp2_with fail
            refine (covered_any (wd s) ?_ (ls.map wd) ?_ kn _ _ 0 (by omega) (by omega) HW.out).mono ?_
            · exact wd_lt (n := 32) (fun x hx => by have := (isSet_iff.1 SET.out).1 x hx; omega)
            · intro x hx
              obtain ⟨l, hl, rfl⟩ := List.mem_map.1 hx
              exact wd_lt (n := 32) (fun x hx => by have := (isSet_iff.1 (HSE2.out l hl)).1 x hx; omega)
            rintro e w5 ⟨rfl, hk5, hd5⟩
            have HF5 := Lib.hid (HFr.out.keeps0 hk5)
            have hkn : ((kn : Int)).toNat = kn := by omega
            clear d0 d1 d2 d3 e0 e1 z0 z1 hF2
            obtain ⟨e0, e1, z0, z1, hF2⟩ := HF5.out.cells
            clear hk5
            go_wp2_with fail
            refine bodyPost_ret (results_tmp_cell _ _ (w.heap.size + 1) 30 #[.int .i64 0, .int .i64 0] (0, 0) _ rfl rfl (HF5.out.set (.int .i64 0) (.int .i64 0)).1 Try.underlying30 rfl (by kernel_rfl)) rfl ?_
            exact ⟨by rw [NB.out, NF3.out, hkn]; rfl, (HF5.out.set _ _).2⟩
  · have hc2 : ((stateFault t s).1 == 0) = false := by simpa using hc
    have NF2 : Hid (newF t ls s k = stateFault t s) := by unfold Hid newF; rw [if_pos hc]
    have NB : Hid (newB t ls s k = false) := by
      unfold Hid newB
      rw [NF2.out]
      have : (stateFault t s == (0, 0)) = false := by
        rw [beq_eq_false_iff_ne]; intro h; rw [h] at hc; exact hc rfl
      rw [this]; rfl
    clear hc
    generalize hfe : stateFault t s = f at hc2 NF2 ⊢
    clear hfe
    have HF3 := Lib.hid (HF2.out.keeps0 ((Keeps.refl _ _).alloc (.cells #[.int .i64 f.1, .int .i64 f.2] 30)))
    obtain ⟨e0, e1, z0, z1, hF⟩ := HF3.out.cells
    go_wp2_with fail
    go_region
    all_goals
      go_wp2
      refine bodyPost_ret (results_tmp_cell _ _ (w.heap.size + 1) 30 #[.int .i64 f.1, .int .i64 f.2] (0, 0) _ rfl rfl (((Keeps.refl (fun _ => False) _).drew).heap (HF3.out.set (.int .i64 f.1) (.int .i64 f.2)).1 (fun h => h)) Try.underlying30 rfl (by kernel_rfl)) rfl ?_
      exact ⟨by rw [NB.out, NF2.out]; rfl, ((HF3.out.set (.int .i64 f.1) (.int .i64 f.2)).2).drew⟩

end Go.Proofs.Ytdonadeodioplaa

namespace Go.Proofs.Ytdonadeodioplaa
open Go.RowKit

def noResB (f : Bool) (m : Nat) (c n : Int) : Bool := !f && (m == 0) && (c == 0) && (n == 0)

set_option maxRecDepth 100000 in
set_option maxHeartbeats 1000000 in
theorem noResult_any (w : World) (f : Bool) (ao : Option Addr) (m cap : Nat) (c n : Int) (hm : m ≤ 9223372036854775807) :
    Calls Try.prog 58 #[resV f (.slice ao m cap) c n] w fun e w' => e = .returned (.bool (noResB f m c n)) ∧ Keeps (fun _ => False) w w' := by
  have HK := Lib.hid ((Keeps.refl (fun _ => False) w).alloc (.cells #[.bool f, .slice ao m cap, .int .i64 c, .int .i64 n] 48))
  have HX := heap_alloc_new w (.cells #[.bool f, .slice ao m cap, .int .i64 c, .int .i64 n] 48)
  have HE : Hid (noResB f m c n = (!f && (m == 0) && (c == 0) && (n == 0))) := rfl
  unfold resV
  go_enter Try.func58, Try.ntmps58
  go_upto_region 1 with fail
  generalize w.alloc (.cells #[.bool f, .slice ao m cap, .int .i64 c, .int .i64 n] 48) = w1 at HX HK ⊢
  have s0 : w1.cell? ⟨w.heap.size, 0, none⟩ = some (.bool f) := by rw [cell_of_blk HX]; rfl
  have s1 : w1.cell? ⟨w.heap.size, 1, none⟩ = some (.slice ao m cap) := by rw [cell_of_blk HX]; rfl
  have s2 : w1.cell? ⟨w.heap.size, 2, none⟩ = some (.int .i64 c) := by rw [cell_of_blk HX]; rfl
  have s3 : w1.cell? ⟨w.heap.size, 3, none⟩ = some (.int .i64 n) := by rw [cell_of_blk HX]; rfl
  have hl := lt_of_heap HX
  clear HX
  cases f with
  | true =>
    go_wp2_with fail
    go_ret
    exact ⟨congrArg (fun b => Ending.returned (Value.bool b)) (show false = noResB true m c n by rw [HE.out]; rfl), HK.out⟩
  | false =>
    by_cases h1 : m = 0
    · subst h1
      cases h2 : (c == 0) with
      | true =>
        go_wp2_with fail
        go_ret
        exact ⟨congrArg (fun b => Ending.returned (Value.bool b)) (show (n == 0) = noResB false 0 c n by rw [HE.out, h2]; rfl), HK.out⟩
      | false =>
        go_wp2_with fail
        go_ret
        exact ⟨congrArg (fun b => Ending.returned (Value.bool b)) (show false = noResB false 0 c n by rw [HE.out, h2]; rfl), HK.out⟩
    · have h2 : ((m : Int) == 0) = false := by simp; omega
      go_wp2_with fail
      go_ret
      exact ⟨congrArg (fun b => Ending.returned (Value.bool b)) (show false = noResB false m c n by rw [HE.out]; simp [h1]), HK.out⟩

/-! ### StateFault of the reference -/
end Go.Proofs.Ytdonadeodioplaa

/- isOne at the task step. -/
namespace Go.Proofs.Ytdonadeodioplaa
open Go.RowKit

set_option maxRecDepth 100000 in
set_option maxHeartbeats 1000000 in
theorem isOne_any (w : World) (vp : Value) (n : Int) (h : Ints w vp [0]) :
    Calls Try.prog 52 #[resV true vp 3 n, fltV 0 0] w fun e w' => e = .returned (.bool true) ∧ Keeps (fun _ => False) w w' := by
  obtain ⟨ap, cp, h4, _⟩ := h.form
  subst h4
  have KA := (Keeps.refl (fun _ => False) w).alloc (.cells #[.bool true, .slice ap 1 cp, .int .i64 3, .int .i64 n] 48)
  have KB := (Keeps.refl (fun _ => False) (w.alloc (.cells #[.bool true, .slice ap 1 cp, .int .i64 3, .int .i64 n] 48))).alloc (.cells #[.int .i64 0, .int .i64 0] 30)
  have HK := Lib.hid (KA.trans KB)
  have HX := KB.heap (heap_alloc_new w (.cells #[.bool true, .slice ap 1 cp, .int .i64 3, .int .i64 n] 48)) (fun h => h)
  have HF := heap_alloc_new (w.alloc (.cells #[.bool true, .slice ap 1 cp, .int .i64 3, .int .i64 n] 48)) (.cells #[.int .i64 0, .int .i64 0] 30)
  rw [World.size_alloc] at HF
  have HP := Lib.hid (show Ints _ (.slice ap 1 cp) [0] from h.keeps0 (KA.trans KB))
  clear KA KB h
  unfold resV fltV
  go_enter Try.func52, Try.ntmps52
  go_upto_region 1 with fail
  generalize (w.alloc (.cells #[.bool true, .slice ap 1 cp, .int .i64 3, .int .i64 n] 48)).alloc (.cells #[.int .i64 0, .int .i64 0] 30) = w1 at HX HF HK HP ⊢
  have s0 : w1.cell? ⟨w.heap.size, 0, none⟩ = some (.bool true) := by rw [cell_of_blk HX]; rfl
  have s1 : w1.cell? ⟨w.heap.size, 1, none⟩ = some (.slice ap 1 cp) := by rw [cell_of_blk HX]; rfl
  have s2 : w1.cell? ⟨w.heap.size, 2, none⟩ = some (.int .i64 3) := by rw [cell_of_blk HX]; rfl
  have f0 : w1.cell? ⟨w.heap.size + 1, 0, none⟩ = some (.int .i64 0) := by rw [cell_of_blk HF]; rfl
  have hl := lt_of_heap HX
  have hlF := lt_of_heap HF
  have kc := (Keeps.refl (fun _ => False) w1).alloc (.cells #[.int .i64 0] 3)
  have HQ := Lib.hid (Ints.one (x := 0) (heap_alloc_new w1 (.cells #[.int .i64 0] 3)))
  have HP2 := Lib.hid (show Ints _ (.slice ap 1 cp) [0] from HP.out.keeps0 kc)
  have HK2 := Lib.hid (HK.out.trans kc)
  have HX2 := Lib.hid (kc.heap HX (fun h => h))
  clear kc HX HF
  go_wp2_with fail
  refine (ints_any _ _ _ _ _ HP2.out HQ.out).mono ?_; rintro e w3 ⟨rfl, hk⟩
  have hx := hk.heap HX2.out (fun h => h)
  clear s0 s1 s2 hl
  have s2 : w3.cell? ⟨w.heap.size, 2, none⟩ = some (.int .i64 3) := by rw [cell_of_blk hx]; rfl
  have hl := lt_of_heap hx
  have HKE := Lib.hid (HK2.out.trans hk)
  clear hx hk
  go_wp2_with fail
  go_ret
  exact ⟨rfl, HKE.out⟩

end Go.Proofs.Ytdonadeodioplaa

namespace Go.Proofs.Ytdonadeodioplaa
open Go.RowKit

theorem stepT_nov : NovRes (accW (wd stepT.goal)) (covW 0) (wordsOf stepT.ops) (wd stepT.init) (some [0]) 1 :=
  NovRes.found (ops := wordsOf stepT.ops) 0 ⟨0, 0, 0, []⟩ ⟨1, 0, 0, [0]⟩ (by decide) (fun j e hj => absurd hj (Nat.not_lt_zero _)) rfl (by rfl)

theorem stepT_new : newB stepT [[]] [0] 1 = true ∧ newF stepT [[]] [0] 1 = (0, 0) := by decide

theorem Lists.nil1 {w : World} {b : Nat} {T : TypeId} (h : w.heap[b]? = some (.cells #[.slice none 0 0] T (0, 0))) : Lists w (.slice (some ⟨b, 0, none⟩) 1 1) [[]] := by
  refine ⟨_, 1, rfl, by unfold maxLen; simp, fun _ => ⟨b, 0, rfl, fun i l hl => ?_⟩⟩
  cases i with
  | zero =>
    simp at hl; subst hl
    refine ⟨.slice none 0 0, ?_, Ints.nil _⟩
    rw [cell_of_blk h]; rfl
  | succ i => simp at hl

theorem nplanStep_any (w : World) (vi vg vo : Value) (h : TaskAt w vi vg vo stepT) :
    Calls Try.prog 35 #[.agg #[.int .i64 1, vi, vg, vo], .int .i64 0] w fun e w' => ∃ v, e = .returned (.tuple #[resV true v 3 1, fltV 0 0]) ∧ Ints w' v [0] ∧ Keeps (fun _ => False) w w' := by
  refine (nplan_any w vi vg vo stepT 0 h).mono ?_
  rintro e w' ⟨hk, fnd, vp, lp, c, n, fc, fi, rfl, hi, hr⟩
  have hf : nplanF stepT 0 = (0, 0) := by
    unfold nplanF
    rw [stepT_ok, stepT_reached]; decide
  rcases hr with ⟨h1, h2, _⟩ | ⟨_, _, _, _, l, o, m, h1, h2⟩
  · rw [hf] at h1; cases h1; exact absurd rfl h2
  · obtain ⟨rfl, rfl⟩ := h2.res.unique stepT_nov
    have h3 := h2.fault
    have h4 : ((0 : Int), (0 : Int)) = (fc, fi) := by rw [← h3]; decide
    cases h4
    obtain ⟨rfl, rfl, rfl, rfl⟩ := h2.good rfl
    exact ⟨vp, rfl, hi, hk⟩

theorem widthStep_any (w : World) (vi vg vo : Value) (h : TaskAt w vi vg vo stepT) :
    Calls Try.prog 63 #[.agg #[.int .i64 1, vi, vg, vo]] w fun e w' => e = .returned (.tuple #[.int .i64 0, .bool true, fltV 0 0]) ∧ Keeps (fun _ => False) w w' := by
  refine (width_any w vi vg vo stepT h).mono ?_
  rintro e w' ⟨hk, n, ok, c, i, rfl, hr⟩
  have hf : expF stepT = (0, 0) := by
    unfold expF
    rw [stepT_ok, stepT_reached]; decide
  have nomiss : ¬ widthMiss stepT 0 := by
    rintro ⟨m, hm⟩
    have := (hm.unique stepT_nov).1
    cases this
  rcases hr with ⟨h1, h2, _⟩ | ⟨_, rfl, rfl, _, l, _, ⟨k, hk4, rfl, rfl, _, hj⟩ | ⟨_, _, hj⟩⟩
  · rw [hf] at h1; cases h1; exact absurd rfl h2
  · have : k = 0 := by
      rcases Nat.eq_zero_or_pos k with h | h
      · exact h
      · exact absurd (hj 0 h) nomiss
    subst this
    exact ⟨rfl, hk⟩
  · exact absurd (hj 0 (by omega)) nomiss

set_option maxRecDepth 100000 in
set_option maxHeartbeats 2000000 in
theorem noveltyExample_any (w : World) : Calls Try.prog 34 #[] w fun e w' => e = .returned (.bool true) ∧ Keeps (fun _ => False) w w' := by
  go_enter Try.func34, Try.ntmps34
  go_wp2_with fail
  refine (step_any _).mono ?_; rintro e w1 ⟨vi, vg, vo, rfl, ht, hk⟩
  have HT := Lib.hid ht; have K1 := Lib.hid hk
  clear ht hk
  go_wp2_with fail
  refine (nplanStep_any _ _ _ _ HT.out).mono ?_; rintro e w2 ⟨vp, rfl, hp, hk⟩
  obtain ⟨ap, cp, hvp, _⟩ := hp.form
  subst hvp
  have HP := Lib.hid hp; have K2 := Lib.hid (K1.out.trans hk)
  clear hp hk HT
  simp only [resV, fltV]
  have HRB := heap_alloc_new w2 (.cells #[.bool true, .slice ap [(0 : Int)].length cp, .int .i64 3, .int .i64 1] 48)
  have HFB := heap_alloc_new (w2.alloc (.cells #[.bool true, .slice ap [(0 : Int)].length cp, .int .i64 3, .int .i64 1] 48)) (.cells #[.int .i64 0, .int .i64 0] 30)
  have KA := ((Keeps.refl (fun _ => False) w2).alloc (.cells #[.bool true, .slice ap [(0 : Int)].length cp, .int .i64 3, .int .i64 1] 48)).alloc (.cells #[.int .i64 0, .int .i64 0] 30)
  rw [World.size_alloc] at HFB
  have HR3 := Lib.hid (((Keeps.refl (fun _ => False) _).alloc (.cells #[.int .i64 0, .int .i64 0] 30)).heap HRB (fun h => h))
  have HF3 := Lib.hid HFB
  have K3 := Lib.hid (K2.out.trans KA); have HP3 := Lib.hid (HP.out.keeps0 KA)
  clear KA HRB HFB
  go_upto_region 2 with fail
  generalize (w2.alloc (.cells #[.bool true, .slice ap [(0 : Int)].length cp, .int .i64 3, .int .i64 1] 48)).alloc (.cells #[.int .i64 0, .int .i64 0] 30) = w3 at HR3 HF3 K3 HP3 ⊢
  go_wp2_with fail
  refine (step_any _).mono ?_; rintro e w4 ⟨vi2, vg2, vo2, rfl, ht, hk⟩
  have HT4 := Lib.hid ht; have K4 := Lib.hid (K3.out.trans hk); have HR4 := Lib.hid (hk.heap HR3.out (fun h => h)); have HF4 := Lib.hid (hk.heap HF3.out (fun h => h)); have HP4 := Lib.hid (HP3.out.keeps0 hk)
  clear ht hk HR3 HF3 K3 HP3
  go_wp2_with fail
  refine (widthStep_any _ _ _ _ HT4.out).mono ?_; rintro e w5 ⟨rfl, hk⟩
  have KA := hk.alloc (.cells #[.int .i64 0, .int .i64 0] 30)
  have HF6 := Lib.hid (heap_alloc_new w5 (.cells #[.int .i64 0, .int .i64 0] 30))
  have K6 := Lib.hid (K4.out.trans KA); have HR6 := Lib.hid (KA.heap HR4.out (fun h => h)); have HF26 := Lib.hid (KA.heap HF4.out (fun h => h)); have HP6 := Lib.hid (HP4.out.keeps0 KA)
  clear hk KA HT4 K4 HR4 HF4 HP4
  simp only [fltV]
  go_upto_region 3 with fail
  generalize w5.alloc (.cells #[.int .i64 0, .int .i64 0] 30) = w6 at HF6 K6 HR6 HF26 HP6 ⊢
  generalize w5.heap.size = b5 at HF6 ⊢
  go_wp2_with fail
  refine (step_any _).mono ?_; rintro e w7 ⟨vi3, vg3, vo3, rfl, ht, hk⟩
  have KA := ((Keeps.refl (fun _ => False) w7).alloc (.cells #[.slice none 0 0] 22)).alloc (.cells #[.int .i64 0] 3)
  have KB := (Keeps.refl (fun _ => False) (w7.alloc (.cells #[.slice none 0 0] 22))).alloc (.cells #[.int .i64 0] 3)
  have HL := Lib.hid (Lists.nil1 (KB.heap (heap_alloc_new w7 (.cells #[.slice none 0 0] 22)) (fun h => h)))
  have h8 := Ints.one (x := 0) (heap_alloc_new (w7.alloc (.cells #[.slice none 0 0] 22)) (.cells #[.int .i64 0] 3))
  rw [World.size_alloc] at h8
  have HS := Lib.hid h8
  have HT8 := Lib.hid (ht.keeps0 KA); have K8 := Lib.hid (K6.out.trans (hk.trans KA)); have HR8 := Lib.hid ((hk.trans KA).heap HR6.out (fun h => h)); have HF28 := Lib.hid ((hk.trans KA).heap HF26.out (fun h => h)); have HF8 := Lib.hid ((hk.trans KA).heap HF6.out (fun h => h)); have HP8 := Lib.hid (HP6.out.keeps0 (hk.trans KA))
  clear ht hk KA KB h8 HF6 K6 HR6 HF26 HP6
  go_wp2_with fail
  refine (new_any' _ _ _ _ _ _ stepT [[]] [0] 1 HT8.out HL.out HS.out).mono ?_; rintro e w9 ⟨rfl, hk⟩
  rw [stepT_new.1, stepT_new.2]
  simp only [fltV]
  have KA := hk.alloc (.cells #[.int .i64 0, .int .i64 0] 30)
  have HF10 := Lib.hid (heap_alloc_new w9 (.cells #[.int .i64 0, .int .i64 0] 30))
  have K10 := Lib.hid (K8.out.trans KA); have HR10 := Lib.hid (KA.heap HR8.out (fun h => h)); have HF210 := Lib.hid (KA.heap HF28.out (fun h => h)); have HF510 := Lib.hid (KA.heap HF8.out (fun h => h)); have HP10 := Lib.hid (HP8.out.keeps0 KA)
  clear hk KA HT8 K8 HR8 HF28 HF8 HP8 HL HS
  go_upto_region 4 with fail
  generalize w9.alloc (.cells #[.int .i64 0, .int .i64 0] 30) = wa at HF10 K10 HR10 HF210 HF510 HP10 ⊢
  generalize w9.heap.size = b9 at HF10 ⊢
  generalize w2.heap.size = b2 at HR10 HF210 ⊢
  have s0 : wa.cell? ⟨b2, 0, none⟩ = some (.bool true) := by rw [cell_of_blk HR10.out]; rfl
  have s1 : wa.cell? ⟨b2, 1, none⟩ = some (.slice ap [(0 : Int)].length cp) := by rw [cell_of_blk HR10.out]; rfl
  have s2 : wa.cell? ⟨b2, 2, none⟩ = some (.int .i64 3) := by rw [cell_of_blk HR10.out]; rfl
  have s3 : wa.cell? ⟨b2, 3, none⟩ = some (.int .i64 1) := by rw [cell_of_blk HR10.out]; rfl
  have hl2 := lt_of_heap HR10.out
  obtain ⟨p0, p1, z0, z1, hl3⟩ := pair_cells HF210.out
  clear z0 z1
  go_wp2_with fail
  refine (isOne_any _ _ _ HP10.out).mono ?_; rintro e wb ⟨rfl, hk⟩
  have K11 := Lib.hid (K10.out.trans hk)
  have HRb := Lib.hid (hk.heap HR10.out (fun h => h)); have HF5b := Lib.hid (hk.heap HF510.out (fun h => h)); have HF7b := Lib.hid (hk.heap HF10.out (fun h => h))
  clear s0 s1 s2 s3 hl2 p0 p1 hl3 hk
  have s3 : wb.cell? ⟨b2, 3, none⟩ = some (.int .i64 1) := by rw [cell_of_blk HRb.out]; rfl
  have hl2 := lt_of_heap HRb.out
  obtain ⟨p0, p1, z0, z1, hl3⟩ := pair_cells HF5b.out
  obtain ⟨q0, q1, y0, y1, hl4⟩ := pair_cells HF7b.out
  clear z0 z1 y0 y1
  go_wp2_with fail
  go_ret
  exact ⟨rfl, K11.out⟩

end Go.Proofs.Ytdonadeodioplaa

namespace Go.Proofs.Ytdonadeodioplaa
open Go.RowKit

theorem explore_weak {w : World} {vi vg vo : Value} {t : Tsk} (h : TaskAt w vi vg vo t) :
    Calls Try.prog 14 #[.agg #[.int .i64 t.n, vi, vg, vo]] w fun e w' => ∃ a n c x y, e = .returned (.tuple #[.slice a n c, fltV x y]) ∧ Keeps (fun _ => False) w w' := by
  refine (explore_any w vi vg vo t h).mono ?_
  rintro e w' ⟨hk, ⟨c', i', hc, he', rfl⟩ | ⟨_, l', ws, v, h1, h2, h3, rfl, h4⟩⟩
  · exact ⟨_, _, _, _, _, rfl, hk⟩
  · obtain ⟨a, c, hv, _⟩ := h4.form
    subst hv
    exact ⟨_, _, _, _, _, rfl, hk⟩
theorem optimal_weak {w : World} {vi vg vo : Value} {t : Tsk} (h : TaskAt w vi vg vo t) :
    Calls Try.prog 21 #[.agg #[.int .i64 t.n, vi, vg, vo]] w fun e w' => ∃ n x y, e = .returned (.tuple #[.int .i64 n, fltV x y]) ∧ Keeps (fun _ => False) w w' := by
  refine (optimal_any w vi vg vo t h).mono ?_
  rintro e w' ⟨hk, ⟨c', i', hc, he', rfl⟩ | ⟨_, l', ws, D, h1, h2, h3, h4, rfl⟩⟩
  · exact ⟨_, _, _, rfl, hk⟩
  · exact ⟨_, _, _, rfl, hk⟩

/-- The good end of novelty.Plan. -/
theorem nplan_good {t : Tsk} {k : Int} {fnd : Bool} {lp : List Int} {c n fi : Int} (h : (nplanF t k = (0, fi) ∧ (0 : Int) ≠ 0 ∧ fnd = false ∧ lp = [] ∧ c = 0 ∧ n = 0) ∨
   (nplanF t k = (0, 0) ∧ t.Ok ∧ 0 ≤ k ∧ k ≤ 4 ∧ ∃ l o m, explored t = some l ∧ NPlanRes t k o m fnd lp c n 0 fi)) : t.Ok ∧ 0 ≤ k ∧ ∃ l o m, explored t = some l ∧ NPlanRes t k o m fnd lp c n 0 fi := by
  rcases h with ⟨_, h, _⟩ | ⟨_, h1, h2, _, h3⟩
  · exact absurd rfl h
  · exact ⟨h1, h2, h3⟩

set_option maxRecDepth 100000 in
set_option maxHeartbeats 1000000 in
theorem nwideLaw_any (w : World) (vi vg vo : Value) (t : Tsk) (k : Int) (h : TaskAt w vi vg vo t) :
    Calls Try.prog 8 #[.agg #[.int .i64 t.n, vi, vg, vo], .int .i64 k] w fun e w' => e = .returned (.bool true) ∧ Keeps (fun _ => False) w w' := by
  obtain ⟨ai, ci, h1, _⟩ := h.init.form
  obtain ⟨ag, cg, h2, _⟩ := h.goal.form
  obtain ⟨ao, co, h3, hmo⟩ := h.ops.form
  subst h1 h2 h3
  have HB := Lib.hid (Four.new w (.int .i64 t.n) (.slice ai t.init.length ci) (.slice ag t.goal.length cg) (.slice ao t.ops.length co) 25)
  have K1 := (Keeps.refl (fun _ => False) w).alloc (.cells #[.int .i64 t.n, .slice ai t.init.length ci, .slice ag t.goal.length cg, .slice ao t.ops.length co] 25)
  have HT := Lib.hid (h.keeps0 K1); have HK := Lib.hid K1
  clear h K1
  go_enter Try.func8, Try.ntmps8
  go_upto_region 1 with fail
  generalize (w.alloc (.cells #[.int .i64 t.n, .slice ai t.init.length ci, .slice ag t.goal.length cg, .slice ao t.ops.length co] 25)) = w1 at HB HT HK ⊢
  generalize w.heap.size = bt at HB ⊢
  go_wp2_with fail
  refine (noveltyExample_any _).mono ?_; rintro e w2 ⟨rfl, hk⟩
  have HB1 := Lib.hid (HB.out.keeps0 hk); have HT1 := Lib.hid (HT.out.keeps0 hk); have HK1 := Lib.hid (HK.out.trans hk)
  clear HB HT HK
  clear hk
  have hbxd := HB1.out.lt
  obtain ⟨d0, d1, d2, d3⟩ := HB1.out
  go_wp2_with fail
  refine (nplan_any _ _ _ _ t k HT1.out).mono ?_; rintro e w4 ⟨hk, fnd, vp, lp, c, n, fc, fi, rfl, hvp, hr⟩
  obtain ⟨ap, cp, hpv, _⟩ := hvp.form
  subst hpv
  have KA := (hk.alloc (.cells #[.bool fnd, .slice ap lp.length cp, .int .i64 c, .int .i64 n] 48)).alloc (.cells #[.int .i64 fc, .int .i64 fi] 30)
  have h5 := heap_alloc_new (w4.alloc (.cells #[.bool fnd, .slice ap lp.length cp, .int .i64 c, .int .i64 n] 48)) (.cells #[.int .i64 fc, .int .i64 fi] 30)
  rw [World.size_alloc] at h5
  have HB2 := Lib.hid (HB1.out.keeps0 KA); have HT2 := Lib.hid (HT1.out.keeps0 KA); have HK2 := Lib.hid (HK1.out.trans KA)
  clear HB1 HT1 HK1
  have HF := Lib.hid (h5)
  have HR := Lib.hid (((Keeps.refl (fun _ => False) _).alloc (.cells #[.int .i64 fc, .int .i64 fi] 30)).heap (heap_alloc_new w4 (.cells #[.bool fnd, .slice ap lp.length cp, .int .i64 c, .int .i64 n] 48)) (fun h => h))
  have HRR := Lib.hid hr
  clear hbxd d0 d1 d2 d3
  clear hk KA h5 hvp hr
  simp only [resV, fltV]
  go_upto_region 4 with fail
  generalize (w4.alloc (.cells #[.bool fnd, .slice ap lp.length cp, .int .i64 c, .int .i64 n] 48)).alloc (.cells #[.int .i64 fc, .int .i64 fi] 30) = w5 at HB2 HT2 HK2 HF HR ⊢
  generalize w4.heap.size = b4 at HF HR ⊢
  by_cases hfc : fc = 0
  ·
    subst hfc
    obtain ⟨hok, hk0, l, o, m, hx, hres⟩ := nplan_good HRR.out
    have OK := Lib.hid hok; have HX := Lib.hid hx; have RES := Lib.hid hres
    clear hok hx hres HRR
    have hbxd := HB2.out.lt
    obtain ⟨d0, d1, d2, d3⟩ := HB2.out
    go_wp2_with fail
    refine (explore_good HT2.out OK.out HX.out).mono ?_; rintro e y1 ⟨ws, v1, hws, rfl, hr, hk⟩
    have WS := Lib.hid hws
    obtain ⟨a1, c1, hv, _⟩ := hr.form
    rw [List.length_map] at hv
    subst hv
    clear hbxd d0 d1 d2 d3
    simp only [fltV]
    have KA := (Keeps.refl (fun _ => False) y1).alloc (.cells #[.int .i64 0, .int .i64 0] 30)
    have KB := hk.trans KA
    have HB3 := Lib.hid (HB2.out.keeps0 KB); have HT3 := Lib.hid (HT2.out.keeps0 KB); have HK3 := Lib.hid (HK2.out.trans KB); have HF1 := Lib.hid (KB.heap HF.out (fun h => h)); have HR1 := Lib.hid (KB.heap HR.out (fun h => h))
    clear HB2 HT2 HK2 HF HR
    have F1 := Lib.hid (heap_alloc_new y1 (.cells #[.int .i64 0, .int .i64 0] 30))
    have V1 := Lib.hid (hr.keeps0 KA)
    clear hk KA KB
    go_upto_region 5 with fail
    generalize y1.alloc (.cells #[.int .i64 0, .int .i64 0] 30) = z1 at HB3 HT3 HK3 HF1 HR1 F1 V1 ⊢
    generalize y1.heap.size = b1 at F1 ⊢
    clear hr hws
    have hbxd := HB3.out.lt
    obtain ⟨d0, d1, d2, d3⟩ := HB3.out
    go_wp2_with fail
    refine (optimal_good HT3.out OK.out HX.out WS.out).mono ?_; rintro e y2 ⟨D, rfl, hd, hk⟩
    have HD := Lib.hid hd
    clear hd
    clear hbxd d0 d1 d2 d3
    simp only [fltV]
    have KA := (Keeps.refl (fun _ => False) y2).alloc (.cells #[.int .i64 0, .int .i64 0] 30)
    have KB := hk.trans KA
    have HB4 := Lib.hid (HB3.out.keeps0 KB); have HT4 := Lib.hid (HT3.out.keeps0 KB); have HK4 := Lib.hid (HK3.out.trans KB); have HF2 := Lib.hid (KB.heap HF1.out (fun h => h)); have HR2 := Lib.hid (KB.heap HR1.out (fun h => h)); have F11 := Lib.hid (KB.heap F1.out (fun h => h)); have V11 := Lib.hid (V1.out.keeps0 KB)
    clear HB3 HT3 HK3 HF1 HR1 F1 V1
    have F2 := Lib.hid (heap_alloc_new y2 (.cells #[.int .i64 0, .int .i64 0] 30))
    clear hk KA KB
    go_upto_region 6 with fail
    generalize y2.alloc (.cells #[.int .i64 0, .int .i64 0] 30) = z2 at HB4 HT4 HK4 HF2 HR2 F11 V11 F2 ⊢
    generalize y2.heap.size = b2 at F2 ⊢
    obtain ⟨p0, q0, r0, s0, l0⟩ := pair_cells HF2.out
    clear r0 s0
    obtain ⟨p1, q1, r1, s1, l1⟩ := pair_cells F11.out
    clear r1 s1
    obtain ⟨p2, q2, r2, s2, l2⟩ := pair_cells F2.out
    clear r2 s2
    obtain ⟨t0, t1, t2, t3, tl⟩ := quad_cells HR2.out
    obtain ⟨hyes, hno⟩ := wide_plain OK.out HX.out WS.out HD.out hk0 RES.out
    have HNO := Lib.hid hno
    clear t1 t2 t3 hno
    have HCV := Lib.hid (V11.out.cell rfl)
    have hfew : ws.length ≤ 2000 := (costs_need OK.out HX.out WS.out.1).2.2.2.2.1
    generalize D (wd t.init) = dd at hyes HNO ⊢
    have hdd : fnd = true → decide (dd < 1000000000) = true := fun h => by simpa using hyes h
    have HDD := Lib.hid hdd
    clear hyes hdd
    go_wp2_with fail
    go_loop [11] (fun v11 => ∃ i : Nat, i ≤ ws.length ∧ v11 = .int .i64 (i : Int) ∧ ∀ x ∈ ws.take i, ((facts x).length : Int) ≤ k) (fun v11 => ws.length - (intOf v11).toNat)
    case atStart => exact ⟨0, Nat.zero_le _, rfl, fun x hx => by simp at hx⟩
    case round =>
      obtain ⟨i, hi, rfl, hall⟩ := hrel
      have HALL := Lib.hid hall
      clear hall
      by_cases hlt : i < ws.length
      · obtain ⟨x, hx⟩ : ∃ x, ws[i]? = some x := ⟨_, List.getElem?_eq_getElem hlt⟩
        have HXI := Lib.hid hx
        obtain ⟨bl, ol, rfl, hx'⟩ := HCV.out (by rw [List.length_map]; omega)
        obtain ⟨uf, hu, hiu⟩ := hx' i (facts x) (by rw [List.getElem?_map, hx]; rfl)
        obtain ⟨af, cf, hfu, hfl⟩ := hiu.form
        subst hfu
        clear hx hx' hiu
        by_cases hle : ((facts x).length : Int) ≤ k
        · have HALL2 : Hid (∀ y ∈ ws.take (i + 1), ((facts y).length : Int) ≤ k) := by
            unfold Hid
            rw [take_getS HXI.out]
            intro y hy
            rcases List.mem_append.1 hy with hy | hy
            · exact HALL.out y hy
            · rw [List.mem_singleton] at hy; subst hy; exact hle
          go_wp2_with fail
          go_round
          case rel => exact ⟨i + 1, by omega, by go_num, HALL2.out⟩
          case measure => simp only [intOf]; omega
        · cases hf : fnd with
          | false =>
            subst hf
            go_wp2_with fail
            go_ret
            exact ⟨rfl, HK4.out⟩
          | true =>
            have hd1 := HDD.out hf
            subst hf
            go_wp2_with fail
            go_ret
            exact ⟨rfl, HK4.out⟩
      · have hie : i = ws.length := by omega
        subst hie
        have hall := HALL.out
        rw [List.take_length] at hall
        have HA := Lib.hid hall
        clear hall
        cases hf : fnd with
        | false =>
          have hd1 := HNO.out hf HA.out
          subst hf
          subst hd1
          go_wp2_with fail
          go_ret
          exact ⟨rfl, HK4.out⟩
        | true =>
          have hd1 := HDD.out hf
          subst hf
          go_wp2_with fail
          go_ret
          exact ⟨rfl, HK4.out⟩
  ·
    have hfb : (fc != 0) = true := by simpa using hfc
    clear HRR hfc
    have hbxd := HB2.out.lt
    obtain ⟨d0, d1, d2, d3⟩ := HB2.out
    go_wp2_with fail
    refine (explore_weak HT2.out).mono ?_; rintro e y1 ⟨a1, n1, c1, f1, g1, rfl, hk⟩
    clear hbxd d0 d1 d2 d3
    simp only [fltV]
    have KA := (Keeps.refl (fun _ => False) y1).alloc (.cells #[.int .i64 f1, .int .i64 g1] 30)
    have KB := hk.trans KA
    have HB3 := Lib.hid (HB2.out.keeps0 KB); have HT3 := Lib.hid (HT2.out.keeps0 KB); have HK3 := Lib.hid (HK2.out.trans KB); have HF1 := Lib.hid (KB.heap HF.out (fun h => h)); have HR1 := Lib.hid (KB.heap HR.out (fun h => h))
    clear HB2 HT2 HK2 HF HR
    have F1 := Lib.hid (heap_alloc_new y1 (.cells #[.int .i64 f1, .int .i64 g1] 30))
    clear hk KA KB
    go_upto_region 5 with fail
    generalize y1.alloc (.cells #[.int .i64 f1, .int .i64 g1] 30) = z1 at HB3 HT3 HK3 HF1 HR1 F1 ⊢
    generalize y1.heap.size = b1 at F1 ⊢
    have hbxd := HB3.out.lt
    obtain ⟨d0, d1, d2, d3⟩ := HB3.out
    go_wp2_with fail
    refine (optimal_weak HT3.out).mono ?_; rintro e y2 ⟨n2, f2, g2, rfl, hk⟩
    clear hbxd d0 d1 d2 d3
    simp only [fltV]
    have KA := (Keeps.refl (fun _ => False) y2).alloc (.cells #[.int .i64 f2, .int .i64 g2] 30)
    have KB := hk.trans KA
    have HB4 := Lib.hid (HB3.out.keeps0 KB); have HT4 := Lib.hid (HT3.out.keeps0 KB); have HK4 := Lib.hid (HK3.out.trans KB); have HF2 := Lib.hid (KB.heap HF1.out (fun h => h)); have HR2 := Lib.hid (KB.heap HR1.out (fun h => h)); have F11 := Lib.hid (KB.heap F1.out (fun h => h))
    clear HB3 HT3 HK3 HF1 HR1 F1
    have F2 := Lib.hid (heap_alloc_new y2 (.cells #[.int .i64 f2, .int .i64 g2] 30))
    clear hk KA KB
    go_upto_region 6 with fail
    generalize y2.alloc (.cells #[.int .i64 f2, .int .i64 g2] 30) = z2 at HB4 HT4 HK4 HF2 HR2 F11 F2 ⊢
    generalize y2.heap.size = b2 at F2 ⊢
    obtain ⟨p0, q0, r0, s0, l0⟩ := pair_cells HF2.out
    clear r0 s0
    obtain ⟨p1, q1, r1, s1, l1⟩ := pair_cells F11.out
    clear r1 s1
    obtain ⟨p2, q2, r2, s2, l2⟩ := pair_cells F2.out
    clear r2 s2
    go_wp2_with fail
    go_ret
    exact ⟨rfl, HK4.out⟩

end Go.Proofs.Ytdonadeodioplaa

namespace Go.Proofs.Ytdonadeodioplaa
open Go.ChangeShapes Go.WideShapes Go.ChangeAt Go.RowKit Go.Deep

theorem cells_int : Try.prog.cellsOf 3 = 1 := by kernel_rfl
theorem cells_operator : Try.prog.cellsOf 39 = 4 := by kernel_rfl
theorem cells_task : Try.prog.cellsOf 25 = 4 := by kernel_rfl
theorem cells_ints : Try.prog.cellsOf 22 = 1 := by kernel_rfl

theorem ints_of_trod {H : Type} {enc : TypeId × Value → H} {W : World} {v : Value} {fuel : Nat} {x : DataW H × List MemPlace}
    (hf : DataW.trod enc Try.prog W 0 (fun _ => true) true fuel 22 [v] = some x) : ∃ l, Ints W v l := by
  rcases open_ints Try.underlying22 Try.underlying3 cells_int hf with ⟨hcs, hx⟩ | ⟨a, len, cap, zs, hcs, _, hl, hm, hz, hx, hcell, hwz⟩
  · simp at hcs
    subst hcs
    exact ⟨[], none, 0, rfl, by simp, fun h => by simp at h⟩
  · simp at hcs
    subst hcs
    simp only [if_true] at hz
    have hlt : (zs.take len).length = len := by simp; omega
    refine ⟨zs.take len, some a, cap, by rw [hlt], by rw [hlt]; omega, fun h => ?_⟩
    rw [hlt] at h
    obtain ⟨b, off, spot⟩ := a
    have hspot : spot = none := by simpa [Addr.add] using World.cell?_spot (hcell 0 (by omega))
    subst hspot
    refine ⟨b, off, rfl, fun j x hj => ?_⟩
    rw [List.getElem?_map, List.getElem?_take] at hj
    split at hj
    · have := hcell j (by omega)
      rw [add_plain] at this
      rw [List.getD_eq_getElem?_getD] at this
      obtain ⟨y, hy⟩ : ∃ y, zs[j]? = some y := ⟨_, List.getElem?_eq_getElem (by omega)⟩
      rw [hy] at this hj
      simp at hj this
      subst hj
      exact this
    · simp at hj

theorem operator_struct : ∃ f0 f1 f2 f3 : Field, Try.prog.underlying 39 = some (.struct #[f0, f1, f2, f3]) ∧ (f0.type = 22 ∧ f1.type = 22 ∧ f2.type = 22 ∧ f3.type = 3) ∧ f0.offset = 0 ∧ f1.offset = 1 ∧ f2.offset = 2 ∧ f3.offset = 3 :=
  ⟨_, _, _, _, Try.underlying39, ⟨rfl, rfl, rfl, rfl⟩, rfl, rfl, rfl, rfl⟩

set_option maxRecDepth 100000 in
theorem ops_of_trod {H : Type} {enc : TypeId × Value → H} {W : World} {v : Value} {fuel : Nat} {x : DataW H × List MemPlace}
    (hf : DataW.trod enc Try.prog W 0 (fun _ => true) true fuel 23 [v] = some x) : ∃ ops, OpsAt W v ops := by
  rcases open_slice Try.underlying23 hf with ⟨hcs, hx⟩ | ⟨a, len, cap, m, n, D, Pl, hcs, hb, hl, hm, hmm, hx, each⟩
  · simp at hcs
    subst hcs
    exact ⟨[], none, 0, rfl, by simp, fun h => by simp at h⟩
  · simp at hcs
    subst hcs
    simp only [if_true] at hmm
    obtain ⟨f0, f1, f2, f3, hs, ⟨t0, t1, t2, t3⟩, s0, s1, s2, s3⟩ := operator_struct
    have all : ∀ i, i < len → ∃ (o : Opr) (va vb vc : Value), W.cell? (a.add (i * 4)) = some va ∧ W.cell? (a.add (i * 4 + 1)) = some vb ∧ W.cell? (a.add (i * 4 + 2)) = some vc ∧ W.cell? (a.add (i * 4 + 3)) = some (.int .i64 o.cost) ∧ Ints W va o.pre ∧ Ints W vb o.add ∧ Ints W vc o.del := by
      intro i hi
      obtain ⟨cs', h1, h2⟩ := each i (by omega)
      rw [cells_operator] at h1
      obtain ⟨_, hlen, hcell⟩ := World.cells?_some h1
      obtain ⟨xs, k, hk, hxy, _, hxl, hff⟩ := DataW.trod_struct hs h2
      match xs, hxl, cs', hlen with
      | [y0, y1, y2, y3], _, [v0, v1, v2, v3], _ =>
        have g0 := hff 0 f0 rfl
        have g1 := hff 1 f1 rfl
        have g2 := hff 2 f2 rfl
        have g3 := hff 3 f3 rfl
        simp [t0, t1, t2, t3, s0, s1, s2, s3, cells_int, cells_ints] at g0 g1 g2 g3
        obtain ⟨l0, e0⟩ := ints_of_trod g0
        obtain ⟨l1, e1⟩ := ints_of_trod g1
        obtain ⟨l2, e2⟩ := ints_of_trod g2
        obtain ⟨x3, e3, _⟩ := DataW.trod_int Try.underlying3 g3
        simp at e3
        subst e3
        have c0 := hcell 0 (by omega)
        have c1 := hcell 1 (by omega)
        have c2 := hcell 2 (by omega)
        have c3 := hcell 3 (by omega)
        rw [add_add] at c0 c1 c2 c3
        exact ⟨⟨l0, l1, l2, x3⟩, v0, v1, v2, by simpa using c0, by simpa using c1, by simpa using c2, by simpa using c3, e0, e1, e2⟩
    have hops : ∀ n, n ≤ len → ∃ ops : List Opr, ops.length = n ∧ ∀ i o, ops[i]? = some o → ∃ va vb vc : Value, W.cell? (a.add (i * 4)) = some va ∧ W.cell? (a.add (i * 4 + 1)) = some vb ∧ W.cell? (a.add (i * 4 + 2)) = some vc ∧ W.cell? (a.add (i * 4 + 3)) = some (.int .i64 o.cost) ∧ Ints W va o.pre ∧ Ints W vb o.add ∧ Ints W vc o.del := by
      intro n
      induction n with
      | zero => intro _; exact ⟨[], rfl, by simp⟩
      | succ n ih =>
        intro hn
        obtain ⟨ops, h1, h2⟩ := ih (by omega)
        obtain ⟨o, ho⟩ := all n (by omega)
        refine ⟨ops ++ [o], by simp [h1], fun i o' hi => ?_⟩
        by_cases hin : i < ops.length
        · rw [List.getElem?_append_left hin] at hi
          exact h2 i o' hi
        · rw [List.getElem?_append_right (by omega)] at hi
          have hz : i - ops.length = 0 := by
            have := (List.getElem?_eq_some_iff.1 hi).1; simp at this; omega
          rw [hz] at hi
          simp at hi
          subst hi
          have : i = n := by omega
          subst this
          exact ho
    obtain ⟨ops, hlen, hcells⟩ := hops len (Nat.le_refl _)
    refine ⟨ops, some a, cap, by rw [hlen], by rw [hlen]; omega, fun h => ?_⟩
    obtain ⟨o, va, vb, vc, ho, _⟩ := all 0 (by omega)
    obtain ⟨b, off, spot⟩ := a
    have hspot : spot = none := by simpa [Addr.add] using World.cell?_spot ho
    subst hspot
    refine ⟨b, off, rfl, fun i o' hi => ?_⟩
    obtain ⟨va, vb, vc, g0, g1, g2, g3, g4⟩ := hcells i o' hi
    rw [add_plain] at g0 g1 g2 g3
    exact ⟨va, vb, vc, g0, g1, g2, g3, g4⟩

set_option maxRecDepth 100000 in
theorem task_struct : ∃ f0 f1 f2 f3 : Field, Try.prog.underlying 25 = some (.struct #[f0, f1, f2, f3]) ∧ (f0.type = 3 ∧ f1.type = 22 ∧ f2.type = 22 ∧ f3.type = 23) ∧ oneCellFields Try.prog #[f0, f1, f2, f3] = true :=
  ⟨_, _, _, _, Try.underlying25, ⟨rfl, rfl, rfl, rfl⟩, by kernel_rfl⟩

set_option maxRecDepth 100000 in
theorem opened_task {H : Type} {enc : TypeId × Value → H} {W : World} {v : Value} {d0 : DataW H} {p : List MemPlace} {r : Go.Reach} {b0 : Nat}
    (h0 : DataW.Trod enc Try.prog W 0 (fun _ => true) true 25 v d0 p) (hv : Value.okWide Try.prog W r b0 25 v) : ∃ (t : Tsk) (vi vg vo : Value), v = .agg #[.int .i64 t.n, vi, vg, vo] ∧ TaskAt W vi vg vo t := by
  obtain ⟨f0, f1, f2, f3, hs, ⟨t0, t1, t2, t3⟩, hone⟩ := task_struct
  obtain ⟨v0, v1, v2, v3, y0, y1, y2, y3, n, rfl, _, _, h1, h2, h3, h4⟩ := Joins.open_agg4 hs hone cells_task hv h0
  rw [t0] at h1; rw [t1] at h2; rw [t2] at h3; rw [t3] at h4
  obtain ⟨x0, e0, _⟩ := DataW.trod_int Try.underlying3 h1
  simp at e0
  subst e0
  obtain ⟨l1, k1⟩ := ints_of_trod h2
  obtain ⟨l2, k2⟩ := ints_of_trod h3
  obtain ⟨ops, k3⟩ := ops_of_trod h4
  exact ⟨⟨x0, l1, l2, ops⟩, v1, v2, v3, rfl, k1, k2, k3⟩

theorem opened_ints {H : Type} {enc : TypeId × Value → H} {W : World} {v : Value} {d0 : DataW H} {p : List MemPlace}
    (h0 : DataW.Trod enc Try.prog W 0 (fun _ => true) true 22 v d0 p) (hv : ∃ a n c, v = .slice a n c) : ∃ l, Ints W v l := by
  obtain ⟨a0, len, cap, rfl⟩ := hv
  obtain ⟨fuel, hf⟩ := h0
  exact ints_of_trod (x := (d0, p)) (by simpa [Value.cells] using hf)

theorem godebug_own : ownKnob Try.prog.godebug = none := by kernel_rfl
theorem laidOut : laidOutB Try.prog = true := by kernel_rfl

end Go.Proofs.Ytdonadeodioplaa

namespace Go.Proofs.Ytdonadeodioplaa
open Go.RowKit Go.Sort Go.Proofs

/-! ### Contains -/
def Behind (s : List Int) (x : Int) (i : Nat) : Prop := i ≤ s.length ∧ ∀ j y, j < i → s[j]? = some y → y < x
theorem behind_end {s : List Int} {x : Int} {i : Nat} (h : Behind s x i) (hi : s.length ≤ i) : x ∉ s := fun hm => by
  obtain ⟨j, hj⟩ := List.mem_iff_getElem?.1 hm
  have := (List.getElem?_eq_some_iff.1 hj).1
  have := h.2 j x (by omega) hj
  omega
theorem behind_not {s : List Int} (hs : s.Pairwise (· < ·)) {x y : Int} {i : Nat} (h : Behind s x i) (hy : s[i]? = some y) (hxy : x < y) : x ∉ s := fun hm => by
  obtain ⟨j, hj⟩ := List.mem_iff_getElem?.1 hm
  by_cases hji : j < i
  · have := h.2 j x hji hj; omega
  · obtain ⟨hjl, ej⟩ := List.getElem?_eq_some_iff.1 hj
    obtain ⟨hil, ei⟩ := List.getElem?_eq_some_iff.1 hy
    rcases Nat.lt_or_ge i j with h2 | h2
    · have := List.pairwise_iff_getElem.1 hs i j hil hjl h2; omega
    · have : i = j := by omega
      subst this; omega
theorem subB_false {a b : List Int} {x : Int} (hx : x ∈ a) (hn : x ∉ b) : subB a b = false := by
  unfold subB; rw [List.all_eq_false]; exact ⟨x, hx, by simp [hn]⟩

set_option maxHeartbeats 1000000 in
theorem contains_any (w : World) (vs vp : Value) (s part : List Int) (hs : Ints w vs s) (hp : Ints w vp part) (ss : s.Pairwise (· < ·)) (sp : part.Pairwise (· < ·)) :
    Calls Try.prog 105 #[vs, vp] w fun e w' => e = .returned (.bool (subB part s)) ∧ w = w' := by
  obtain ⟨ao, ca, h1, ma⟩ := hs.form
  obtain ⟨po, cp, h2, mp⟩ := hp.form
  have CS := Lib.hid (hs.cell h1); have CP := Lib.hid (hp.cell h2); have SS := Lib.hid ss; have SP := Lib.hid sp
  subst h1 h2
  clear hs hp ss sp
  go_enter Try.func105, Try.ntmps105
  go_wp2_with fail
  go_loop [5, 10] (fun v5 v10 => ∃ k i : Nat, k ≤ part.length ∧ v10 = .int .i64 (k : Int) ∧ v5 = .int .i64 (i : Int) ∧ i ≤ s.length ∧ subB (part.take k) s = true ∧ ∀ x, part[k]? = some x → Behind s x i) (fun _ v10 => part.length - (intOf v10).toNat)
  case atStart => exact ⟨0, 0, Nat.zero_le _, rfl, rfl, Nat.zero_le _, rfl, fun x _ => ⟨Nat.zero_le _, fun j _ hj => by omega⟩⟩
  case round =>
    obtain ⟨k, i, hk, rfl, rfl, hi, ht, hb⟩ := hrel
    have HT := Lib.hid ht; have HB := Lib.hid hb
    clear ht hb
    by_cases hlt : k < part.length
    · obtain ⟨bp, op, rfl, hc⟩ := CP.out (by omega)
      obtain ⟨x, hx⟩ : ∃ x, part[k]? = some x := ⟨_, List.getElem?_eq_getElem hlt⟩
      have hcx := hc k _ hx
      have HX := Lib.hid hx
      have HB0 := Lib.hid (HB.out x hx)
      clear hc hx HB
      go_wp2_with fail
      go_loop [5] (fun v5 => ∃ i : Nat, v5 = .int .i64 (i : Int) ∧ Behind s x i) (fun v5 => s.length - (intOf v5).toNat)
      case atStart => exact ⟨i, rfl, HB0.out⟩
      case round =>
        obtain ⟨i, rfl, hb⟩ := hrel
        have hil := hb.1
        have HB := Lib.hid hb
        clear hb
        by_cases hin : i < s.length
        · obtain ⟨bs, os, rfl, hc⟩ := CS.out (by omega)
          obtain ⟨y, hy⟩ : ∃ y, s[i]? = some y := ⟨_, List.getElem?_eq_getElem hin⟩
          have hcy := hc i _ hy
          have HY := Lib.hid hy
          clear hc hy
          by_cases hyx : y < x
          · have HB1 : Hid (Behind s x (i + 1)) := by
              unfold Hid
              refine ⟨by omega, fun j z hj hz => ?_⟩
              rcases Nat.lt_or_ge j i with h | h
              · exact HB.out.2 j z h hz
              · have : j = i := by omega
                subst this
                rw [HY.out] at hz; cases hz; exact hyx
            go_wp2_with fail
            go_round
            case rel => exact ⟨i + 1, by go_num, HB1.out⟩
            case measure => simp [intOf]; omega
          · by_cases hne : y = x
            · subst hne
              have HN : Hid (subB (part.take (k + 1)) s = true) := by
                unfold Hid
                rw [take_getS HX.out]
                have := HT.out
                unfold subB at this ⊢
                rw [List.all_append, this]
                simp [List.mem_of_getElem? HY.out]
              have HB2 : Hid (∀ z, part[k + 1]? = some z → Behind s z i) := by
                unfold Hid
                intro z hz
                obtain ⟨l1, e1⟩ := List.getElem?_eq_some_iff.1 HX.out
                obtain ⟨l2, e2⟩ := List.getElem?_eq_some_iff.1 hz
                have := List.pairwise_iff_getElem.1 SP.out k (k + 1) l1 l2 (by omega)
                refine ⟨HB.out.1, fun j u hj hu => ?_⟩
                have := HB.out.2 j u hj hu
                omega
              have hd1 : decide (y < y) = false := by simp
              have hd2 : (y != y) = false := by simp
              clear hyx
              go_wp2_with fail
              go_round
              case rel => exact ⟨k + 1, i, by omega, by go_num, rfl, hil, HN.out, HB2.out⟩
              case measure => simp [intOf]; omega
            · have hf : Hid (subB part s = false) := by
                unfold Hid
                exact subB_false (List.mem_of_getElem? HX.out) (behind_not SS.out HB.out HY.out (by omega))
              have hd1 : decide (y < x) = false := by simpa using hyx
              have hd2 : (y != x) = true := by simpa using hne
              clear hyx hne
              go_wp2_with fail
              go_ret
              exact ⟨congrArg (fun b => Ending.returned (Value.bool b)) hf.out.symm, rfl⟩
        · have hf : Hid (subB part s = false) := by
            unfold Hid
            exact subB_false (List.mem_of_getElem? HX.out) (behind_end HB.out (by omega))
          have hie : i = s.length := by omega
          subst hie
          clear hin hil
          go_wp2_with fail
          go_ret
          exact ⟨congrArg (fun b => Ending.returned (Value.bool b)) hf.out.symm, rfl⟩
    · have hf : Hid (subB part s = true) := by
        unfold Hid
        have := HT.out
        rwa [List.take_of_length_le (by omega)] at this
      go_wp2_with fail
      go_ret
      exact ⟨congrArg (fun b => Ending.returned (Value.bool b)) hf.out.symm, rfl⟩

/-! ### the library's Sort and Compact over a row of the call's own -/
theorem sortI_any (w : World) (base : Nat) (v : Value) (l : List Int) (hown : w.ownsRow base 3 1 v l.length (l.map (Value.int .i64))) (hlen : l.length < 4611686018427387904) :
    Calls Try.prog 134 #[v] w fun e w' => e = .returned (.tuple #[]) ∧ w'.ownsRow base 3 1 v l.length ((l.mergeSort fun x y => decide (x ≤ y)).map (Value.int .i64)) ∧ Keeps (fun b => v.ownBlock = some b) w w' := by
  rcases hown.2 with ⟨rfl, h0⟩ | ⟨g, cap, cur, rfl, hb, hg, hn, hm, hs, ht⟩
  · have hz : l = [] := List.length_eq_zero_iff.1 h0
    subst hz
    refine (Try.slices_Sort_int_none none 0 w).mono ?_
    rintro e w' ⟨rfl, rfl⟩
    exact ⟨rfl, by simpa using World.ownsRow_nil _ _ _ _, Keeps.refl _ _⟩
  · have ht' : cur.toList.take l.length = l.map (Value.int .i64) := by simpa using ht
    refine (Try.slices_Sort_int g 0 cap l w (holds_of_blockI hg ht') (lt_of_heap hg) hlen).mono ?_
    rintro e w' ⟨rfl, n, os, rfl⟩
    exact ⟨rfl, ownsRow_sortedI (by simp) hb hg hn hm hs, (steady_keeps (grownBy_sortedI _)).mono (fun i _ h => by cases h; rfl)⟩

theorem keeps_putRow {w : World} {g q : Nat} (d : Array Int) : Keeps (fun b => b = g) w (putRow (Value.int .i64) (Sort.ahead w q) g 0 d) := by
  refine ⟨rfl, rfl, rfl, by simp [putRow, mapBlock, Sort.ahead], fun k _ hne => ?_⟩
  have : g ≠ k := fun e => hne e.symm
  simp [putRow, mapBlock, Sort.ahead, Array.getElem?_modify, this]
theorem heap_putRow {w : World} {g q : Nat} {cur : Array Value} {e : TypeId} {fr : Nat × Nat} (d : Array Int) (hb : w.heap[g]? = some (.cells cur e fr)) :
    (putRow (Value.int .i64) (Sort.ahead w q) g 0 d).heap[g]? = some (.cells (putCells (Value.int .i64) 0 d cur) e fr) := by
  simp [putRow, mapBlock, Sort.ahead, Array.getElem?_modify, hb, onCells]

theorem compactI_any (w : World) (base : Nat) (v : Value) (l : List Int) (hown : w.ownsRow base 3 1 v l.length (l.map (Value.int .i64))) (hlen : l.length < 4611686018427387904) :
    Calls Try.prog 135 #[v] w fun e w' => ∃ v', e = .returned v' ∧ w'.ownsRow base 3 1 v' (Lib.compact l).length ((Lib.compact l).map (Value.int .i64)) ∧ v'.ownBlock = v.ownBlock ∧ Keeps (fun b => v.ownBlock = some b) w w' := by
  rcases hown.2 with ⟨rfl, h0⟩ | ⟨g, cap, cur, rfl, hb, hg, hn, hm, hs, ht⟩
  · have hz : l = [] := List.length_eq_zero_iff.1 h0
    subst hz
    refine (Try.slices_Compact_int_empty none 0 w).mono ?_
    rintro e w' ⟨rfl, rfl⟩
    exact ⟨_, rfl, by simpa [Lib.compact, Lib.compactUpTo] using World.ownsRow_nil _ _ _ _, rfl, Keeps.refl _ _⟩
  · have ht' : cur.toList.take l.length = l.map (Value.int .i64) := by simpa using ht
    have hcl := Lib.compact_length_le l
    refine (Try.slices_Compact_int g 0 cap l w (holds_of_blockI hg ht') (by omega) hn).mono ?_
    rintro e w' ⟨rfl, q, rfl⟩
    have hsz : cur.size = cap := by simpa using hs
    have htk := take_putCellsI cur (Lib.compact l ++ List.replicate (l.length - (Lib.compact l).length) 0) (by simp; omega)
    refine ⟨_, rfl, ⟨by simp, .inr ⟨g, cap, _, rfl, hb, heap_putRow _ hg, by omega, hm, by simp [putCells, hs], ?_⟩⟩, rfl, (keeps_putRow _).mono (fun i _ h => by cases h; rfl)⟩
    have := congrArg (List.take (Lib.compact l).length) htk
    rw [List.take_take, List.map_append, List.take_left' (by simp)] at this
    rw [Nat.mul_one]
    rw [Nat.min_eq_left (by simp)] at this
    exact this

/-! ### an append of whatever slice -/
section
variable {P : Program} {w : World}
theorem run_append_zero (base : Nat) (t ty e : TypeId) (i : TypeInfo) (size : Nat) (ht : P.underlying t = some (.slice e)) (hi : P.info? e = some i)
    (v : Value) (n : Nat) (xs : List Value) (hown : w.ownsRow base e size v n xs) (ao : Option Addr) (c : Nat) :
    (Builtin.append_ #[t, t] ty #[v, .slice ao 0 c]).run P w = .ok v w := by
  rcases hown.2 with ⟨rfl, rfl⟩ | ⟨g, cap, cur, rfl, _, _, hnc, _⟩
  · cases ao <;> simp [Builtin.append_, run_underlying ht, sizeOf, typeInfo, hi, Builtin.lenOf, Builtin.firstCells, loadCells, loadCellsFrom]
  · cases ao <;> simp [Builtin.append_, run_underlying ht, sizeOf, typeInfo, hi, Builtin.lenOf, Builtin.firstCells, hnc, storeCells, loadCells, loadCellsFrom]
theorem wpList_append_zero {ops : Array Oper} {rest : List Oper} {o : Oper} {a : Act} {Q : Exit → Act → World → Prop} (hgd : o.guard = none) (s x : Operand) (t : TypeId)
    (ho : o.op = .call { callee := .builtin .append, args := #[s, x], argTypes := #[t, t] })
    (base : Nat) (e : TypeId) (i : TypeInfo) (size : Nat) (ht : P.underlying t = some (.slice e)) (hi : P.info? e = some i)
    (v : Value) (n : Nat) (xs : List Value) (hs : a.eval s = v) (hown : w.ownsRow base e size v n xs) (ao : Option Addr) (c : Nat) (hx : a.eval x = .slice ao 0 c)
    (h : wpList P ops Q rest (a.put o.dst v) w) : wpList P ops Q (o :: rest) a w := by
  refine wpList_plain hgd fun K hK => ?_
  have hrun := run_append_zero (P := P) (w := w) base t o.type e i size ht hi v n xs hown ao c
  unfold Oper.wp
  simp [execOp, ho, resolve, invoke, builtin, hs, hx, hrun, Result.andThen]
  exact hK _ _ h
theorem grownBy_refl (w : World) (row : Option Nat) : w.grownBy w row := ⟨rfl, rfl, rfl, Nat.le_refl _, fun _ _ _ => rfl⟩
/-- append(out, x...) to a row of the call's own, x whatever slice. -/
theorem wpList_append_src {ops : Array Oper} {rest : List Oper} {o : Oper} {a : Act} {Q : Exit → Act → World → Prop} (hgd : o.guard = none) (s x : Operand) (t : TypeId)
    (ho : o.op = .call { callee := .builtin .append, args := #[s, x], argTypes := #[t, t] })
    (base : Nat) (e : TypeId) (i : TypeInfo) (z : Value) (bytes : Nat) (ht : P.underlying t = some (.slice e)) (hi : P.info? e = some i) (hz : i.zero = some z)
    (hsize : i.size = 1) (hby : i.bytes = bytes) (hzs : z.cells.size = 1)
    (v : Value) (n : Nat) (xs : List Value) (hs : a.eval s = v) (hown : w.ownsRow base e 1 v n xs)
    (vx : Value) (m : Nat) (news : List Value) (hx : a.eval x = vx) (hsl : Sl w vx m news) (hl : news.length = m) (h1 : ∀ u ∈ news, u.oneCell' = true)
    (h63 : n + m ≤ maxLen) (hbytes : (n + m) * bytes ≤ 140737488355328) (hbase : base ≤ w.heap.size)
    (h : ∀ v' w', w'.ownsRow base e 1 v' (n + m) (xs ++ news) → w.grownBy w' v.ownBlock → (∀ g, v'.ownBlock = some g → v.ownBlock = some g ∨ w.heap.size ≤ g) → w.drawn ≤ w'.drawn → wpList P ops Q rest (a.put o.dst v') w') : wpList P ops Q (o :: rest) a w := by
  obtain ⟨ao, c, rfl, hm, hc⟩ := hsl
  rcases Nat.eq_zero_or_pos m with h0 | h0
  · subst h0
    have : news = [] := List.length_eq_zero_iff.1 hl
    subst this
    refine wpList_append_zero hgd s x t ho base e i 1 ht hi v n xs hs hown ao c hx (h v w (by simpa using hown) (grownBy_refl w _) (fun g hg => .inl hg) (Nat.le_refl _))
  · obtain ⟨b, off, rfl, hcell⟩ := hc h0
    refine wpList_append_d hgd s x t ho base e i z 1 bytes ht hi hz hsize hby hzs (by omega) v n xs hs hown ⟨b, off, none⟩ m c news hx (by omega) (fun j u hj => by
      have h := hcell j u hj
      by_cases hj0 : j = 0
      · subst hj0; simpa [Addr.add] using h
      · simpa [Addr.add, hj0] using h) h1 h0 h63 hbytes hbase w.heap.size rfl fun g cap w' h2 h3 h4 _ h6 => h _ w' h2 h3 (fun k hk => ?_) h6
    rcases h4 with h4 | h4
    · left; rw [h4]; exact hk
    · right; cases (show some g = some k from hk); omega
end

/-! ### Update -/
def sansL (s del : List Int) : List Int := s.filter fun x => !decide (x ∈ del)
theorem sansL_step {s del : List Int} {k : Nat} {x : Int} (hx : s[k]? = some x) : sansL (s.take (k + 1)) del = if x ∈ del then sansL (s.take k) del else sansL (s.take k) del ++ [x] := by
  unfold sansL
  rw [take_getS hx, List.filter_append]
  by_cases h : x ∈ del <;> simp [h]
theorem sansL_le (s del : List Int) (k : Nat) : (sansL (s.take k) del).length ≤ k := by
  unfold sansL
  have := List.length_filter_le (fun x => !decide (x ∈ del)) (s.take k)
  have := List.length_take_le k s
  omega

set_option maxRecDepth 100000 in
set_option maxHeartbeats 1000000 in
theorem update_any (w : World) (vs va vd : Value) (s add del : List Int) (hs : Ints w vs s) (ha : Ints w va add) (hd : Ints w vd del) (sd : del.Pairwise (· < ·)) (ls : s.length ≤ 1000) (la : add.length ≤ 1000) (ld : del.length ≤ 1000) :
    Calls Try.prog 116 #[vs, va, vd] w fun e w' => ∃ v, e = .returned v ∧ w'.ownsRow w.heap.size 3 1 v (updL s add del).length ((updL s add del).map (Value.int .i64)) ∧ Keeps (fun _ => False) w w' := by
  obtain ⟨i0, hi0, hz0, hz1, hz2⟩ := info_parts Try.info3
  obtain ⟨ao, ca, h1, _⟩ := hs.form
  obtain ⟨bo, cb, h2, _⟩ := ha.form
  obtain ⟨co, cc, h3, _⟩ := hd.form
  have CS := Lib.hid (hs.cell h1); have HA := Lib.hid ha; have HD := Lib.hid hd; have SD := Lib.hid sd
  subst h1 h2 h3
  clear hs ha hd sd
  go_enter Try.func116, Try.ntmps116
  go_wp2_with fail
  go_loopw [7, 14] (fun v7 v14 wr => ∃ k : Nat, k ≤ s.length ∧ v14 = .int .i64 (k : Int) ∧ wr.ownsRow w.heap.size 3 1 v7 (sansL (s.take k) del).length ((sansL (s.take k) del).map (Value.int .i64)) ∧ Keeps (fun _ => False) w wr) (fun _ v14 _ => s.length - (intOf v14).toNat)
  case atStart => exact ⟨0, Nat.zero_le _, rfl, World.ownsRow_nil _ _ _ _, Keeps.refl _ _⟩
  case round =>
    obtain ⟨k, hk, rfl, hown, hkw⟩ := hrel
    have HO := Lib.hid hown; have KW := Lib.hid hkw
    have hle := sansL_le s del k
    obtain ⟨av, cv, hv⟩ := ownsRow_form1 hown
    subst hv
    clear hown hkw
    by_cases hlt : k < s.length
    · obtain ⟨bs, os, rfl, hc⟩ := CS.out (by omega)
      obtain ⟨x, hx⟩ : ∃ x, s[k]? = some x := ⟨_, List.getElem?_eq_getElem hlt⟩
      have hcx := KW.out.cell (hc k _ hx) (fun h => h)
      have HST := Lib.hid (sansL_step (del := del) hx)
      clear hc hx
      go_wp2_with fail
      refine (bsearch_any _ _ _ x (HD.out.keeps0 KW.out) SD.out (by omega)).mono ?_; rintro e w2 ⟨j, rfl, q, rfl⟩
      have KQ := Lib.hid (KW.out.drewN q)
      have HOQ := Lib.hid (((Keeps.refl (fun _ => False) wr).drewN q).ownsRow HO.out (fun _ _ h => h))
      clear hcx HO KW
      generalize wr.drewN q = wq at KQ HOQ ⊢
      have hsz := KQ.out.size
      by_cases hm : x ∈ del
      · have HE := Lib.hid (show sansL (s.take (k + 1)) del = sansL (s.take k) del by rw [HST.out, if_pos hm])
        rw [decide_eq_true hm]
        clear hm
        go_wp2_with fail
        go_roundw
        case rel => exact ⟨k + 1, by omega, by go_num, by rw [HE.out]; exact HOQ.out, KQ.out⟩
        case measure => simp only [intOf]; omega
      · have HE := Lib.hid (show sansL (s.take (k + 1)) del = sansL (s.take k) del ++ [x] by rw [HST.out, if_neg hm])
        rw [decide_eq_false hm]
        clear hm
        go_wp2_with (at_builtin; refine wpList_append_d rfl _ _ _ rfl w.heap.size 3 i0 _ 1 8 Try.underlying22 hi0 hz0 hz1 hz2 rfl (by omega) _ (sansL (s.take k) del).length ((sansL (s.take k) del).map (Value.int .i64)) (by rfl) (World.ownsRow.alloc HOQ.out (.cells #[.int .i64 x] 3)) ⟨wq.heap.size, 0, none⟩ 1 1 [.int .i64 x] (by rfl) (by rfl) (World.news_of_block (cs := #[.int .i64 x]) (t := 3) (fr := (0, 0)) (heap_alloc_new _ _)) (by simp [Value.oneCell']) (by omega) (by unfold maxLen; omega) (by omega) (by simp; omega) (wq.heap.size + 1) (by simp) ?_)
        intro gg cap2 w4 hown hgrow hat hlt4 hd4
        have HN := Lib.hid (show w4.ownsRow w.heap.size 3 1 (.slice (some ⟨gg, 0, none⟩) ((sansL (s.take k) del).length + 1) cap2) (sansL (s.take (k + 1)) del).length ((sansL (s.take (k + 1)) del).map (Value.int .i64)) by
          rw [HE.out, List.map_append, List.length_append]; exact hown)
        have HKN := Lib.hid (own_grown HOQ.out KQ.out ((Keeps.refl _ wq).alloc (.cells #[.int .i64 x] 3)) hgrow)
        clear hown hgrow hat hd4
        go_wp2_with fail
        go_roundw
        case rel => exact ⟨k + 1, by omega, by go_num, HN.out, HKN.out⟩
        case measure => simp only [intOf]; omega
    · have hke : k = s.length := by omega
      subst hke
      have HO2 := Lib.hid (show wr.ownsRow w.heap.size 3 1 (.slice av (sansL (s.take s.length) del).length cv) (sansL s del).length ((sansL s del).map (Value.int .i64)) by
        have h := HO.out
        have e : sansL (s.take s.length) del = sansL s del := by rw [List.take_length]
        generalize (Value.slice av (sansL (s.take s.length) del).length cv) = v at h ⊢
        rw [e] at h; exact h)
      have hle2 : (sansL s del).length ≤ s.length := by have := sansL_le s del s.length; rwa [List.take_length] at this
      have hsz := KW.out.size
      have HAw := Lib.hid (HA.out.keeps0 KW.out)
      clear HO hle
      generalize (sansL (s.take s.length) del).length = nn at HO2 ⊢
      go_wp2_with (at_builtin; refine wpList_append_src rfl _ _ _ rfl w.heap.size 3 i0 _ 8 Try.underlying22 hi0 hz0 hz1 hz2 rfl _ (sansL s del).length ((sansL s del).map (Value.int .i64)) (by rfl) HO2.out _ add.length (add.map (Value.int .i64)) (by rfl) HAw.out (by simp) (by simp [Value.oneCell']) (by unfold maxLen; omega) (by omega) (by omega) ?_)
      intro v4 w4 hown hgrow hblk hd4
      have HN := Lib.hid (show w4.ownsRow w.heap.size 3 1 v4 (preL s add del).length ((preL s add del).map (Value.int .i64)) by
        unfold preL; rw [List.map_append, List.length_append]; exact hown)
      have HK4 := Lib.hid (own_grown HO2.out KW.out (Keeps.refl _ wr) hgrow)
      have hpl := preL_len s add del
      clear hown hgrow hblk hd4 HO2 KW
      go_wp2_with fail
      refine (sortI_any _ _ _ (preL s add del) HN.out (by omega)).mono ?_; rintro e w5 ⟨rfl, hown, hk⟩
      have HN5 := Lib.hid (show w5.ownsRow w.heap.size 3 1 v4 ((preL s add del).mergeSort fun x y => decide (x ≤ y)).length (((preL s add del).mergeSort fun x y => decide (x ≤ y)).map (Value.int .i64)) by rw [List.length_mergeSort]; exact hown)
      have HK5 := Lib.hid (HK4.out.trans' hk (fun b hb => .inr (World.ownsRow.lt HN.out b hb).1))
      clear hown hk HN HK4
      go_wp2_with fail
      refine (compactI_any _ _ _ _ HN5.out (by rw [List.length_mergeSort]; omega)).mono ?_; rintro e w6 ⟨v6, rfl, hown, _, hk⟩
      have HN6 := Lib.hid hown
      have HK6 := Lib.hid (HK5.out.trans' hk (fun b hb => .inr (World.ownsRow.lt HN5.out b hb).1))
      clear hown hk HN5 HK5
      go_wp2_with fail
      go_ret
      exact ⟨_, rfl, HN6.out, HK6.out⟩

/-! ### Can, Next -/
set_option maxRecDepth 100000 in
theorem can_any (w : World) (vi vg vo vs : Value) (t : Tsk) (s : List Int) (k : Nat) (o : Opr) (h : TaskAt w vi vg vo t) (hs : Ints w vs s) (hk : t.ops[k]? = some o) (ss : s.Pairwise (· < ·)) (sp : o.pre.Pairwise (· < ·)) :
    Calls Try.prog 103 #[.agg #[.int .i64 t.n, vi, vg, vo], vs, .int .i64 (k : Int)] w fun e w' => e = .returned (.bool (appL o s)) ∧ Keeps (fun _ => False) w w' := by
  obtain ⟨ai, ci, h1, _⟩ := h.init.form
  obtain ⟨ag, cg, h2, _⟩ := h.goal.form
  obtain ⟨ao, co, h3, hmo⟩ := h.ops.form
  obtain ⟨aa, cs, h4, _⟩ := hs.form
  have hkl := (List.getElem?_eq_some_iff.1 hk).1
  obtain ⟨bo, oo, h5, hc⟩ := h.ops.cell h3 (by omega)
  subst h1 h2 h3 h4 h5
  obtain ⟨va, vb, vc, c0, c1, c2, c3, e0, e1, e2⟩ := hc k o hk
  obtain ⟨pa, pc, h6, _⟩ := e0.form
  subst h6
  have KA := (Keeps.refl (fun _ => False) w).alloc (.cells #[.int .i64 t.n, .slice ai t.init.length ci, .slice ag t.goal.length cg, .slice (some ⟨bo, oo, none⟩) t.ops.length co] 25)
  have HB := Lib.hid (Four.new w (.int .i64 t.n) (.slice ai t.init.length ci) (.slice ag t.goal.length cg) (.slice (some ⟨bo, oo, none⟩) t.ops.length co) 25)
  have HS := Lib.hid (show Ints _ (.slice aa s.length cs) s from hs.keeps0 KA); have HP := Lib.hid (show Ints _ (.slice pa o.pre.length pc) o.pre from e0.keeps0 KA); have K1 := Lib.hid KA; have C0 := Lib.hid (KA.cell c0 (fun h => h))
  have SS := Lib.hid ss; have SP := Lib.hid sp
  clear h hs hk hc c0 c1 c2 c3 e0 e1 e2 KA ss sp
  go_enter Try.func103, Try.ntmps103
  go_upto_region 1 with fail
  generalize (w.alloc (.cells #[.int .i64 t.n, .slice ai t.init.length ci, .slice ag t.goal.length cg, .slice (some ⟨bo, oo, none⟩) t.ops.length co] 25)) = w1 at HB HS HP K1 C0 ⊢
  generalize w.heap.size = bt at HB ⊢
  have hbx := HB.out.lt
  obtain ⟨d0, d1, d2, d3⟩ := HB.out
  have c0 := C0.out
  have i0 : (0 : Int) ≤ (k : Int) := by omega
  have i1 : (k : Int) < (t.ops.length : Int) := by omega
  go_wp2_with fail
  refine (contains_any _ _ _ s o.pre HS.out HP.out SS.out SP.out).mono ?_; rintro e w2 ⟨rfl, rfl⟩
  go_wp2_with fail
  go_ret
  exact ⟨rfl, K1.out⟩

set_option maxRecDepth 100000 in
theorem next_any (w : World) (vi vg vo vs : Value) (t : Tsk) (s : List Int) (k : Nat) (o : Opr) (h : TaskAt w vi vg vo t) (hs : Ints w vs s) (hk : t.ops[k]? = some o) (sd : o.del.Pairwise (· < ·)) (ls : s.length ≤ 1000) (la : o.add.length ≤ 1000) (ld : o.del.length ≤ 1000) :
    Calls Try.prog 104 #[.agg #[.int .i64 t.n, vi, vg, vo], vs, .int .i64 (k : Int)] w fun e w' => ∃ v, e = .returned v ∧ w'.ownsRow w.heap.size 3 1 v (updL s o.add o.del).length ((updL s o.add o.del).map (Value.int .i64)) ∧ Keeps (fun _ => False) w w' := by
  obtain ⟨ai, ci, h1, _⟩ := h.init.form
  obtain ⟨ag, cg, h2, _⟩ := h.goal.form
  obtain ⟨ao, co, h3, hmo⟩ := h.ops.form
  obtain ⟨aa, cs, h4, _⟩ := hs.form
  have hkl := (List.getElem?_eq_some_iff.1 hk).1
  obtain ⟨bo, oo, h5, hc⟩ := h.ops.cell h3 (by omega)
  subst h1 h2 h3 h4 h5
  obtain ⟨va, vb, vc, c0, c1, c2, c3, e0, e1, e2⟩ := hc k o hk
  obtain ⟨pa, pc, h6, _⟩ := e0.form
  obtain ⟨qa, qc, h7, _⟩ := e1.form
  obtain ⟨ra, rc, h8, _⟩ := e2.form
  subst h6 h7 h8
  have KA := ((Keeps.refl (fun _ => False) w).alloc (.cells #[.int .i64 t.n, .slice ai t.init.length ci, .slice ag t.goal.length cg, .slice (some ⟨bo, oo, none⟩) t.ops.length co] 25))
  have KB := KA.alloc (.cells #[.slice pa o.pre.length pc, .slice qa o.add.length qc, .slice ra o.del.length rc, .int .i64 o.cost] 39)
  have HB := Lib.hid (Four.new w (.int .i64 t.n) (.slice ai t.init.length ci) (.slice ag t.goal.length cg) (.slice (some ⟨bo, oo, none⟩) t.ops.length co) 25)
  have HO := Lib.hid (Four.new (w.alloc (.cells #[.int .i64 t.n, .slice ai t.init.length ci, .slice ag t.goal.length cg, .slice (some ⟨bo, oo, none⟩) t.ops.length co] 25)) (.slice pa o.pre.length pc) (.slice qa o.add.length qc) (.slice ra o.del.length rc) (.int .i64 o.cost) 39)
  have HS := Lib.hid (show Ints _ (.slice aa s.length cs) s from hs.keeps0 KB); have HA := Lib.hid (show Ints _ (.slice qa o.add.length qc) o.add from e1.keeps0 KB); have HD := Lib.hid (show Ints _ (.slice ra o.del.length rc) o.del from e2.keeps0 KB); have K1 := Lib.hid KB
  have C0 := Lib.hid (KA.cell c0 (fun h => h)); have C1 := Lib.hid (KA.cell c1 (fun h => h)); have C2 := Lib.hid (KA.cell c2 (fun h => h)); have C3 := Lib.hid (KA.cell c3 (fun h => h))
  have SD := Lib.hid sd
  have hsz : w.heap.size ≤ w.heap.size + 2 := by omega
  clear h hs hk hc c0 c1 c2 c3 e0 e1 e2 KA KB sd
  go_enter Try.func104, Try.ntmps104
  have hbx := HB.out.lt
  obtain ⟨d0, d1, d2, d3⟩ := HB.out
  have c0 := C0.out; have c1 := C1.out; have c2 := C2.out; have c3 := C3.out
  have i0 : (0 : Int) ≤ (k : Int) := by omega
  have i1 : (k : Int) < (t.ops.length : Int) := by omega
  go_upto_region 2 with fail
  obtain ⟨q0, q1, q2, q3⟩ := HO.out
  rw [World.size_alloc] at q0 q1 q2 q3
  clear d0 d1 d2 d3 c0 c1 c2 c3 C0 C1 C2 C3 HB HO hbx
  generalize hw2 : ((w.alloc (.cells #[.int .i64 t.n, .slice ai t.init.length ci, .slice ag t.goal.length cg, .slice (some ⟨bo, oo, none⟩) t.ops.length co] 25)).alloc (.cells #[.slice pa o.pre.length pc, .slice qa o.add.length qc, .slice ra o.del.length rc, .int .i64 o.cost] 39)) = w2 at HS HA HD K1 q0 q1 q2 q3 ⊢
  have hs2 : w2.heap.size = w.heap.size + 2 := by rw [← hw2, World.size_alloc, World.size_alloc]
  have HS2 := Lib.hid hs2
  clear hw2 hs2 q0 q3
  go_wp2_with fail
  refine (update_any _ _ _ _ s o.add o.del HS.out HA.out HD.out SD.out ls la ld).mono ?_; rintro e w3 ⟨v, rfl, hown, hk⟩
  have HN := Lib.hid (ownsRow_mono hown (show w.heap.size ≤ w2.heap.size by rw [HS2.out]; omega))
  have K3 := Lib.hid (K1.out.trans hk)
  clear hown hk
  go_wp2_with fail
  go_ret
  exact ⟨_, rfl, HN.out, K3.out⟩

end Go.Proofs.Ytdonadeodioplaa

namespace Go.Proofs.Ytdonadeodioplaa
open Go.RowKit Go.Sort Go.Proofs

theorem clone_any (w : World) (v : Value) (l : List Int) (h : Ints w v l) (hl : l.length ≤ 1000000) :
    Calls Try.prog 90 #[v] w fun e w' => ∃ v', e = .returned v' ∧ w'.ownsRow w.heap.size 3 1 v' l.length (l.map (Value.int .i64)) ∧ Keeps (fun _ => False) w w' := by
  obtain ⟨ao, ca, hv, ma⟩ := h.form
  have CA := h.cell hv
  subst hv
  by_cases hl0 : 0 < l.length
  · obtain ⟨b, off, rfl, hc⟩ := CA hl0
    refine (Try.slices_Clone_int b off l.length ca l w (Nat.le_refl _) (by omega) (fun j hj => ?_)).mono ?_
    · obtain ⟨y, hy⟩ : ∃ y, l[j]? = some y := ⟨_, List.getElem?_eq_getElem hj⟩
      rw [hc j y hy, List.getD_eq_getElem?_getD, hy]; rfl
    · rintro e w' ⟨v', rfl, hown, _, hb⟩
      exact ⟨v', rfl, by rwa [List.take_length] at hown, Keeps.ofBelow hb _⟩
  · obtain rfl : l = [] := List.length_eq_zero_iff.1 (by omega)
    cases ao with
    | none =>
      refine (Try.slices_Clone_int_nil 0 ca w).mono ?_
      rintro e w' ⟨rfl, rfl⟩
      exact ⟨_, rfl, World.ownsRow_nil _ _ _ _, Keeps.refl _ _⟩
    | some a =>
      refine (Try.slices_Clone_int_zero a ca w).mono ?_
      rintro e w' ⟨v', rfl, hown, _, hb⟩
      exact ⟨v', rfl, hown, Keeps.ofBelow hb _⟩

theorem SRow.one {W : World} {base : Nat} {vn : Value} {y : Nat} (hn : Ints W vn (facts y)) (hb : base ≤ W.heap.size) (hnl : ∀ k, vn.ownBlock = some k → base ≤ k ∧ k < W.heap.size) : SRow (W.alloc (.cells #[vn] 22)) base (.slice (some ⟨W.heap.size, 0, none⟩) 1 1) [y] [vn] := by
  refine ⟨World.ownsRow_lit W #[vn] 1 hb (by unfold maxLen; omega) rfl, fun i x hx => ?_⟩
  match i, hx with
  | 0, hx =>
    simp at hx; subst hx
    have K := (Keeps.refl (fun _ => False) W).alloc (.cells #[vn] 22)
    exact ⟨vn, rfl, hn.keeps0 K, fun k hk e => (by have := (hnl k hk).2; cases (show some W.heap.size = some k from e); omega), fun k hk => ⟨(hnl k hk).1, Nat.lt_of_lt_of_le (hnl k hk).2 K.size⟩⟩
  | i + 1, hx => simp at hx

theorem good_run {t : Tsk} (ok : t.Ok) : ∀ (q : List Nat) {x y : Nat}, Good t.n x → runOps (wordsOf t.ops) x q = some y → Good t.n y
  | [], x, y, hx, hy => by cases hy; exact hx
  | a :: q, x, y, hx, hy => by
    rw [runOps] at hy
    cases ho : (wordsOf t.ops)[a]? with
    | none => rw [ho] at hy; cases hy
    | some o =>
      rw [ho] at hy; simp only at hy
      by_cases hc : o.can x = true
      · rw [if_pos hc] at hy
        exact good_run ok q (good_next_mem ok hx (List.mem_map.2 ⟨o, List.mem_filter.2 ⟨List.mem_of_getElem? ho, hc⟩, rfl⟩)) hy
      · rw [if_neg hc] at hy; cases hy
theorem good_len {n : Int} {x : Nat} (hn : n ≤ 1000) (h : Good n x) : (facts x).length ≤ 1000 := isSet_length h.1 hn

/-- The state after a step, as the program makes it. -/
theorem upd_next {t : Tsk} (ok : t.Ok) {x : Nat} (hx : Good t.n x) {o : Opr} (ho : o ∈ t.ops) : appL o (facts x) = o.word.can x ∧ updL (facts x) o.add o.del = facts (o.word.next x) ∧ Good t.n (o.word.next x) := by
  have hok := ok.ops o ho
  obtain ⟨h1, h2, h3⟩ := good_next (by have := ok.n1; omega) hok hx
  exact ⟨h1, by rw [updL_aftL hx.1 hok.add, h2], h3⟩

def RunI (t : Tsk) (x : Nat) (q : List Nat) (w w2 : World) (k : Nat) (v1 v7 : Value) (wr : World) : Prop :=
  ∃ y us, Ints wr v1 (facts y) ∧ runOps (wordsOf t.ops) x (q.take k) = some y ∧ SRow wr w.heap.size v7 (playL (wordsOf t.ops) x (q.take k)) us ∧ wr.ownsRow w2.heap.size 22 1 v7 (k + 1) us ∧ Keeps (fun _ => False) w2 wr

set_option maxRecDepth 100000 in
set_option maxHeartbeats 2000000 in
theorem run_any (w : World) (vi vg vo vs vp : Value) (t : Tsk) (x : Nat) (q : List Nat) (h : TaskAt w vi vg vo t) (ok : t.Ok) (hg : Good t.n x) (hs : Ints w vs (facts x)) (hp : Ints w vp (intsP q)) (hin : ∀ j ∈ q, j < t.ops.length) (hl : q.length ≤ 1000) :
    Calls Try.prog 72 #[.agg #[.int .i64 t.n, vi, vg, vo], vs, vp] w fun e w' => ∃ v us, e = .returned v ∧ SRow w' w.heap.size v (playL (wordsOf t.ops) x q) us ∧ Keeps (fun _ => False) w w' := by
  obtain ⟨j0, hj0, jz0, jz1, jz2⟩ := info_parts Try.info22
  obtain ⟨ai, ci, h1, _⟩ := h.init.form
  obtain ⟨ag, cg, h2, _⟩ := h.goal.form
  obtain ⟨ao, co, h3, hmo⟩ := h.ops.form
  obtain ⟨aa, cs, h4, _⟩ := hs.form
  obtain ⟨ap, cp, h5, _⟩ := hp.form
  have hql : (intsP q).length = q.length := by unfold intsP; rw [List.length_map]
  rw [hql] at h5
  subst h1 h2 h3 h4 h5
  have KA := (Keeps.refl (fun _ => False) w).alloc (.cells #[.int .i64 t.n, .slice ai t.init.length ci, .slice ag t.goal.length cg, .slice ao t.ops.length co] 25)
  have HB := Lib.hid (Four.new w (.int .i64 t.n) (.slice ai t.init.length ci) (.slice ag t.goal.length cg) (.slice ao t.ops.length co) 25)
  have HT := Lib.hid (h.keeps0 KA); have HS := Lib.hid (show Ints _ (.slice aa (facts x).length cs) (facts x) from hs.keeps0 KA); have HP := Lib.hid (show Ints _ (.slice ap q.length cp) (intsP q) from hp.keeps0 KA); have K1 := Lib.hid KA
  have OK := Lib.hid ok; have GX := Lib.hid hg; have HIN := Lib.hid hin
  have hxl : (facts x).length ≤ 1000 := good_len (by have := ok.n1; omega) hg
  have HQL := Lib.hid hql
  clear h hs hp ok hg hin KA hql
  go_enter Try.func72, Try.ntmps72
  go_upto_region 1 with fail
  generalize (w.alloc (.cells #[.int .i64 t.n, .slice ai t.init.length ci, .slice ag t.goal.length cg, .slice ao t.ops.length co] 25)) = w1 at HB HT HS HP K1 ⊢
  generalize w.heap.size = bt at HB ⊢
  go_wp2_with fail
  refine (clone_any _ _ _ HS.out (by omega)).mono ?_; rintro e w2 ⟨vn, rfl, hown, hk⟩
  obtain ⟨an, cn, hvn⟩ := ownsRow_form1 hown
  subst hvn
  have hs1 := K1.out.size; have hs2 := hk.size
  have HN := Lib.hid (Ints.of_own hown)
  have HNL := Lib.hid (show ∀ k, (Value.slice an (facts x).length cn).ownBlock = some k → w.heap.size ≤ k ∧ k < w2.heap.size from fun k hk' => by have := World.ownsRow.lt hown k hk'; omega)
  have R0 := Lib.hid (SRow.one HN.out (by omega : w.heap.size ≤ w2.heap.size) HNL.out)
  have RO := Lib.hid (World.ownsRow_lit (base := w2.heap.size) (e := 22) (size := 1) w2 #[.slice an (facts x).length cn] 1 (Nat.le_refl _) (by unfold maxLen; omega) rfl)
  have HB2 := Lib.hid (HB.out.keeps0 hk); have HT2 := Lib.hid (HT.out.keeps0 hk); have HS2 := Lib.hid (show Ints _ (.slice aa (facts x).length cs) (facts x) from HS.out.keeps0 hk); have HP2 := Lib.hid (show Ints _ (.slice ap q.length cp) (intsP q) from HP.out.keeps0 hk); have K2 := Lib.hid (K1.out.trans hk)
  have K23 := Lib.hid ((Keeps.refl (fun _ => False) w2).alloc (.cells #[.slice an (facts x).length cn] 22))
  have HCP := Lib.hid (HP2.out.cell rfl)
  have hsw2 : w.heap.size ≤ w2.heap.size := by omega
  clear hown hk hs1 hs2 HN HNL HB HT HS HP K1
  go_upto_region 2 with fail
  generalize w2.alloc (.cells #[.slice an (facts x).length cn] 22) = w3 at R0 RO K23 ⊢
  go_wp2_with fail
  go_loopw [1, 7, 15] (fun v1 v7 v15 wr => ∃ k : Nat, k ≤ q.length ∧ v15 = .int .i64 (k : Int) ∧ RunI t x q w w2 k v1 v7 wr) (fun _ _ v15 _ => q.length - (intOf v15).toNat)
  case atStart => exact ⟨0, Nat.zero_le _, rfl, x, [.slice an (facts x).length cn], HS2.out.keeps0 K23.out, rfl, R0.out, RO.out, K23.out⟩
  case round =>
    obtain ⟨k, hk, rfl, hR⟩ := hrel
    unfold RunI at hR
    obtain ⟨y, us, hy, hrun, hrow, hro, hkr⟩ := hR
    have HY := Lib.hid hy; have HRUN := Lib.hid hrun; have HR := Lib.hid hrow; have KR := Lib.hid hkr; have HRO0 := Lib.hid hro
    have GY := Lib.hid (good_run OK.out _ GX.out hrun)
    have hsz := hkr.size
    obtain ⟨ay, cy, hv1, _⟩ := hy.form
    have HTL := Lib.hid (show (playL (wordsOf t.ops) x (q.take k)).length = k + 1 by rw [(playL_run hrun).1, List.length_take]; omega)
    obtain ⟨ar, cr, har⟩ := ownsRow_form1 hrow.out
    rw [HTL.out] at har
    subst hv1 har
    clear hy hrun hrow hro hkr
    by_cases hlt : k < q.length
    · obtain ⟨j, hj⟩ : ∃ j, q[k]? = some j := ⟨_, List.getElem?_eq_getElem hlt⟩
      have hjl := HIN.out j (List.mem_of_getElem? hj)
      obtain ⟨o, ho⟩ : ∃ o, t.ops[j]? = some o := ⟨_, List.getElem?_eq_getElem hjl⟩
      have hwo : (wordsOf t.ops)[j]? = some o.word := by unfold wordsOf; rw [List.getElem?_map, ho]; rfl
      obtain ⟨bp, op, rfl, hc⟩ := HCP.out (by rw [HQL.out]; omega)
      have hcj := KR.out.cell (hc k (j : Int) (by unfold intsP; rw [List.getElem?_map, hj]; rfl)) (fun h => h)
      obtain ⟨u1, u2, u3⟩ := upd_next OK.out GY.out (List.mem_of_getElem? ho)
      have HU1 := Lib.hid u1; have HU2 := Lib.hid u2; have HU3 := Lib.hid u3
      have HJ := Lib.hid hj; have HO := Lib.hid ho; have HWO := Lib.hid hwo
      have HOK := Lib.hid (OK.out.ops o (List.mem_of_getElem? ho))
      have HBr := Lib.hid (HB2.out.keeps0 KR.out); have HTr := Lib.hid (HT2.out.keeps0 KR.out)
      have hyl : (facts y).length ≤ 1000 := good_len (by have := OK.out.n1; omega) GY.out
      have hbx := HBr.out.lt
      obtain ⟨d0, d1, d2, d3⟩ := HBr.out
      clear hj hjl ho hwo hc u1 u2 u3
      go_wp2_with fail
      refine (can_any _ _ _ _ _ t (facts y) j o HTr.out HY.out HO.out (facts_sorted y) (isSet_iff.1 HOK.out.pre).2).mono ?_; rintro e w4 ⟨rfl, hk4⟩
      rw [HU1.out]
      have HB4 := Lib.hid (HBr.out.keeps0 hk4); have HT4 := Lib.hid (HTr.out.keeps0 hk4); have HY4 := Lib.hid (show Ints _ (.slice ay (facts y).length cy) (facts y) from HY.out.keeps0 hk4); have HR4 := Lib.hid (HR.out.keeps0 hk4); have K4 := Lib.hid (KR.out.trans hk4); have HRO4 := Lib.hid (hk4.ownsRow HRO0.out (fun _ _ h => h))
      clear hk4 d0 d1 d2 d3 hbx hcj HBr HTr HY HR KR HRO0
      cases hcan : o.word.can y with
      | false =>
        have HPL := Lib.hid (show playL (wordsOf t.ops) x q = playL (wordsOf t.ops) x (q.take k) by
          have e : q = q.take k ++ j :: q.drop (k + 1) := by rw [← drop_getS HJ.out]; exact (List.take_append_drop k q).symm
          generalize hql : q.take k = qq at e HRUN ⊢
          rw [e]
          exact playL_stuck _ HRUN.out HWO.out hcan)
        clear hcan
        go_wp2_with fail
        go_ret
        exact ⟨_, us, rfl, by rw [HPL.out]; exact HR4.out, K2.out.trans K4.out⟩
      | true =>
        have HRN := Lib.hid (show runOps (wordsOf t.ops) x (q.take (k + 1)) = some (o.word.next y) by
          rw [take_getS HJ.out]; exact runOps_snoc' HRUN.out HWO.out hcan)
        have HPL := Lib.hid (show playL (wordsOf t.ops) x (q.take (k + 1)) = playL (wordsOf t.ops) x (q.take k) ++ [o.word.next y] by
          rw [take_getS HJ.out]; exact playL_go HRUN.out HWO.out hcan)
        clear hcan
        have hbx := HB4.out.lt
        obtain ⟨d0, d1, d2, d3⟩ := HB4.out
        go_wp2_with fail
        refine (next_any _ _ _ _ _ t (facts y) j o HT4.out HY4.out HO.out (isSet_iff.1 HOK.out.del).2 hyl (isSet_length HOK.out.add (by have := OK.out.n1; omega)) (isSet_length HOK.out.del (by have := OK.out.n1; omega))).mono ?_; rintro e w5 ⟨v5, rfl, hown, hk5⟩
        rw [HU2.out] at hown
        generalize o.word.next y = z at HU3 HRN HPL hown
        obtain ⟨a5, c5, h5⟩ := ownsRow_form1 hown
        subst h5
        have HN5 := Lib.hid (Ints.of_own hown); have HR5 := Lib.hid (HR4.out.keeps0 hk5); have K5 := Lib.hid (K4.out.trans hk5); have HRO := Lib.hid (hk5.ownsRow HRO4.out (fun _ _ h => h))
        have hs4 := K4.out.size; have hs5 := hk5.size
        have HNL := Lib.hid (show ∀ k, (Value.slice a5 (facts z).length c5).ownBlock = some k → w.heap.size ≤ k ∧ k < w5.heap.size from fun k hk' => by have := World.ownsRow.lt hown k hk'; omega)
        have HNB := Lib.hid (show ∀ b, (Value.slice a5 (facts z).length c5).ownBlock = some b → (Value.slice ar (k + 1) cr).ownBlock ≠ some b from fun b hb e => by
          have h1 := (World.ownsRow.lt hown b hb).1
          have h2 := (World.ownsRow.lt HRO4.out b e).2
          omega)
        clear hown hk5 d0 d1 d2 d3 hbx HB4 HT4 HY4 HR4 K4 HRO4
        go_wp2_with (at_builtin; refine wpList_append_d rfl _ _ _ rfl w2.heap.size 22 j0 _ 1 24 Try.underlying28 hj0 jz0 jz1 jz2 rfl (by omega) _ (k + 1) us (by rfl) (World.ownsRow.alloc HRO.out (.cells #[.slice a5 (facts z).length c5] 22)) ⟨w5.heap.size, 0, none⟩ 1 1 [.slice a5 (facts z).length c5] (by rfl) (by rfl) (World.news_of_block (cs := #[.slice a5 (facts z).length c5]) (t := 22) (fr := (0, 0)) (heap_alloc_new _ _)) (by simp [Value.oneCell']) (by omega) (by unfold maxLen; omega) (by omega) (by simp; omega) (w5.heap.size + 1) (by simp) ?_)
        intro gg cap2 w6 hown hgrow hat hlt5 hd5
        have hk6 : Keeps (fun b => (Value.slice ar (k + 1) cr).ownBlock = some b) w5 w6 := ((Keeps.refl _ w5).alloc _).grown hgrow (fun b hb => .inl hb)
        have HROW : Hid (SRow w6 w.heap.size (.slice (some ⟨gg, 0, none⟩) (k + 1 + 1) cap2) (playL (wordsOf t.ops) x (q.take (k + 1))) (us ++ [.slice a5 (facts z).length c5])) := by
          unfold Hid
          rw [HPL.out]
          exact SRow.snoc HR5.out HN5.out HNB.out HNL.out hk6 (by rw [HTL.out]; exact ownsRow_mono hown hsw2) (fun b hb => by
            simp [Value.ownBlock] at hb
            subst hb
            rcases hat with h | h
            · exact .inl h
            · exact .inr (by omega))
        have HK6 := Lib.hid (own_grown HRO.out K5.out ((Keeps.refl _ w5).alloc (.cells #[.slice a5 (facts z).length c5] 22)) hgrow)
        have HN6 := Lib.hid (show Ints w6 (.slice a5 (facts z).length c5) (facts z) from HN5.out.keepsS hk6 (fun _ b hb e => HNB.out b hb e))
        have HRO6 := Lib.hid hown
        clear hown hgrow hat hd5 hk6
        go_wp2_with fail
        go_roundw
        case rel => exact ⟨k + 1, by omega, by go_num, z, _, HN6.out, HRN.out, HROW.out, HRO6.out, HK6.out⟩
        case measure => simp only [intOf]; omega
    · have hke : k = q.length := by omega
      subst hke
      have HR2 := Lib.hid (show SRow wr w.heap.size (.slice ar (q.length + 1) cr) (playL (wordsOf t.ops) x q) us by have h := HR.out; rw [List.take_length] at h; exact h)
      go_wp2_with fail
      go_ret
      exact ⟨_, us, rfl, HR2.out, K2.out.trans KR.out⟩

end Go.Proofs.Ytdonadeodioplaa

namespace Go.Proofs.Ytdonadeodioplaa
open Go.RowKit

/-! ### plain -/
def stepsF (n : Int) (p : List Int) : Int × Int := if 60 < p.length then (2, -5) else if (p.all fun x => decide (0 ≤ x) && decide (x < n)) = true then (0, 0) else (3, -6)
def planF (t : Tsk) (p : List Int) : Int × Int := if (taskFault t).1 = 0 then stepsF t.ops.length p else taskFault t
theorem planF_cases (t : Tsk) (p : List Int) : (∃ c i, c ≠ 0 ∧ planF t p = (c, i)) ∨ (planF t p = (0, 0) ∧ t.Ok ∧ ∃ q : List Nat, p = intsP q ∧ q.length ≤ 60 ∧ ∀ j ∈ q, j < t.ops.length) := by
  unfold planF
  by_cases h : (taskFault t).1 = 0
  · rw [if_pos h]
    unfold stepsF
    by_cases h6 : 60 < p.length
    · rw [if_pos h6]; exact .inl ⟨_, _, by decide, rfl⟩
    · rw [if_neg h6]
      by_cases ha : (p.all fun x => decide (0 ≤ x) && decide (x < (t.ops.length : Int))) = true
      · rw [if_pos ha]
        have hall : ∀ x ∈ p, 0 ≤ x ∧ x < (t.ops.length : Int) := fun x hx => by
          have := List.all_eq_true.1 ha x hx
          simpa using this
        refine .inr ⟨rfl, taskFault_zero.1 h, natP p, ?_, by unfold natP; rw [List.length_map]; omega, fun j hj => ?_⟩
        · unfold intsP natP
          rw [List.map_map]
          conv => lhs; rw [← List.map_id p]
          apply List.map_congr_left
          intro x hx
          have := hall x hx
          simp
          omega
        · unfold natP at hj
          obtain ⟨x, hx, rfl⟩ := List.mem_map.1 hj
          have := hall x hx
          omega
      · rw [if_neg ha]; exact .inl ⟨_, _, by decide, rfl⟩
  · rw [if_neg h]; exact .inl ⟨_, _, h, rfl⟩
def worksB (t : Tsk) (x : Nat) (q : List Nat) : Bool := match runOps (wordsOf t.ops) x q with
  | some y => goalB (wd t.goal) y
  | none => false
def solvesB (t : Tsk) (q : List Nat) : Bool := worksB t (wd t.init) q

/-! ### Steps -/
set_option maxHeartbeats 1000000 in
theorem strSteps_any (w : World) (n : Int) (vp : Value) (p : List Int) (hp : Ints w vp p) :
    Calls Try.prog 71 #[.int .i64 n, vp] w fun e w' => e = .returned (fltV (stepsF n p).1 (stepsF n p).2) ∧ Keeps (fun _ => False) w w' := by
  obtain ⟨ap, cp, h1, hpl⟩ := hp.form
  have HCP := Lib.hid (hp.cell h1)
  subst h1
  have HF : Flt w (w.alloc (.cells #[.int .i64 0, .int .i64 0] 30)) w.heap.size 30 := ⟨heap_alloc_new w (.cells #[.int .i64 0, .int .i64 0] 30), Nat.le_refl _, (Keeps.refl _ w).alloc (.cells #[.int .i64 0, .int .i64 0] 30)⟩
  replace HF := Lib.hid HF
  clear hp
  by_cases h6 : 60 < p.length
  · have HR : Hid (stepsF n p = (2, -5)) := by unfold Hid stepsF; rw [if_pos h6]
    go_enter Try.func71, Try.ntmps71
    go_upto_region 1 with fail
    generalize w.alloc (.cells #[.int .i64 0, .int .i64 0] 30) = w1 at HF ⊢
    obtain ⟨e0, e1, z0, z1, hF⟩ := HF.out.cells
    go_wp2_with fail
    refine bodyPost_ret (results_cell_row rfl _ _ w.heap.size 30 _ (0, 0) _ rfl (HF.out.set (.int .i64 2) (.int .i64 (-5))).1 Try.underlying30 rfl (by kernel_rfl)) rfl ?_
    exact ⟨by rw [HR.out]; rfl, (HF.out.set _ _).2⟩
  · have h6' : p.length ≤ 60 := by omega
    have HR : Hid (stepsF n p = if (p.all fun x => decide (0 ≤ x) && decide (x < n)) = true then (0, 0) else (3, -6)) := by unfold Hid stepsF; rw [if_neg h6]
    clear h6
    go_enter Try.func71, Try.ntmps71
    go_upto_region 1 with fail
    have KA := Lib.hid ((Keeps.refl (fun _ => False) w).alloc (.cells #[.int .i64 0, .int .i64 0] 30))
    generalize w.alloc (.cells #[.int .i64 0, .int .i64 0] 30) = w1 at HF KA ⊢
    go_wp2_with fail
    go_loop [13] (fun v13 => ∃ k : Nat, k ≤ p.length ∧ v13 = .int .i64 (k : Int) ∧ ((p.take k).all fun x => decide (0 ≤ x) && decide (x < n)) = true) (fun v13 => p.length - (intOf v13).toNat)
    case atStart => exact ⟨0, Nat.zero_le _, rfl, rfl⟩
    case round =>
      obtain ⟨k, hk, rfl, hall⟩ := hrel
      have HA := Lib.hid hall
      clear hall
      obtain ⟨e0, e1, z0, z1, hF⟩ := HF.out.cells
      by_cases hlt : k < p.length
      · obtain ⟨bp, op, rfl, hc⟩ := HCP.out (by omega)
        obtain ⟨x, hx⟩ : ∃ x, p[k]? = some x := ⟨_, List.getElem?_eq_getElem hlt⟩
        have hcx := KA.out.cell (hc k _ hx) (fun h => h)
        have HX := Lib.hid hx
        clear hc hx
        by_cases hb : 0 ≤ x ∧ x < n
        · obtain ⟨hb1, hb2⟩ := hb
          have HA2 : Hid (((p.take (k + 1)).all fun x => decide (0 ≤ x) && decide (x < n)) = true) := by
            unfold Hid
            rw [take_getS HX.out, List.all_append, HA.out]
            simp [hb1, hb2]
          go_wp2_with fail
          go_round
          case rel => exact ⟨k + 1, by omega, by go_num, HA2.out⟩
          case measure => simp only [intOf]; omega
        · have HR2 : Hid (stepsF n p = (3, -6)) := by
            unfold Hid
            rw [HR.out, if_neg]
            intro h
            have := List.all_eq_true.1 h x (List.mem_of_getElem? HX.out)
            simp at this
            exact hb this
          by_cases hb1 : x < 0
          · clear hb
            go_wp2_with fail
            refine bodyPost_ret (results_cell_row rfl _ _ w.heap.size 30 _ (0, 0) _ rfl (HF.out.set (.int .i64 3) (.int .i64 (-6))).1 Try.underlying30 rfl (by kernel_rfl)) rfl ?_
            exact ⟨by rw [HR2.out]; rfl, (HF.out.set _ _).2⟩
          · have hb2 : n ≤ x := by omega
            have hb3 : 0 ≤ x := by omega
            clear hb hb1
            go_wp2_with fail
            refine bodyPost_ret (results_cell_row rfl _ _ w.heap.size 30 _ (0, 0) _ rfl (HF.out.set (.int .i64 3) (.int .i64 (-6))).1 Try.underlying30 rfl (by kernel_rfl)) rfl ?_
            exact ⟨by rw [HR2.out]; rfl, (HF.out.set _ _).2⟩
      · have HR2 : Hid (stepsF n p = (0, 0)) := by
          unfold Hid
          have := HA.out
          rw [List.take_of_length_le (by omega)] at this
          rw [HR.out, if_pos this]
        go_wp2_with fail
        refine bodyPost_ret (results_cell_row rfl _ _ w.heap.size 30 _ (0, 0) _ rfl (HF.out.set (.int .i64 0) (.int .i64 0)).1 Try.underlying30 rfl (by kernel_rfl)) rfl ?_
        exact ⟨by rw [HR2.out]; rfl, (HF.out.set _ _).2⟩

/-! ### PlanFault -/
set_option maxHeartbeats 1000000 in
theorem planFault_any (w : World) (vi vg vo vp : Value) (t : Tsk) (p : List Int) (h : TaskAt w vi vg vo t) (hp : Ints w vp p) :
    Calls Try.prog 73 #[.agg #[.int .i64 t.n, vi, vg, vo], vp] w fun e w' => e = .returned (fltV (planF t p).1 (planF t p).2) ∧ Keeps (fun _ => False) w w' := by
  obtain ⟨ap, cp, h5, hpl⟩ := hp.form
  subst h5
  obtain ⟨ai, ci, h1, _⟩ := h.init.form
  obtain ⟨ag, cg, h2, _⟩ := h.goal.form
  obtain ⟨ao, co, h3, hmo⟩ := h.ops.form
  subst h1 h2 h3
  have K1 := (Keeps.refl (fun _ => False) w).alloc (.cells #[.int .i64 t.n, .slice ai t.init.length ci, .slice ag t.goal.length cg, .slice ao t.ops.length co] 25)
  have KA2 := K1.alloc (.cells #[.int .i64 0, .int .i64 0] 30)
  have HT := Lib.hid (h.keeps0 KA2)
  have HB := Lib.hid ((Four.new w (.int .i64 t.n) (.slice ai t.init.length ci) (.slice ag t.goal.length cg) (.slice ao t.ops.length co) 25).keeps0 ((Keeps.refl _ _).alloc (.cells #[.int .i64 0, .int .i64 0] 30)))
  have HF : Flt w ((w.alloc (.cells #[.int .i64 t.n, .slice ai t.init.length ci, .slice ag t.goal.length cg, .slice ao t.ops.length co] 25)).alloc (.cells #[.int .i64 0, .int .i64 0] 30)) (w.heap.size + 1) 30 :=
    ⟨by have := heap_alloc_new (w.alloc (.cells #[.int .i64 t.n, .slice ai t.init.length ci, .slice ag t.goal.length cg, .slice ao t.ops.length co] 25)) (.cells #[.int .i64 0, .int .i64 0] 30); rwa [World.size_alloc] at this, by omega, KA2⟩
  replace HF := Lib.hid HF
  have HP := Lib.hid (show Ints _ (.slice ap p.length cp) p from hp.keeps0 KA2)
  clear h K1 KA2 hp
  go_enter Try.func73, Try.ntmps73
  go_upto_region 1 with fail
  generalize ((w.alloc (.cells #[.int .i64 t.n, .slice ai t.init.length ci, .slice ag t.goal.length cg, .slice ao t.ops.length co] 25)).alloc (.cells #[.int .i64 0, .int .i64 0] 30)) = w1 at HT HB HF HP ⊢
  have hbx := HB.out.lt
  obtain ⟨d0, d1, d2, d3⟩ := HB.out
  go_wp2_with fail
  refine (validate_any _ _ _ _ t HT.out).mono ?_; rintro e w2 ⟨rfl, hk⟩
  have KA := hk.trans ((Keeps.refl (fun _ => False) w2).alloc (.cells #[.int .i64 (taskFault t).1, .int .i64 (taskFault t).2] 30))
  have HF3 := Lib.hid (HF.out.keeps0 KA); have HB3 := Lib.hid (HB.out.keeps0 KA); have HP3 := Lib.hid (show Ints _ (.slice ap p.length cp) p from HP.out.keeps0 KA)
  clear d0 d1 d2 d3 hk KA hbx HF HB HT HP
  have hbx := HB3.out.lt
  obtain ⟨d0, d1, d2, d3⟩ := HB3.out
  obtain ⟨e0, e1, z0, z1, hF⟩ := HF3.out.cells
  by_cases hc : (taskFault t).1 = 0
  · have hft := taskFault_ok (taskFault_zero.1 hc)
    have HPF := Lib.hid (show planF t p = stepsF t.ops.length p by unfold planF; rw [if_pos hc])
    rw [hft] at HF3 HP3 d0 d1 d2 d3 e0 e1 z0 z1 hF hbx ⊢
    clear hc hft HB3
    go_wp2_with fail
    refine (strSteps_any _ _ _ p HP3.out).mono ?_; rintro e w4 ⟨rfl, hk⟩
    have HF4 := Lib.hid (HF3.out.keeps0 hk)
    clear hk d0 d1 d2 d3 e0 e1 z0 z1 hF hbx HF3 HP3
    obtain ⟨e0, e1, z0, z1, hF⟩ := HF4.out.cells
    generalize hgf : stepsF t.ops.length p = f
    have HPF2 := Lib.hid (HPF.out.trans hgf)
    clear hgf HPF
    simp only [fltV]
    go_wp2_with fail
    refine bodyPost_ret (results_cell_row rfl _ _ (w.heap.size + 1) 30 _ (0, 0) _ rfl (HF4.out.set (.int .i64 f.1) (.int .i64 f.2)).1 Try.underlying30 rfl (by kernel_rfl)) rfl ?_
    exact ⟨by rw [HPF2.out]; rfl, (HF4.out.set _ _).2⟩
  · have HPF := Lib.hid (show planF t p = taskFault t by unfold planF; rw [if_neg hc])
    have hc2 : ((taskFault t).1 == 0) = false := by simpa using hc
    clear hc
    generalize hfe : taskFault t = f at hc2 HF3 HB3 HP3 d0 d1 d2 d3 e0 e1 z0 z1 hF hbx ⊢
    have HPF2 := Lib.hid (HPF.out.trans hfe)
    clear hfe HB3 HP3 HPF
    simp only [fltV]
    go_wp2_with fail
    refine bodyPost_ret (results_cell_row rfl _ _ (w.heap.size + 1) 30 _ (0, 0) _ rfl (HF3.out.set (.int .i64 f.1) (.int .i64 f.2)).1 Try.underlying30 rfl (by kernel_rfl)) rfl ?_
    exact ⟨by rw [HPF2.out]; rfl, (HF3.out.set _ _).2⟩

/-! ### Works -/
theorem contains_swap {w : World} {vs vp : Value} {s part : List Int} {b : Bool} (hs : Ints w vs s) (hp : Ints w vp part) (ss : s.Pairwise (· < ·)) (sp : part.Pairwise (· < ·)) (hb : subB part s = b) :
    Calls Try.prog 105 #[vs, vp] w fun e w' => e = .returned (.bool b) ∧ w' = w := by
  subst hb; exact (contains_any w vs vp s part hs hp ss sp).mono (fun _ _ h => ⟨h.1, h.2.symm⟩)

set_option maxRecDepth 100000 in
set_option maxHeartbeats 1000000 in
theorem works_any (w : World) (vi vg vo vs vp : Value) (t : Tsk) (x : Nat) (q : List Nat) (h : TaskAt w vi vg vo t) (ok : t.Ok) (hg : Good t.n x) (hs : Ints w vs (facts x)) (hp : Ints w vp (intsP q)) (hin : ∀ j ∈ q, j < t.ops.length) (hl : q.length ≤ 1000) :
    Calls Try.prog 74 #[.agg #[.int .i64 t.n, vi, vg, vo], vs, vp] w fun e w' => e = .returned (.bool (worksB t x q)) ∧ Keeps (fun _ => False) w w' := by
  obtain ⟨ai, ci, h1, _⟩ := h.init.form
  obtain ⟨ag, cg, h2, _⟩ := h.goal.form
  obtain ⟨ao, co, h3, hmo⟩ := h.ops.form
  subst h1 h2 h3
  obtain ⟨aa, cs, h4, _⟩ := hs.form
  obtain ⟨ap, cp, h5, _⟩ := hp.form
  have hql : (intsP q).length = q.length := by unfold intsP; rw [List.length_map]
  rw [hql] at h5
  subst h4 h5
  have KA := (Keeps.refl (fun _ => False) w).alloc (.cells #[.int .i64 t.n, .slice ai t.init.length ci, .slice ag t.goal.length cg, .slice ao t.ops.length co] 25)
  have HB := Lib.hid (Four.new w (.int .i64 t.n) (.slice ai t.init.length ci) (.slice ag t.goal.length cg) (.slice ao t.ops.length co) 25)
  have HT := Lib.hid (h.keeps0 KA); have HS := Lib.hid (show Ints _ (.slice aa (facts x).length cs) (facts x) from hs.keeps0 KA); have HP := Lib.hid (show Ints _ (.slice ap q.length cp) (intsP q) from hp.keeps0 KA); have K1 := Lib.hid KA
  have OK := Lib.hid ok; have GX := Lib.hid hg; have HIN := Lib.hid hin
  clear h hs hp ok hg hin KA hql
  go_enter Try.func74, Try.ntmps74
  go_upto_region 1 with fail
  generalize (w.alloc (.cells #[.int .i64 t.n, .slice ai t.init.length ci, .slice ag t.goal.length cg, .slice ao t.ops.length co] 25)) = w1 at HB HT HS HP K1 ⊢
  generalize w.heap.size = bt at HB ⊢
  have hbx := HB.out.lt
  obtain ⟨d0, d1, d2, d3⟩ := HB.out
  go_wp2_with fail
  refine (run_any _ _ _ _ _ _ t x q HT.out OK.out GX.out HS.out HP.out HIN.out hl).mono ?_; rintro e w2 ⟨v, us, rfl, hrow, hk⟩
  have HB2 := Lib.hid (HB.out.keeps0 hk); have HT2 := Lib.hid (HT.out.keeps0 hk); have K2 := Lib.hid (K1.out.trans hk); have HL := Lib.hid hrow.lists
  obtain ⟨ar, cr, har⟩ := ownsRow_form1 hrow.out
  clear d0 d1 d2 d3 hbx hk HB HT HS HP K1
  have hW : IntKind.i64.wrap ((q.length : Int) + 1) = (q.length : Int) + 1 := IntWalk.i64_in _ (by omega)
  have hbx := HB2.out.lt
  obtain ⟨d0, d1, d2, d3⟩ := HB2.out
  cases hr : runOps (wordsOf t.ops) x q with
  | none =>
    have hsh := playL_short hr
    generalize (playL (wordsOf t.ops) x q).length = nn at hsh har
    subst har
    have htest : ((nn : Int) == (q.length : Int) + 1) = false := by simp; omega
    have HWB := Lib.hid (show worksB t x q = false by unfold worksB; rw [hr])
    clear hr hsh hrow
    go_upto_region 2 with fail
    go_quiet (fail)
    have KD := Lib.hid (K2.out.drewN nq)
    generalize w2.drewN nq = w3 at KD ⊢
    go_wp2_with fail
    go_ret
    exact ⟨by rw [HWB.out]; rfl, KD.out⟩
  | some y =>
    obtain ⟨hln, hlast⟩ := playL_run hr
    have HGY := Lib.hid (good_run OK.out q GX.out hr)
    rw [hln] at har
    subst har
    have HLC := Lib.hid (HL.out.cell rfl)
    have hcnt : ((playL (wordsOf t.ops) x q).map facts).length = q.length + 1 := by rw [List.length_map, hln]
    obtain ⟨bl, ol, rfl, hc⟩ := HLC.out (by omega)
    obtain ⟨u, hu, hiu⟩ := hc q.length (facts y) (by rw [List.getElem?_map, hlast]; rfl)
    obtain ⟨au, cu, hfu, _⟩ := hiu.form
    subst hfu
    have HU := Lib.hid hiu
    have htest : (((q.length + 1 : Nat) : Int) == (q.length : Int) + 1) = true := by simp
    have HSB := Lib.hid (show subB t.goal (facts y) = goalB (wd t.goal) y from goalW_goalB OK.out HGY.out)
    have HGS := Lib.hid (isSet_iff.1 OK.out.goal).2
    have i0 : (0 : Int) ≤ (q.length : Int) := by omega
    have i1 : (q.length : Int) < ((q.length + 1 : Nat) : Int) := by omega
    have HWB := Lib.hid (show worksB t x q = goalB (wd t.goal) y by unfold worksB; rw [hr])
    clear hr hln hlast hrow hc hiu hcnt
    go_upto_region 2 with fail
    go_quiet ((go_at_call 105; exact Calls.quiet_of_same (contains_swap (b := goalB (wd t.goal) y) HU.out HT2.out.goal (facts_sorted y) HGS.out HSB.out)))
    have KD := Lib.hid (K2.out.drewN nq)
    generalize w2.drewN nq = w3 at KD ⊢
    go_wp2_with fail
    go_ret
    exact ⟨by rw [HWB.out]; rfl, KD.out⟩

end Go.Proofs.Ytdonadeodioplaa
