/- symbolic's sets: without, set, free, image, before. symbolic's sets: newSets. Symbolic search, in plain Lean: what image says; the layers. Symbolic search, in plain Lean: states by the number of steps that they need. symbolic.Layers: its memory between the steps. CostOf: the cost of a plan. novelty.Plan. A search by novelty of a width that no state exceeds finds a plan if there is one, in plain words. symbolic.Layers. No condition beyond what each theorem says. -/
import Derived.Test.YtjcgkmodmjckjaaGreatQ6
import Derived.Test.YtjcgkmodmjckjaaGreatQ5
import Derived.Test.YtjcgkmodmjckjaaGreatQ4
import Derived.Test.YtjcgkmodmjckjaaGreatQ1
import Derived.Test.YtjcgkmodmjckjaaGreatQ3
import Derived.BigQuiet

namespace Go.Proofs.YtjcgkmodmjckjaaGreat
open Go.RowKit

theorem StS.drew {w0 w : World} {ss sb L : Nat} {N : List Dn} {G : Nat → Prop} {n : Int} {vi vg vo : Value} {gk : Nat} (h : StS w0 w ss sb L N G n vi vg vo gk) : StS w0 w.drew ss sb L N G n vi vg vo gk := h.keeps0 ((Keeps.refl (fun _ => False) w).drew)

set_option maxRecDepth 100000 in
set_option maxHeartbeats 2000000 in
theorem without_any (w0 w : World) (ss sb L : Nat) (N : List Dn) (G : Nat → Prop) (n : Int) (vi vg vo : Value) (gk : Nat) (a b : Nat) (h : StS w0 w ss sb L N G n vi vg vo gk) (hL : L ≤ 24) (ha : a < N.length + 2) (hb : b < N.length + 2) (hbig : low N + 2000000 ≤ 5800000000000) :
    Calls Tryz.prog 30 #[.pointer (some ⟨ss, 0, none⟩), .int .i64 (a : Int), .int .i64 (b : Int)] w (StR w0 w ss sb L N G n vi vg vo gk (524287 + opC a) (a = 0) (fun m => dv N a m && !dv N b m)) := by
  have HS := Lib.hid h.drew
  obtain ⟨c0, l0⟩ := h.c0
  have c1 := HS.out.c0.1
  have HC1 := Lib.hid (not_any w.drew sb L N G b HS.out.dg hL hb (by have := lowB_le L (lev L N b); omega))
  have HA := Lib.hid (show a < N.length + 2 from ha)
  have HB := Lib.hid (show low N + 2000000 ≤ 5800000000000 from hbig)
  have HK := Lib.hid ((Keeps.refl G w).drew)
  clear h ha hb hbig
  go_enter Tryz.func30, Tryz.ntmps30
  go_upto_region 1 with fail
  go_region_held3 (fun w' => w'.cell? ⟨ss, 0, none⟩ = some (.pointer (some ⟨sb, 0, none⟩)))
    (go_keep)
    (first
      | (go_at_call 40; refine HC2.out.mono ?_; rintro en w6 ⟨k2, N2, G2, rfl, hp2, hz2, hd2, hk2, hn2⟩; have HP2 := Lib.hid hp2; have HZ2 := Lib.hid hz2; have HS2 := Lib.hid (HS1.out.op hd2 hk2 hn2); have HK2 := Lib.hid hk2; have HN2 := Lib.hid hn2; have u1 := HS2.out.c0.1; clear hp2 hz2 hd2 hk2 hn2)
      | (go_at_call 70; refine HC1.out.mono ?_; rintro en w5 ⟨k1, N1, G1, rfl, hp1, hd1, hk1, hn1⟩; have HP1 := Lib.hid hp1; have HS1 := Lib.hid (HS.out.op hd1 hk1 hn1); have HK1 := Lib.hid hk1; have HN1 := Lib.hid hn1; have t1 := HS1.out.c0.1; have HC2 := Lib.hid (andz_any w5 sb L N1 G1 a k1 hd1 hL (by have := hp1.le.len; have := HA.out; omega) hp1.lt (by have h1 := hp1.cnt; have h2 := lowB_le L (lev L N b); have h3 := HB.out; have h4 := opC_le a; omega)); clear hp1 hd1 hk1 hn1))
  all_goals
    go_wp2_with fail
    go_ret
    exact ⟨k2, N2, G2, rfl, (HP1.out.trans HP2.out).weak (by have := lowB_le L (lev L N b); omega) (Nat.zero_le _) (fun m => by rw [HP1.out.le.dv HS.out.dg.ok HA.out, HP1.out.val]; rfl), HZ2.out, HS2.out, (HK.out.trans HK1.out).trans' HK2.out HN1.out, news HN1.out HN2.out HK1.out.size⟩

theorem opC_mono {a k : Nat} (h : a = 0 → k = 0) : opC k ≤ opC a := by
  unfold opC
  by_cases h0 : a = 0
  · rw [if_pos h0, if_pos (h h0)]; exact Nat.le_refl _
  · rw [if_neg h0]; split <;> omega

set_option maxRecDepth 100000 in
set_option maxHeartbeats 4000000 in
theorem set_any (w0 w : World) (ss sb L : Nat) (N : List Dn) (G : Nat → Prop) (n : Int) (vi vg vo : Value) (gk : Nat) (a : Nat) (vp va vd : Value) (cst : Int) (add del : List Int) (h : StS w0 w ss sb L N G n vi vg vo gk) (hL : L ≤ 24) (ha : a < N.length + 2) (hia : Ints w0 va add) (hid : Ints w0 vd del) (hra : ∀ p ∈ add, 0 ≤ p ∧ p < (L : Int)) (hrd : ∀ p ∈ del, 0 ≤ p ∧ p < (L : Int)) (hbig : low N + (add.length + del.length) * (1 + opC a) + 2 ≤ 5800000000000) :
    Calls Tryz.prog 68 #[.pointer (some ⟨ss, 0, none⟩), .int .i64 (a : Int), .agg #[vp, va, vd, .int .i64 cst]] w (StR w0 w ss sb L N G n vi vg vo gk ((add.length + del.length) * (1 + opC a)) (a = 0) (litS false del (litS true add (dv N a)))) := by
  obtain ⟨aa, ca, h1, ma⟩ := hia.form
  obtain ⟨ad, cd, h2, md⟩ := hid.form
  subst h1 h2
  have HPA := Lib.hid hia; have HPD := Lib.hid hid; have HRA := Lib.hid hra; have HRD := Lib.hid hrd
  have hsum : add.length * (1 + opC a) + del.length * (1 + opC a) = (add.length + del.length) * (1 + opC a) := (Nat.add_mul _ _ _).symm
  have HBG2 := Lib.hid (show low N + (add.length * (1 + opC a) + del.length * (1 + opC a)) + 2 ≤ 5800000000000 from by omega)
  have HBG := Lib.hid (show low N + (0 + add.length * (1 + opC a)) + 2 ≤ 5800000000000 from by omega)
  have HSUM := Lib.hid hsum
  have KB := (Keeps.refl (fun _ => False) w).alloc (.cells #[vp, .slice aa add.length ca, .slice ad del.length cd, .int .i64 cst] 72)
  have HXB := Lib.hid (heap_alloc_new w (.cells #[vp, .slice aa add.length ca, .slice ad del.length cd, .int .i64 cst] 72))
  have HBN := Lib.hid (show ¬ G w.heap.size from fun h' => by have := h.dg.bnd _ h'; omega)
  have HP0 := Lib.hid (show DgPost L N N a 0 0 (dv N a) from .same h.dg.ok ha (fun _ => rfl) (Nat.zero_le _))
  have HZ0 := Lib.hid (show a = 0 → a = 0 from fun h => h)
  have HS0 := Lib.hid (h.keeps0 KB); have HKB := Lib.hid (KB.mono (S' := G) (fun _ _ h => h.elim))
  clear h hia hid hra hrd hbig ha KB hsum
  go_enter Tryz.func68, Tryz.ntmps68
  go_upto_region 1 with fail
  generalize (w.alloc (.cells #[vp, .slice aa add.length ca, .slice ad del.length cd, .int .i64 cst] 72)) = w1 at HXB HS0 HKB ⊢
  generalize w.heap.size = bx at HBN HXB ⊢
  have HK0 := Lib.hid (Keeps.refl G w1); have HN0 := Lib.hid (show ∀ q, G q → G q ∨ w1.heap.size ≤ q from fun q h => .inl h)
  have x1 : w1.cell? ⟨bx, 1, none⟩ = some (.slice aa add.length ca) := (cell_of_blk HXB.out).trans rfl
  have x2 : w1.cell? ⟨bx, 2, none⟩ = some (.slice ad del.length cd) := (cell_of_blk HXB.out).trans rfl
  have xl := lt_of_heap HXB.out
  go_wp2_with fail
  go_loopw [1, 14] (fun av iv wr => ∃ (j k : Nat) (N' : List Dn) (G' : Nat → Prop), iv = .int .i64 (j : Int) ∧ j ≤ add.length ∧ av = .int .i64 (k : Int) ∧ DgPost L N N' k (0 + j * (1 + opC a)) 0 (litS true (add.take j) (dv N a)) ∧ (a = 0 → k = 0) ∧ StS w0 wr ss sb L N' G' n vi vg vo gk ∧ Keeps G w1 wr ∧ ∀ q, G' q → G q ∨ w1.heap.size ≤ q) (fun _ iv _ => add.length - (intOf iv).toNat)
  case atStart => exact ⟨0, _, _, _, rfl, Nat.zero_le _, rfl, HP0.out.weak (by omega) (Nat.zero_le _) (fun m => by rw [List.take_zero, litS_nil]), HZ0.out, HS0.out, HK0.out, HN0.out⟩
  case round =>
    obtain ⟨j, k, N', G', rfl, hj, rfl, hp, hz, hs, hk, hn⟩ := hrel
    have HP := Lib.hid hp; have HZ := Lib.hid hz; have HS := Lib.hid hs; have HK := Lib.hid hk; have HN := Lib.hid hn
    clear hp hz hs hk hn
    by_cases hlt : j < add.length
    · obtain ⟨bb, bo, hao, hcell⟩ := HPA.out.cell rfl (by omega)
      cases hao
      obtain ⟨p, hp⟩ : ∃ p, add[j]? = some p := ⟨_, List.getElem?_eq_getElem hlt⟩
      have hpr := HRA.out p (List.mem_of_getElem? hp)
      obtain ⟨x, rfl⟩ := Int.eq_ofNat_of_zero_le hpr.1
      have hxL : x < L := by have := hpr.2; omega
      have HX := Lib.hid hp
      have hc := HS.out.k0.cell (hcell j _ hp) (fun h => h)
      have i0' : (0 : Int) ≤ (j : Int) := by omega
      have i1' : (j : Int) < (add.length : Int) := by omega
      have HLT := Lib.hid hlt
      have HCST := Lib.hid (show low N' ≤ low N + (0 + j * (1 + opC a)) from HP.out.cnt)
      have HMUL := Lib.hid (show j * (1 + opC a) + (1 + opC a) ≤ add.length * (1 + opC a) from by rw [← Nat.succ_mul]; exact Nat.mul_le_mul_right _ hlt)
      have HS1 := Lib.hid HS.out.drew
      have HC1 := Lib.hid (literal_any wr.drew sb L N' G' x true HS1.out.dg hL hxL (by have h1 := HCST.out; have h2 := HMUL.out; have h3 := HBG.out; omega))
      have c1 := HS1.out.c0.1
      obtain ⟨c0, l0⟩ := HS.out.c0
      clear hcell hp hpr hlt
      go_upto_region 4 with fail
      go_region_held3 (fun w' => w'.cell? ⟨ss, 0, none⟩ = some (.pointer (some ⟨sb, 0, none⟩)))
        (go_keep)
        (first
          | (go_at_call 40; refine HC2.out.mono ?_; rintro en w6 ⟨k2, N2, G2, rfl, hp2, hz2, hd2, hk2, hn2⟩; have HP2 := Lib.hid hp2; have HZ2 := Lib.hid hz2; have HS3 := Lib.hid (HS2.out.op hd2 hk2 hn2); have HK2 := Lib.hid hk2; have HN2 := Lib.hid hn2; have u1 := HS3.out.c0.1; clear hp2 hz2 hd2 hk2 hn2)
          | (go_at_call 63; refine HC1.out.mono ?_; rintro en w5 ⟨k1, N1, G1, rfl, hp1, hd1, hk1, hn1⟩; have HP1 := Lib.hid hp1; have HS2 := Lib.hid (HS1.out.op hd1 hk1 hn1); have HK1 := Lib.hid hk1; have HN1 := Lib.hid hn1; have t1 := HS2.out.c0.1; have HC2 := Lib.hid (andz_any w5 sb L N1 G1 k k1 hd1 hL (by have := hp1.le.len; have := HP.out.lt; omega) hp1.lt (by have h1 := hp1.cnt; have h2 := nb_le x; have h3 := HCST.out; have h4 := HMUL.out; have h5 := HBG.out; have h6 : opC k ≤ opC a := opC_mono HZ.out; omega)); clear hp1 hd1 hk1 hn1))
      all_goals
        go_wp2_with fail
        go_roundw
        case rel =>
          have h6 : opC k ≤ opC a := opC_mono HZ.out
          refine ⟨j + 1, k2, N2, G2, by go_num, HLT.out, rfl, (lit_step HP.out HP1.out HP2.out HX.out).weak (by rw [Nat.succ_mul]; omega) (Nat.zero_le _) (fun _ => rfl), fun h0 => HZ2.out (HZ.out h0), HS3.out, (HK.out.trans' (Keeps.trans ((Keeps.refl G' wr).drew) HK1.out) HN.out).trans' HK2.out (news HN.out HN1.out HK.out.size), news (news HN.out HN1.out HK.out.size) HN2.out (HK.out.trans' (Keeps.trans ((Keeps.refl G' wr).drew) HK1.out) HN.out).size⟩
        case measure => simp [intOf]; have := HLT.out; omega
    · have hje : j = add.length := by omega
      subst hje
      clear hlt
      have HXW := Lib.hid (HK.out.heap HXB.out HBN.out)
      have hpf := HP.out
      rw [List.take_of_length_le (Nat.le_refl _)] at hpf
      clear x1 x2 xl HP0 HZ0 HS0 HK0 HN0 HBG
      have HP0 := Lib.hid hpf; have HZ0 := HZ; have HS0 := HS; have HK0 := HK; have HN0 := HN
      clear hpf HP HZ HS HK HN
      have x2 : wr.cell? ⟨bx, 2, none⟩ = some (.slice ad del.length cd) := (cell_of_blk HXW.out).trans rfl
      have xl := lt_of_heap HXW.out
      have HBG := Lib.hid (show low N + ((0 + add.length * (1 + opC a)) + del.length * (1 + opC a)) + 2 ≤ 5800000000000 from by have := HBG2.out; omega)
      go_wp2_with fail
      go_loopw [1, 34] (fun av iv wr => ∃ (j k : Nat) (N' : List Dn) (G' : Nat → Prop), iv = .int .i64 (j : Int) ∧ j ≤ del.length ∧ av = .int .i64 (k : Int) ∧ DgPost L N N' k ((0 + add.length * (1 + opC a)) + j * (1 + opC a)) 0 (litS false (del.take j) (litS true add (dv N a))) ∧ (a = 0 → k = 0) ∧ StS w0 wr ss sb L N' G' n vi vg vo gk ∧ Keeps G w1 wr ∧ ∀ q, G' q → G q ∨ w1.heap.size ≤ q) (fun _ iv _ => del.length - (intOf iv).toNat)
      case atStart => exact ⟨0, _, _, _, rfl, Nat.zero_le _, rfl, HP0.out.weak (by omega) (Nat.zero_le _) (fun m => by rw [List.take_zero, litS_nil]), HZ0.out, HS0.out, HK0.out, HN0.out⟩
      case round =>
        obtain ⟨j, k, N', G', rfl, hj, rfl, hp, hz, hs, hk, hn⟩ := hrel
        have HP := Lib.hid hp; have HZ := Lib.hid hz; have HS := Lib.hid hs; have HK := Lib.hid hk; have HN := Lib.hid hn
        clear hp hz hs hk hn
        by_cases hlt : j < del.length
        · obtain ⟨bb, bo, hao, hcell⟩ := HPD.out.cell rfl (by omega)
          cases hao
          obtain ⟨p, hp⟩ : ∃ p, del[j]? = some p := ⟨_, List.getElem?_eq_getElem hlt⟩
          have hpr := HRD.out p (List.mem_of_getElem? hp)
          obtain ⟨x, rfl⟩ := Int.eq_ofNat_of_zero_le hpr.1
          have hxL : x < L := by have := hpr.2; omega
          have HX := Lib.hid hp
          have hc := HS.out.k0.cell (hcell j _ hp) (fun h => h)
          have i0' : (0 : Int) ≤ (j : Int) := by omega
          have i1' : (j : Int) < (del.length : Int) := by omega
          have HLT := Lib.hid hlt
          have HCST := Lib.hid (show low N' ≤ low N + ((0 + add.length * (1 + opC a)) + j * (1 + opC a)) from HP.out.cnt)
          have HMUL := Lib.hid (show j * (1 + opC a) + (1 + opC a) ≤ del.length * (1 + opC a) from by rw [← Nat.succ_mul]; exact Nat.mul_le_mul_right _ hlt)
          have HS1 := Lib.hid HS.out.drew
          have HC1 := Lib.hid (literal_any wr.drew sb L N' G' x false HS1.out.dg hL hxL (by have h1 := HCST.out; have h2 := HMUL.out; have h3 := HBG.out; omega))
          have c1 := HS1.out.c0.1
          obtain ⟨c0, l0⟩ := HS.out.c0
          clear hcell hp hpr hlt
          go_upto_region 9 with fail
          go_region_held3 (fun w' => w'.cell? ⟨ss, 0, none⟩ = some (.pointer (some ⟨sb, 0, none⟩)))
            (go_keep)
            (first
              | (go_at_call 40; refine HC2.out.mono ?_; rintro en w6 ⟨k2, N2, G2, rfl, hp2, hz2, hd2, hk2, hn2⟩; have HP2 := Lib.hid hp2; have HZ2 := Lib.hid hz2; have HS3 := Lib.hid (HS2.out.op hd2 hk2 hn2); have HK2 := Lib.hid hk2; have HN2 := Lib.hid hn2; have u1 := HS3.out.c0.1; clear hp2 hz2 hd2 hk2 hn2)
              | (go_at_call 63; refine HC1.out.mono ?_; rintro en w5 ⟨k1, N1, G1, rfl, hp1, hd1, hk1, hn1⟩; have HP1 := Lib.hid hp1; have HS2 := Lib.hid (HS1.out.op hd1 hk1 hn1); have HK1 := Lib.hid hk1; have HN1 := Lib.hid hn1; have t1 := HS2.out.c0.1; have HC2 := Lib.hid (andz_any w5 sb L N1 G1 k k1 hd1 hL (by have := hp1.le.len; have := HP.out.lt; omega) hp1.lt (by have h1 := hp1.cnt; have h2 := nb_le x; have h3 := HCST.out; have h4 := HMUL.out; have h5 := HBG.out; have h6 : opC k ≤ opC a := opC_mono HZ.out; omega)); clear hp1 hd1 hk1 hn1))
          all_goals
            go_wp2_with fail
            go_roundw
            case rel =>
              have h6 : opC k ≤ opC a := opC_mono HZ.out
              refine ⟨j + 1, k2, N2, G2, by go_num, HLT.out, rfl, (lit_step HP.out HP1.out HP2.out HX.out).weak (by rw [Nat.succ_mul]; omega) (Nat.zero_le _) (fun _ => rfl), fun h0 => HZ2.out (HZ.out h0), HS3.out, (HK.out.trans' (Keeps.trans ((Keeps.refl G' wr).drew) HK1.out) HN.out).trans' HK2.out (news HN.out HN1.out HK.out.size), news (news HN.out HN1.out HK.out.size) HN2.out (HK.out.trans' (Keeps.trans ((Keeps.refl G' wr).drew) HK1.out) HN.out).size⟩
            case measure => simp [intOf]; have := HLT.out; omega
        · have hje : j = del.length := by omega
          subst hje
          clear hlt
          go_wp2_with fail
          go_ret
          have hpf := HP.out
          rw [List.take_of_length_le (Nat.le_refl _)] at hpf
          exact ⟨k, N', G', rfl, hpf.weak (by have := HSUM.out; omega) (Nat.zero_le _) (fun _ => rfl), HZ.out, HS.out, HKB.out.trans HK.out, fun q hq => (HN.out q hq).imp (fun h => h) (fun h => Nat.le_trans HKB.out.size h)⟩

set_option maxRecDepth 100000 in
set_option maxHeartbeats 4000000 in
theorem free_any (w0 w : World) (ss sb L : Nat) (N : List Dn) (G : Nat → Prop) (n : Int) (vi vg vo : Value) (gk : Nat) (a : Nat) (vp va vd : Value) (cst : Int) (add del : List Int) (h : StS w0 w ss sb L N G n vi vg vo gk) (hL : L ≤ 24) (ha : a < N.length + 2) (hia : Ints w0 va add) (hid : Ints w0 vd del) (hra : ∀ p ∈ add, 0 ≤ p ∧ p < (L : Int)) (hrd : ∀ p ∈ del, 0 ≤ p ∧ p < (L : Int)) (hfew : add.length + del.length ≤ 1000) (hbig : low N + (add.length + del.length) * opC a ≤ 5800000000000) :
    Calls Tryz.prog 69 #[.pointer (some ⟨ss, 0, none⟩), .int .i64 (a : Int), .agg #[vp, va, vd, .int .i64 cst]] w (StR w0 w ss sb L N G n vi vg vo gk ((add.length + del.length) * opC a) (a = 0) (exsT (add ++ del) (dv N a))) := by
  obtain ⟨aa, ca, h1, ma⟩ := hia.form
  obtain ⟨ad, cd, h2, md⟩ := hid.form
  subst h1 h2
  obtain ⟨ps, hps⟩ : ∃ ps, add ++ del = ps := ⟨_, rfl⟩
  have hpl : ps.length = add.length + del.length := by rw [← hps, List.length_append]
  have HRG := Lib.hid (show ∀ p ∈ ps, 0 ≤ p ∧ p < (L : Int) from fun p hp => by rw [← hps] at hp; exact (List.mem_append.1 hp).elim (hra p) (hrd p))
  rw [hps, ← hpl]
  rw [← hpl] at hbig hfew
  have HBG := Lib.hid hbig
  have K1 := (Keeps.refl (fun _ => False) w).alloc (.cells #[vp, .slice aa add.length ca, .slice ad del.length cd, .int .i64 cst] 72)
  have K2 := (Keeps.refl (fun _ => False) (w.alloc (.cells #[vp, .slice aa add.length ca, .slice ad del.length cd, .int .i64 cst] 72))).alloc (.cells #[.slice aa add.length ca, .slice ad del.length cd] 22)
  have hb2 := heap_alloc_new (w.alloc (.cells #[vp, .slice aa add.length ca, .slice ad del.length cd, .int .i64 cst] 72)) (.cells #[.slice aa add.length ca, .slice ad del.length cd] 22)
  rw [World.size_alloc] at hb2
  have k02 := (h.k0.trans K1).trans K2
  have HLS := Lib.hid (show Lists ((w.alloc (.cells #[vp, .slice aa add.length ca, .slice ad del.length cd, .int .i64 cst] 72)).alloc (.cells #[.slice aa add.length ca, .slice ad del.length cd] 22)) (.slice (some ⟨w.heap.size + 1, 0, none⟩) 2 2) [add, del] from
    ⟨some ⟨w.heap.size + 1, 0, none⟩, 2, rfl, by unfold maxLen; simp, fun _ => ⟨w.heap.size + 1, 0, rfl, fun i l hl => by
      match i, hl with
      | 0, hl => cases hl; exact ⟨_, (cell_of_blk hb2).trans rfl, hia.keeps0 k02⟩
      | 1, hl => cases hl; exact ⟨_, (cell_of_blk hb2).trans rfl, hid.keeps0 k02⟩
      | i + 2, hl => simp at hl⟩⟩)
  have HCC := Lib.hid (concat_any _ _ [add, del] HLS.out (by simp) (by simp; omega))
  have HFL := Lib.hid (show [add, del].flatten = ps from by simp [← hps])
  have HBD := Lib.hid h.dg.bnd
  have HP0 := Lib.hid (show DgPost L N N a 0 0 (dv N a) from .same h.dg.ok ha (fun _ => rfl) (Nat.zero_le _))
  have HS := Lib.hid h; have HK12 := Lib.hid (K1.trans K2)
  clear h hia hid hra hrd hbig ha K1 K2 hb2 k02 hpl HLS
  go_enter Tryz.func69, Tryz.ntmps69
  go_wp2_with fail
  refine HCC.out.mono ?_; rintro e w3 ⟨vr, rfl, hown, hk3⟩
  rw [HFL.out] at hown
  have HKB := Lib.hid (HK12.out.trans hk3)
  have HRW := Lib.hid hown
  have HS3 := Lib.hid (HS.out.keeps0 HKB.out)
  clear hown hk3 HCC HK12 HS
  obtain ⟨av, cv, hv⟩ := ownsRow_form1 HRW.out
  subst hv
  have HNG := Lib.hid (show ∀ q, (Value.slice av ps.length cv).ownBlock = some q → ¬ G q from fun q hq hG => by
    have h1 := (World.ownsRow.lt HRW.out q hq).1; have h2 := HBD.out q hG; simp only [World.size_alloc] at h1; omega)
  have HII := Lib.hid (show Ints w3 (.slice av ps.length cv) ps from Sl.of_own HRW.out)
  go_wp2_with fail
  go_loopw [1, 16] (fun kv iv wr => ∃ (j k : Nat) (N' : List Dn) (G' : Nat → Prop), iv = .int .i64 (j : Int) ∧ j ≤ ps.length ∧ kv = .int .i64 (k : Int) ∧ DgPost L N N' k (j * opC a) 0 (exsT (ps.take j) (dv N a)) ∧ (a = 0 → k = 0) ∧ StS w0 wr ss sb L N' G' n vi vg vo gk ∧ Keeps G w3 wr ∧ ∀ q, G' q → G q ∨ w3.heap.size ≤ q) (fun _ iv _ => ps.length - (intOf iv).toNat)
  case atStart => exact ⟨0, a, N, G, rfl, Nat.zero_le _, rfl, HP0.out.weak (by omega) (Nat.zero_le _) (fun m => rfl), fun h => h, HS3.out, Keeps.refl _ _, fun q h => .inl h⟩
  case round =>
    obtain ⟨j, k, N', G', rfl, hj, rfl, hp, hz, hs, hk, hn⟩ := hrel
    have HP := Lib.hid hp; have HZ := Lib.hid hz; have HS := Lib.hid hs; have HK := Lib.hid hk; have HN := Lib.hid hn
    clear hp hz hs hk hn
    by_cases hlt : j < ps.length
    · obtain ⟨bb, bo, hao, hcell⟩ := HII.out.cell rfl (by omega)
      cases hao
      obtain ⟨p, hp⟩ : ∃ p, ps[j]? = some p := ⟨_, List.getElem?_eq_getElem hlt⟩
      have hpr := HRG.out p (List.mem_of_getElem? hp)
      obtain ⟨x, rfl⟩ := Int.eq_ofNat_of_zero_le hpr.1
      have hxL : x < L := by have := hpr.2; omega
      have HX := Lib.hid hp
      have hc := HK.out.cell (hcell j _ hp) (HNG.out _ rfl)
      have i0' : (0 : Int) ≤ (j : Int) := by omega
      have i1' : (j : Int) < (ps.length : Int) := by omega
      have HLT := Lib.hid hlt
      have HCST := Lib.hid (show low N' ≤ low N + (j * opC a) from HP.out.cnt)
      have HMUL := Lib.hid (show j * opC a + opC a ≤ ps.length * opC a from by rw [← Nat.succ_mul]; exact Nat.mul_le_mul_right _ hlt)
      have HMO := Lib.hid (show opC k ≤ opC a from opC_mono HZ.out)
      have HC1 := Lib.hid (exz_any wr sb L x N' G' k HS.out.dg hL hxL HP.out.lt (by have h1 := HCST.out; have h2 := HMUL.out; have h3 := HBG.out; have h4 := HMO.out; omega))
      obtain ⟨c0, l0⟩ := HS.out.c0
      clear hcell hp hpr hlt
      go_wp2_with fail
      refine HC1.out.mono ?_; rintro e w5 ⟨k1, N1, G1, rfl, hp1, hz1, hd1, hk1, hn1⟩
      have HP1 := Lib.hid hp1; have HZ1 := Lib.hid hz1; have HS1 := Lib.hid (HS.out.op hd1 hk1 hn1); have HK1 := Lib.hid hk1; have HN1 := Lib.hid hn1
      clear hp1 hz1 hd1 hk1 hn1
      go_wp2_with fail
      go_roundw
      case rel => exact ⟨j + 1, k1, N1, G1, by go_num, HLT.out, rfl, (exs_step HP.out HP1.out).weak (by have := HMO.out; rw [Nat.succ_mul]; omega) (Nat.zero_le _) (fun m => by rw [take_getS HX.out, exsT_snoc]), fun h0 => HZ1.out (HZ.out h0), HS1.out, HK.out.trans' HK1.out HN.out, news HN.out HN1.out HK.out.size⟩
      case measure => simp [intOf]; have := HLT.out; omega
    · have hje : j = ps.length := by omega
      subst hje
      clear hlt
      go_wp2_with fail
      go_ret
      have hpf := HP.out
      rw [List.take_of_length_le (Nat.le_refl _)] at hpf
      exact ⟨k, N', G', rfl, hpf, HZ.out, HS.out, (HKB.out.mono (fun _ _ h => h.elim)).trans HK.out, fun q hq => (HN.out q hq).imp (fun h => h) (fun h => Nat.le_trans HKB.out.size h)⟩

set_option maxRecDepth 100000 in
set_option maxHeartbeats 4000000 in
theorem image_any (w0 w : World) (ss sb L : Nat) (N : List Dn) (G : Nat → Prop) (n : Int) (vi vg vo : Value) (gk : Nat) (a i : Nat) (ops : List Opr) (o : Opr) (h : StS w0 w ss sb L N G n vi vg vo gk) (hL : L ≤ 24) (hop : OpsAt w0 vo ops) (ho : ops[i]? = some o) (hfew : ops.length ≤ 40) (ha : a < N.length + 2) (hrp : ∀ p ∈ o.pre, 0 ≤ p ∧ p < (L : Int)) (hra : ∀ p ∈ o.add, 0 ≤ p ∧ p < (L : Int)) (hrd : ∀ p ∈ o.del, 0 ≤ p ∧ p < (L : Int)) (hlp : o.pre.length ≤ 24) (hla : o.add.length ≤ 24) (hld : o.del.length ≤ 24) (hbig : low N + (o.pre.length * (1 + opC a) + ((o.add.length + o.del.length) * opC a + (o.add.length + o.del.length) * (1 + opC a))) + 2 ≤ 5800000000000) :
    Calls Tryz.prog 29 #[.pointer (some ⟨ss, 0, none⟩), .int .i64 (a : Int), .int .i64 (i : Int)] w (StR w0 w ss sb L N G n vi vg vo gk ((o.pre.length * (1 + opC a) + ((o.add.length + o.del.length) * opC a + (o.add.length + o.del.length) * (1 + opC a)))) (a = 0) (litS false o.del (litS true o.add (exsT (o.add ++ o.del) (litS true o.pre (dv N a)))))) := by
  have hil : i < ops.length := (List.getElem?_eq_some_iff.1 ho).1
  obtain ⟨aw, cw, hvo, hmo⟩ := hop.form
  subst hvo
  obtain ⟨bo, oo, hao, hcell⟩ := hop.cell rfl (by omega)
  cases hao
  obtain ⟨vp, va, vd, p0, p1, p2, p3, i1, i2, i3⟩ := hcell i o ho
  obtain ⟨ap, cp, hvp, mp⟩ := i1.form
  obtain ⟨aa, ca, hva, ma⟩ := i2.form
  obtain ⟨ad, cd, hvd, md⟩ := i3.form
  subst hvp hva hvd
  have HIP := Lib.hid i1; have HIA := Lib.hid i2; have HID := Lib.hid i3
  have HRP := Lib.hid hrp; have HRA := Lib.hid hra; have HRD := Lib.hid hrd; have HLN := Lib.hid (And.intro hlp (And.intro hla hld))
  have hk0 := h.k0
  have r0 := hk0.cell p0 (fun h => h); have r1 := hk0.cell p1 (fun h => h); have r2 := hk0.cell p2 (fun h => h); have r3 := hk0.cell p3 (fun h => h)
  have c4 : w.cell? ⟨ss, 4, none⟩ = some (.slice (some ⟨bo, oo, none⟩) ops.length cw) := (cell_of_blk h.blk).trans rfl
  have l0 := lt_of_heap h.blk
  have KB := (Keeps.refl (fun _ => False) w).alloc (.cells #[.slice ap o.pre.length cp, .slice aa o.add.length ca, .slice ad o.del.length cd, .int .i64 o.cost] 72)
  have HXB := Lib.hid (heap_alloc_new w (.cells #[.slice ap o.pre.length cp, .slice aa o.add.length ca, .slice ad o.del.length cd, .int .i64 o.cost] 72))
  have HBN := Lib.hid (show ¬ G w.heap.size from fun h' => by have := h.dg.bnd _ h'; omega)
  have HPA := Lib.hid (show DgPost L N N a 0 0 (dv N a) from .same h.dg.ok ha (fun _ => rfl) (Nat.zero_le _))
  have HS0 := Lib.hid (h.keeps0 KB); have HKB := Lib.hid (KB.mono (S' := G) (fun _ _ h => h.elim))
  have HBIG := Lib.hid hbig; have HAL := Lib.hid ha
  have j0 : (0 : Int) ≤ (i : Int) := by omega
  have j1 : (i : Int) < (ops.length : Int) := by omega
  clear h hop ho hfew hrp hra hrd hlp hla hld hbig ha KB hcell i1 i2 i3 p0 p1 p2 p3 hk0 hil
  go_enter Tryz.func29, Tryz.ntmps29
  go_upto_region 2 with fail
  generalize (w.alloc (.cells #[.slice ap o.pre.length cp, .slice aa o.add.length ca, .slice ad o.del.length cd, .int .i64 o.cost] 72)) = w1 at HXB HS0 HKB ⊢
  generalize w.heap.size = bx at HBN HXB ⊢
  clear r0 r1 r2 r3 c4 l0
  have HK0 := Lib.hid (Keeps.refl G w1); have HN0 := Lib.hid (show ∀ q, G q → G q ∨ w1.heap.size ≤ q from fun q h => .inl h)
  have HP0 := HPA; have HZ0 := Lib.hid (show a = 0 → a = 0 from fun h => h)
  have HBG := Lib.hid (show low N + (0 + o.pre.length * (1 + opC a)) + 2 ≤ 5800000000000 from by have := HBIG.out; omega)
  have x0 : w1.cell? ⟨bx, 0, none⟩ = some (.slice ap o.pre.length cp) := (cell_of_blk HXB.out).trans rfl
  have xl := lt_of_heap HXB.out
  go_wp2_with fail
  go_loopw [1, 21] (fun av iv wr => ∃ (j k : Nat) (N' : List Dn) (G' : Nat → Prop), iv = .int .i64 (j : Int) ∧ j ≤ o.pre.length ∧ av = .int .i64 (k : Int) ∧ DgPost L N N' k (0 + j * (1 + opC a)) 0 (litS true (o.pre.take j) (dv N a)) ∧ (a = 0 → k = 0) ∧ StS w0 wr ss sb L N' G' n vi vg (.slice (some ⟨bo, oo, none⟩) ops.length cw) gk ∧ Keeps G w1 wr ∧ ∀ q, G' q → G q ∨ w1.heap.size ≤ q) (fun _ iv _ => o.pre.length - (intOf iv).toNat)
  case atStart => exact ⟨0, _, _, _, rfl, Nat.zero_le _, rfl, HP0.out.weak (by omega) (Nat.zero_le _) (fun m => by rw [List.take_zero, litS_nil]), HZ0.out, HS0.out, HK0.out, HN0.out⟩
  case round =>
    obtain ⟨j, k, N', G', rfl, hj, rfl, hp, hz, hs, hk, hn⟩ := hrel
    have HP := Lib.hid hp; have HZ := Lib.hid hz; have HS := Lib.hid hs; have HK := Lib.hid hk; have HN := Lib.hid hn
    clear hp hz hs hk hn
    by_cases hlt : j < o.pre.length
    · obtain ⟨bb, bo, hao, hcell⟩ := HIP.out.cell rfl (by omega)
      cases hao
      obtain ⟨p, hp⟩ : ∃ p, o.pre[j]? = some p := ⟨_, List.getElem?_eq_getElem hlt⟩
      have hpr := HRP.out p (List.mem_of_getElem? hp)
      obtain ⟨x, rfl⟩ := Int.eq_ofNat_of_zero_le hpr.1
      have hxL : x < L := by have := hpr.2; omega
      have HX := Lib.hid hp
      have hc := HS.out.k0.cell (hcell j _ hp) (fun h => h)
      have i0' : (0 : Int) ≤ (j : Int) := by omega
      have i1' : (j : Int) < (o.pre.length : Int) := by omega
      have HLT := Lib.hid hlt
      have HCST := Lib.hid (show low N' ≤ low N + (0 + j * (1 + opC a)) from HP.out.cnt)
      have HMUL := Lib.hid (show j * (1 + opC a) + (1 + opC a) ≤ o.pre.length * (1 + opC a) from by rw [← Nat.succ_mul]; exact Nat.mul_le_mul_right _ hlt)
      have HS1 := Lib.hid HS.out.drew
      have HC1 := Lib.hid (literal_any wr.drew sb L N' G' x true HS1.out.dg hL hxL (by have h1 := HCST.out; have h2 := HMUL.out; have h3 := HBG.out; omega))
      have c1 := HS1.out.c0.1
      obtain ⟨c0, l0⟩ := HS.out.c0
      clear hcell hp hpr hlt
      go_upto_region 5 with fail
      go_region_held3 (fun w' => w'.cell? ⟨ss, 0, none⟩ = some (.pointer (some ⟨sb, 0, none⟩)))
        (go_keep)
        (first
          | (go_at_call 40; refine HC2.out.mono ?_; rintro en w6 ⟨k2, N2, G2, rfl, hp2, hz2, hd2, hk2, hn2⟩; have HP2 := Lib.hid hp2; have HZ2 := Lib.hid hz2; have HS3 := Lib.hid (HS2.out.op hd2 hk2 hn2); have HK2 := Lib.hid hk2; have HN2 := Lib.hid hn2; have u1 := HS3.out.c0.1; clear hp2 hz2 hd2 hk2 hn2)
          | (go_at_call 63; refine HC1.out.mono ?_; rintro en w5 ⟨k1, N1, G1, rfl, hp1, hd1, hk1, hn1⟩; have HP1 := Lib.hid hp1; have HS2 := Lib.hid (HS1.out.op hd1 hk1 hn1); have HK1 := Lib.hid hk1; have HN1 := Lib.hid hn1; have t1 := HS2.out.c0.1; have HC2 := Lib.hid (andz_any w5 sb L N1 G1 k k1 hd1 hL (by have := hp1.le.len; have := HP.out.lt; omega) hp1.lt (by have h1 := hp1.cnt; have h2 := nb_le x; have h3 := HCST.out; have h4 := HMUL.out; have h5 := HBG.out; have h6 : opC k ≤ opC a := opC_mono HZ.out; omega)); clear hp1 hd1 hk1 hn1))
      all_goals
        go_wp2_with fail
        go_roundw
        case rel =>
          have h6 : opC k ≤ opC a := opC_mono HZ.out
          refine ⟨j + 1, k2, N2, G2, by go_num, HLT.out, rfl, (lit_step HP.out HP1.out HP2.out HX.out).weak (by rw [Nat.succ_mul]; omega) (Nat.zero_le _) (fun _ => rfl), fun h0 => HZ2.out (HZ.out h0), HS3.out, (HK.out.trans' (Keeps.trans ((Keeps.refl G' wr).drew) HK1.out) HN.out).trans' HK2.out (news HN.out HN1.out HK.out.size), news (news HN.out HN1.out HK.out.size) HN2.out (HK.out.trans' (Keeps.trans ((Keeps.refl G' wr).drew) HK1.out) HN.out).size⟩
        case measure => simp [intOf]; have := HLT.out; omega
    · have hje : j = o.pre.length := by omega
      subst hje
      clear hlt
      have HXW := Lib.hid (HK.out.heap HXB.out HBN.out)
      have hpf := HP.out
      rw [List.take_of_length_le (Nat.le_refl _)] at hpf
      have HPF := Lib.hid hpf
      have KD := (Keeps.refl (fun _ => False) wr).drew
      have HSD := Lib.hid (HS.out.keeps0 KD); have HXD := Lib.hid (KD.heap HXW.out (fun h => h)); have HKD := Lib.hid (HK.out.trans (KD.mono (fun _ _ h => h.elim)))
      have HMO := Lib.hid (show opC k ≤ opC a from opC_mono HZ.out)
      have HM1 := Lib.hid (show (o.add.length + o.del.length) * opC k ≤ (o.add.length + o.del.length) * opC a from Nat.mul_le_mul_left _ HMO.out)
      have HBN1 := Lib.hid (show ¬ G' bx from fun h => (HN.out _ h).elim HBN.out (fun h => by have := lt_of_heap HXB.out; omega))
      have HC1 := Lib.hid (free_any w0 wr.drew ss sb L N' G' n vi vg _ gk k (.slice ap o.pre.length cp) _ _ o.cost o.add o.del HSD.out hL hpf.lt HIA.out HID.out HRA.out HRD.out (by have := HLN.out; omega) (by have h1 := hpf.cnt; have h2 := HM1.out; have h3 := HBIG.out; omega))
      have d0 : wr.drew.cell? ⟨bx, 0, none⟩ = some (.slice ap o.pre.length cp) := (cell_of_blk HXD.out).trans rfl
      have d1 : wr.drew.cell? ⟨bx, 1, none⟩ = some (.slice aa o.add.length ca) := (cell_of_blk HXD.out).trans rfl
      have d2 : wr.drew.cell? ⟨bx, 2, none⟩ = some (.slice ad o.del.length cd) := (cell_of_blk HXD.out).trans rfl
      have d3 : wr.drew.cell? ⟨bx, 3, none⟩ = some (.int .i64 o.cost) := (cell_of_blk HXD.out).trans rfl
      clear KD hpf x0 xl HP0 HZ0 HS0 HK0 HN0 HBG
      go_upto_region 7 with fail
      go_region_held3 (fun w' => w'.cell? ⟨bx, 0, none⟩ = some (.slice ap o.pre.length cp) ∧ w'.cell? ⟨bx, 1, none⟩ = some (.slice aa o.add.length ca) ∧ w'.cell? ⟨bx, 2, none⟩ = some (.slice ad o.del.length cd) ∧ w'.cell? ⟨bx, 3, none⟩ = some (.int .i64 o.cost))
        (go_keep)
        (first
          | (go_at_call 68; refine HC2.out.mono ?_; rintro en w6 ⟨k2, N2, G2, rfl, hp2, hz2, hs2, hk2, hn2⟩; have HP2 := Lib.hid hp2; have HZ2 := Lib.hid hz2; have HS2 := Lib.hid hs2; have HK2 := Lib.hid hk2; have HN2 := Lib.hid hn2; have HX6 := Lib.hid (hk2.heap HX5.out HBN2.out); have sp0 : w6.cell? ⟨bx, 0, none⟩ = some (.slice ap o.pre.length cp) := (cell_of_blk HX6.out).trans rfl; have sp1 : w6.cell? ⟨bx, 1, none⟩ = some (.slice aa o.add.length ca) := (cell_of_blk HX6.out).trans rfl; have sp2 : w6.cell? ⟨bx, 2, none⟩ = some (.slice ad o.del.length cd) := (cell_of_blk HX6.out).trans rfl; have sp3 : w6.cell? ⟨bx, 3, none⟩ = some (.int .i64 o.cost) := (cell_of_blk HX6.out).trans rfl; clear hp2 hz2 hs2 hk2 hn2)
          | (go_at_call 69; refine HC1.out.mono ?_; rintro en w5 ⟨k1, N1, G1, rfl, hp1, hz1, hs1, hk1, hn1⟩; have HP1 := Lib.hid hp1; have HZ1 := Lib.hid hz1; have HS1 := Lib.hid hs1; have HK1 := Lib.hid hk1; have HN1 := Lib.hid hn1; have HX5 := Lib.hid (hk1.heap HXD.out HBN1.out); have HBN2 := Lib.hid (show ¬ G1 bx from fun h => (HN1.out _ h).elim HBN1.out (fun h => by have := lt_of_heap HXD.out; omega)); have HM2 := Lib.hid (show (o.add.length + o.del.length) * (1 + opC k1) ≤ (o.add.length + o.del.length) * (1 + opC a) from Nat.mul_le_mul_left _ (Nat.add_le_add_left (Nat.le_trans (opC_mono hz1) HMO.out) 1)); have HC2 := Lib.hid (set_any w0 w5 ss sb L N1 G1 n vi vg _ gk k1 (.slice ap o.pre.length cp) _ _ o.cost o.add o.del hs1 hL hp1.lt HIA.out HID.out HRA.out HRD.out (by have h1 := HPF.out.cnt; have h2 := HM1.out; have h3 := HBIG.out; have h4 := hp1.cnt; have h5 := HM2.out; omega)); have tp0 : w5.cell? ⟨bx, 0, none⟩ = some (.slice ap o.pre.length cp) := (cell_of_blk HX5.out).trans rfl; have tp1 : w5.cell? ⟨bx, 1, none⟩ = some (.slice aa o.add.length ca) := (cell_of_blk HX5.out).trans rfl; have tp2 : w5.cell? ⟨bx, 2, none⟩ = some (.slice ad o.del.length cd) := (cell_of_blk HX5.out).trans rfl; have tp3 : w5.cell? ⟨bx, 3, none⟩ = some (.int .i64 o.cost) := (cell_of_blk HX5.out).trans rfl; clear hp1 hz1 hs1 hk1 hn1))
      all_goals
        go_wp2_with fail
        go_ret
        have e1 : dv N' k = litS true o.pre (dv N a) := funext fun m => HPF.out.val m
        have e2 : dv N1 k1 = exsT (o.add ++ o.del) (dv N' k) := funext fun m => HP1.out.val m
        refine ⟨k2, N2, G2, rfl, ((HPF.out.trans HP1.out).trans HP2.out).weak (by have h1 := HM1.out; have h2 := HM2.out; omega) (Nat.zero_le _) (fun m => by rw [e2, e1]), fun h0 => HZ2.out (HZ1.out (HZ.out h0)), HS2.out, HKB.out.trans ((HKD.out.trans' HK1.out HN.out).trans' HK2.out (news HN.out HN1.out HKD.out.size)), fun q hq => (news (news HN.out HN1.out HKD.out.size) HN2.out (HKD.out.trans' HK1.out HN.out).size q hq).imp (fun h => h) (fun h => Nat.le_trans HKB.out.size h)⟩

end Go.Proofs.YtjcgkmodmjckjaaGreat

namespace Go.Proofs.YtjcgkmodmjckjaaGreat
open Go.RowKit

theorem blk6_set {w : World} {b : Nat} {x0 x1 x2 x3 x4 x5 : Value} {T : TypeId} (h : w.heap[b]? = some (.cells #[x0, x1, x2, x3, x4, x5] T (0, 0))) (u : Value) : (w.setCell ⟨b, 5, none⟩ u).heap[b]? = some (.cells #[x0, x1, x2, x3, x4, u] T (0, 0)) := by rw [blk_set_same h]; rfl
theorem le12 {a j : Nat} (h : a ≤ j * 524288) (hj : j ≤ 24) : a ≤ 12582912 := by omega
theorem isSet_few {l : List Int} {n : Int} (h : isSetB l n = true) (hn : n ≤ 24) : l.length ≤ 24 := by
  obtain ⟨h1, h2⟩ := isSet_iff.1 h
  have h3 : (l.map Int.toNat).Nodup := by
    refine List.pairwise_map.2 (h2.imp_of_mem ?_)
    intro a b ha hb hlt he
    have := h1 a ha; have := h1 b hb; omega
  have h4 := nodup_sub h3 (r := List.range 24) (fun x hx => by
    obtain ⟨y, hy, rfl⟩ := List.mem_map.1 hx
    have := h1 y hy
    exact List.mem_range.2 (by omega))
  rw [List.length_map, List.length_range] at h4
  exact h4

set_option maxRecDepth 100000 in
set_option maxHeartbeats 4000000 in
theorem newSets_any (w : World) (vi vg vo : Value) (t : Tsk) (L : Nat) (h : TaskAt w vi vg vo t) (ok : t.Ok) (hLn : t.n = (L : Int)) :
    Calls Tryz.prog 24 #[.agg #[.int .i64 t.n, vi, vg, vo]] w fun e w' => ∃ (ss sb : Nat) (N : List Dn) (G : Nat → Prop) (gk : Nat), e = .returned (.pointer (some ⟨ss, 0, none⟩)) ∧ StS w w' ss sb L N G t.n vi vg vo gk ∧ gk < N.length + 2 ∧ (∀ m, dv N gk m = litS true t.goal (fun _ => true) m) ∧ low N ≤ 12582912 ∧ w.heap.size ≤ ss := by
  have hL : L ≤ 24 := by have := ok.n1; omega
  obtain ⟨ai, ci, h1, _⟩ := h.init.form
  obtain ⟨ag, cg, h2, _⟩ := h.goal.form
  obtain ⟨ao, co, h3, hmo⟩ := h.ops.form
  subst h1 h2 h3
  have hgr := (isSet_iff.1 ok.goal).1
  have hgl := isSet_few ok.goal ok.n1
  have HG := Lib.hid h.goal; have HGR := Lib.hid (show ∀ p ∈ t.goal, 0 ≤ p ∧ p < (L : Int) from fun p hp => by have := hgr p hp; omega)
  have HT := Lib.hid h
  have KB := (Keeps.refl (fun _ => False) w).alloc (.cells #[.int .i64 t.n, .slice ai t.init.length ci, .slice ag t.goal.length cg, .slice ao t.ops.length co] 25)
  have HXB := Lib.hid (heap_alloc_new w (.cells #[.int .i64 t.n, .slice ai t.init.length ci, .slice ag t.goal.length cg, .slice ao t.ops.length co] 25))
  have HKB := Lib.hid KB
  clear h ok hgr KB
  rw [hLn] at HXB HKB ⊢
  go_enter Tryz.func24, Tryz.ntmps24
  go_upto_region 1 with fail
  generalize (w.alloc (.cells #[.int .i64 (L : Int), .slice ai t.init.length ci, .slice ag t.goal.length cg, .slice ao t.ops.length co] 25)) = w1 at HXB HKB ⊢
  have HBXL := Lib.hid (Nat.le_refl w.heap.size)
  generalize hbx : w.heap.size = bx at HXB HBXL ⊢
  have HBE := Lib.hid hbx
  clear hbx
  have KD := (Keeps.refl (fun _ => False) w1).drew
  have HXD := Lib.hid (KD.heap HXB.out (fun h => h)); have HKD := Lib.hid (HKB.out.trans KD)
  clear KD
  have d0 : w1.drew.cell? ⟨bx, 0, none⟩ = some (.int .i64 (L : Int)) := (cell_of_blk HXD.out).trans rfl
  have d1 : w1.drew.cell? ⟨bx, 1, none⟩ = some (.slice ai t.init.length ci) := (cell_of_blk HXD.out).trans rfl
  have d2 : w1.drew.cell? ⟨bx, 2, none⟩ = some (.slice ag t.goal.length cg) := (cell_of_blk HXD.out).trans rfl
  have d3 : w1.drew.cell? ⟨bx, 3, none⟩ = some (.slice ao t.ops.length co) := (cell_of_blk HXD.out).trans rfl
  have HC1 := Lib.hid (newStore_any w1.drew L)
  go_region_held3 (fun w' => w'.cell? ⟨bx, 0, none⟩ = some (.int .i64 (L : Int)) ∧ w'.cell? ⟨bx, 1, none⟩ = some (.slice ai t.init.length ci) ∧ w'.cell? ⟨bx, 2, none⟩ = some (.slice ag t.goal.length cg) ∧ w'.cell? ⟨bx, 3, none⟩ = some (.slice ao t.ops.length co))
    (go_keep)
    (first
      | (go_at_call 62; refine HC1.out.mono ?_; rintro en w5 ⟨sb, rfl, hd5, hk5, hs5⟩; have HD5 := Lib.hid hd5; have HK5 := Lib.hid hk5; have HSB := Lib.hid hs5; have HX5 := Lib.hid (hk5.heap HXD.out (fun h => h)); have t0 : w5.cell? ⟨bx, 0, none⟩ = some (.int .i64 (L : Int)) := (cell_of_blk HX5.out).trans rfl; have t1 : w5.cell? ⟨bx, 1, none⟩ = some (.slice ai t.init.length ci) := (cell_of_blk HX5.out).trans rfl; have t2 : w5.cell? ⟨bx, 2, none⟩ = some (.slice ag t.goal.length cg) := (cell_of_blk HX5.out).trans rfl; have t3 : w5.cell? ⟨bx, 3, none⟩ = some (.slice ao t.ops.length co) := (cell_of_blk HX5.out).trans rfl; clear hd5 hk5 hs5))
  all_goals
    have K6 := (Keeps.refl (fun _ => False) w5).alloc (.cells #[.pointer (some ⟨sb, 0, none⟩), .int .i64 (L : Int), .slice ai t.init.length ci, .slice ag t.goal.length cg, .slice ao t.ops.length co, .int .i64 1] 59)
    have HB6 := Lib.hid (heap_alloc_new w5 (.cells #[.pointer (some ⟨sb, 0, none⟩), .int .i64 (L : Int), .slice ai t.init.length ci, .slice ag t.goal.length cg, .slice ao t.ops.length co, .int .i64 1] 59))
    have HX6 := Lib.hid (K6.heap HX5.out (fun h => h))
    have HS6 := Lib.hid (show StS w _ w5.heap.size sb L [] (fun q => w1.drew.heap.size ≤ q ∧ q < w5.heap.size) (L : Int) (.slice ai t.init.length ci) (.slice ag t.goal.length cg) (.slice ao t.ops.length co) 1 from ⟨HB6.out, HD5.out.keeps0 K6, fun h => by have := h.2; omega, (HKD.out.trans HK5.out).trans K6, fun q hq => Nat.le_trans HKD.out.size hq.1⟩)
    have HSZ := Lib.hid (show w.heap.size ≤ w5.heap.size from (HKD.out.trans HK5.out).size)
    clear K6 HD5 HK5 HSB HX5 t0 t1 t2 t3 d0 d1 d2 d3 HC1 HB6 HXD HXB HKD HKB
    go_upto_region 2 with fail
    generalize (w5.alloc (.cells #[.pointer (some ⟨sb, 0, none⟩), .int .i64 (L : Int), .slice ai t.init.length ci, .slice ag t.goal.length cg, .slice ao t.ops.length co, .int .i64 1] 59)) = w6 at HX6 HS6 ⊢
    generalize w5.heap.size = ss at HS6 HSZ ⊢
    have x2 : w6.cell? ⟨bx, 2, none⟩ = some (.slice ag t.goal.length cg) := (cell_of_blk HX6.out).trans rfl
    have xl := lt_of_heap HX6.out
    go_wp2_with fail
    go_loopw [15] (fun iv wr => ∃ (j k : Nat) (N' : List Dn) (G' : Nat → Prop), iv = .int .i64 (j : Int) ∧ j ≤ t.goal.length ∧ StS w wr ss sb L N' G' (L : Int) (.slice ai t.init.length ci) (.slice ag t.goal.length cg) (.slice ao t.ops.length co) k ∧ k < N'.length + 2 ∧ (∀ m, dv N' k m = litS true (t.goal.take j) (fun _ => true) m) ∧ low N' ≤ j * 524288) (fun iv _ => t.goal.length - (intOf iv).toNat)
    case atStart => exact ⟨0, 1, [], _, rfl, Nat.zero_le _, HS6.out, by simp, fun m => by rw [dv_one, List.take_zero, litS_nil], by simp [low]⟩
    case round =>
      obtain ⟨j, k, N', G', rfl, hj, hs, hk, hv, hc⟩ := hrel
      have HS := Lib.hid hs; have HKK := Lib.hid hk; have HV := Lib.hid hv; have HCST := Lib.hid hc
      clear hs hk hv hc x2 xl
      by_cases hlt : j < t.goal.length
      · obtain ⟨bb, bo, hao, hcell⟩ := HG.out.cell rfl (by omega)
        cases hao
        obtain ⟨p, hp⟩ : ∃ p, t.goal[j]? = some p := ⟨_, List.getElem?_eq_getElem hlt⟩
        have hpr := HGR.out p (List.mem_of_getElem? hp)
        obtain ⟨x, rfl⟩ := Int.eq_ofNat_of_zero_le hpr.1
        have hxL : x < L := by have := hpr.2; omega
        have HX := Lib.hid hp
        have hce := HS.out.k0.cell (hcell j _ hp) (fun h => h)
        have i0' : (0 : Int) ≤ (j : Int) := by omega
        have i1' : (j : Int) < (t.goal.length : Int) := by omega
        have HLT := Lib.hid hlt
        have HS1 := Lib.hid HS.out.drew
        have HC1 := Lib.hid (literal_any wr.drew sb L N' G' x true HS1.out.dg hL hxL (by have h1 := HCST.out; have h2 : j ≤ 24 := (by omega); omega))
        have c0 : wr.cell? ⟨ss, 0, none⟩ = some (.pointer (some ⟨sb, 0, none⟩)) := (cell_of_blk HS.out.blk).trans rfl
        have c5 : wr.cell? ⟨ss, 5, none⟩ = some (.int .i64 (k : Int)) := (cell_of_blk HS.out.blk).trans rfl
        have l0 := lt_of_heap HS.out.blk
        have hj24 : j ≤ 24 := by omega
        clear hcell hp hpr hlt
        go_upto_region 5 with fail
        go_region_with (first
          | (go_at_call 40; refine HC2.out.mono ?_; rintro en w8 ⟨k2, N2, G2, rfl, hp2, hz2, hd2, hk2, hn2⟩; have HP2 := Lib.hid hp2; have HS3 := Lib.hid (HS2.out.op hd2 hk2 hn2); have u0 : w8.cell? ⟨ss, 0, none⟩ = some (.pointer (some ⟨sb, 0, none⟩)) := (cell_of_blk HS3.out.blk).trans rfl; have u5 : w8.cell? ⟨ss, 5, none⟩ = some (.int .i64 (k : Int)) := (cell_of_blk HS3.out.blk).trans rfl; have uf : w8.frozen? ⟨ss, 5, none⟩ = false := frozen_of_blk HS3.out.blk; have ul := lt_of_heap HS3.out.blk; clear hp2 hz2 hd2 hk2 hn2)
          | (go_at_call 63; refine HC1.out.mono ?_; rintro en w7 ⟨k1, N1, G1, rfl, hp1, hd1, hk1, hn1⟩; have HP1 := Lib.hid hp1; have HS2 := Lib.hid (HS1.out.op hd1 hk1 hn1); have t0 : w7.cell? ⟨ss, 0, none⟩ = some (.pointer (some ⟨sb, 0, none⟩)) := (cell_of_blk HS2.out.blk).trans rfl; have t5 : w7.cell? ⟨ss, 5, none⟩ = some (.int .i64 (k : Int)) := (cell_of_blk HS2.out.blk).trans rfl; have tl := lt_of_heap HS2.out.blk; have HC2 := Lib.hid (andz_any w7 sb L N1 G1 k k1 hd1 hL (by have := hp1.le.len; have := HKK.out; omega) hp1.lt (by have h1 := hp1.cnt; have h2 := nb_le x; have h3 := HCST.out; have h6 := opC_le k; omega)); clear hp1 hd1 hk1 hn1))
        all_goals
          have HSF := Lib.hid (show StS w (w8.setCell ⟨ss, 5, none⟩ (.int .i64 (k2 : Int))) ss sb L N2 G2 _ _ _ _ k2 from
            ⟨blk6_set HS3.out.blk _, HS3.out.dg.keeps (keepsCell ss 5 _) (fun q e h => HS3.out.sep (by rw [← (e : q = ss)]; exact h)), HS3.out.sep, HS3.out.k0.trans' (keepsCell ss 5 _) (fun i hi => .inr (by rw [(show i = ss from hi)]; exact HSZ.out)), HS3.out.gb⟩)
          clear u0 u5 uf ul
          go_wp2_with fail
          go_roundw
          case rel =>
            refine ⟨j + 1, k2, N2, G2, by go_num, HLT.out, HSF.out, HP2.out.lt, fun m => ?_, ?_⟩
            · rw [HP2.out.val, HP1.out.val, HP1.out.le.dv HS1.out.dg.ok HKK.out, HV.out, take_getS HX.out, litS_snoc]
            · have h1 := HP1.out.cnt; have h2 := HP2.out.cnt; have h3 := nb_le x; have h4 := opC_le k; have h5 := HCST.out
              omega
          case measure => simp [intOf]; have := HLT.out; omega
      · have hje : j = t.goal.length := by omega
        subst hje
        go_wp2_with fail
        go_ret
        refine ⟨ss, sb, N', G', k, rfl, HS.out, HKK.out, fun m => ?_, le12 HCST.out hgl, HSZ.out⟩
        rw [HV.out, List.take_of_length_le (Nat.le_refl _)]

end Go.Proofs.YtjcgkmodmjckjaaGreat

namespace Go.Proofs.YtjcgkmodmjckjaaGreat

theorem litS_iff {b : Bool} {ps : List Int} {f : Nat → Bool} {m : Nat} : litS b ps f m = true ↔ f m = true ∧ ∀ p ∈ ps, m.testBit p.toNat = b := by
  unfold litS
  rw [Bool.and_eq_true, List.all_eq_true]
  simp only [beq_iff_eq]
theorem exsT_iff {ps : List Int} {f : Nat → Bool} {m : Nat} : exsT ps f m = true ↔ ∃ x, f x = true ∧ ∀ i, (∀ p ∈ ps, i ≠ p.toNat) → x.testBit i = m.testBit i := by
  induction ps generalizing f with
  | nil =>
    constructor
    · intro h; exact ⟨m, h, fun _ _ => rfl⟩
    · rintro ⟨x, h1, h2⟩
      have : x = m := Nat.eq_of_testBit_eq fun i => h2 i (by simp)
      subst this; exact h1
  | cons p ps ih =>
    show exsT ps (exT p.toNat f) m = true ↔ _
    rw [ih]
    constructor
    · rintro ⟨y, h1, h2⟩
      unfold exT at h1
      rw [Bool.or_eq_true] at h1
      rcases h1 with h1 | h1
      · exact ⟨_, h1, fun i hi => by rw [bit_set, if_neg (hi p (by simp))]; exact h2 i (fun q hq => hi q (by simp [hq]))⟩
      · exact ⟨_, h1, fun i hi => by rw [bit_clr, if_neg (hi p (by simp))]; exact h2 i (fun q hq => hi q (by simp [hq]))⟩
    · rintro ⟨x, h1, h2⟩
      cases hm : m.testBit p.toNat with
      | true =>
        refine ⟨x ||| 2 ^ p.toNat, ?_, fun i hi => ?_⟩
        · unfold exT
          rw [Bool.or_eq_true]
          cases hx : x.testBit p.toNat with
          | true => exact .inl (by rw [show x ||| 2 ^ p.toNat ||| 2 ^ p.toNat = x from Nat.eq_of_testBit_eq fun i => by rw [bit_set, bit_set]; by_cases h : i = p.toNat <;> simp [h, hx]]; exact h1)
          | false => exact .inr (by rw [show (x ||| 2 ^ p.toNat ||| 2 ^ p.toNat) ^^^ 2 ^ p.toNat = x from Nat.eq_of_testBit_eq fun i => by rw [bit_clr, bit_set]; by_cases h : i = p.toNat <;> simp [h, hx]]; exact h1)
        · rw [bit_set]
          by_cases h : i = p.toNat
          · rw [if_pos h, h, hm]
          · rw [if_neg h]; exact h2 i (fun q hq => by rcases List.mem_cons.1 hq with rfl | hq; exact h; exact hi q hq)
      | false =>
        refine ⟨(x ||| 2 ^ p.toNat) ^^^ 2 ^ p.toNat, ?_, fun i hi => ?_⟩
        · unfold exT
          rw [Bool.or_eq_true]
          cases hx : x.testBit p.toNat with
          | true => exact .inl (by rw [show (x ||| 2 ^ p.toNat) ^^^ 2 ^ p.toNat ||| 2 ^ p.toNat = x from Nat.eq_of_testBit_eq fun i => by rw [bit_set, bit_clr]; by_cases h : i = p.toNat <;> simp [h, hx]]; exact h1)
          | false => exact .inr (by rw [show ((x ||| 2 ^ p.toNat) ^^^ 2 ^ p.toNat ||| 2 ^ p.toNat) ^^^ 2 ^ p.toNat = x from Nat.eq_of_testBit_eq fun i => by rw [bit_clr, bit_clr]; by_cases h : i = p.toNat <;> simp [h, hx]]; exact h1)
        · rw [bit_clr]
          by_cases h : i = p.toNat
          · rw [if_pos h, h, hm]
          · rw [if_neg h]; exact h2 i (fun q hq => by rcases List.mem_cons.1 hq with rfl | hq; exact h; exact hi q hq)
/-- What image says. -/
def imgB (o : Opr) (f : Nat → Bool) : Nat → Bool := litS false o.del (litS true o.add (exsT (o.add ++ o.del) (litS true o.pre f)))
theorem symCan {o : Opr} {n : Int} (ho : o.Ok n) (x : Nat) : o.word.can x = true ↔ ∀ p ∈ o.pre, x.testBit p.toNat = true := by
  have hp := (isSet_iff.1 ho.pre).1
  unfold Wop.can Opr.word
  simp only [beq_iff_eq]
  constructor
  · intro h p hpp
    have h1 := congrArg (fun w => w.testBit p.toNat) h
    have e : ((p.toNat : Nat) : Int) = p := by have := (hp p hpp).1; omega
    simp only [Nat.testBit_and] at h1
    rw [testBit_wd (fun x hx => (hp x hx).1), e] at h1
    simpa [hpp] using h1
  · intro h
    apply Nat.eq_of_testBit_eq
    intro i
    rw [Nat.testBit_and, testBit_wd (fun x hx => (hp x hx).1)]
    by_cases hi : (i : Int) ∈ o.pre
    · have := h _ hi
      simp at this
      simp [hi, this]
    · simp [hi]
theorem symNext {o : Opr} {n : Int} (ho : o.Ok n) (x : Nat) {i : Nat} (hi : i < 32) : (o.word.next x).testBit i = ((x.testBit i && !decide ((i : Int) ∈ o.del)) || decide ((i : Int) ∈ o.add)) := by
  have ha := (isSet_iff.1 ho.add).1
  have hd := (isSet_iff.1 ho.del).1
  unfold Wop.next Opr.word
  rw [Nat.testBit_or, testBit_andN _ _ _ hi, testBit_wd (fun x hx => (ha x hx).1), testBit_wd (fun x hx => (hd x hx).1)]
theorem symNextLt {o : Opr} {L : Nat} (ho : o.Ok (L : Int)) {x : Nat} (hx : x < 2 ^ L) : o.word.next x < 2 ^ L := by
  have ha := (isSet_iff.1 ho.add).1
  exact Nat.or_lt_two_pow (andN_lt hx) (wd_lt ha)
theorem img_iff {o : Opr} {L : Nat} (hL : L ≤ 24) (ho : o.Ok (L : Int)) {f : Nat → Bool} {m : Nat} (hm : m < 2 ^ L) : imgB o f m = true ↔ ∃ x, x < 2 ^ L ∧ f x = true ∧ o.word.can x = true ∧ o.word.next x = m := by
  have ha := (isSet_iff.1 ho.add).1
  have hd := (isSet_iff.1 ho.del).1
  have hdj := disj_iff.1 ho.disj
  have hpow : ∀ {y : Nat}, y < 2 ^ L → ∀ i, L ≤ i → y.testBit i = false := fun {y} hy i hi => Nat.testBit_lt_two_pow (Nat.lt_of_lt_of_le hy (Nat.pow_le_pow_right (by omega) hi))
  unfold imgB
  rw [litS_iff, litS_iff, exsT_iff]
  constructor
  · rintro ⟨⟨⟨x, hx, hag⟩, hadd⟩, hdel⟩
    rw [litS_iff] at hx
    have hag' : ∀ i : Nat, (i : Int) ∉ o.add → (i : Int) ∉ o.del → x.testBit i = m.testBit i := fun i h1 h2 => hag i (fun p hp e => by
      rcases List.mem_append.1 hp with h | h
      · have := (ha p h).1; exact h1 (by rw [e, show ((p.toNat : Nat) : Int) = p from by omega]; exact h)
      · have := (hd p h).1; exact h2 (by rw [e, show ((p.toNat : Nat) : Int) = p from by omega]; exact h))
    have hxL : x < 2 ^ L := Nat.lt_pow_two_of_testBit _ (fun i hi => by
      rw [hag' i (fun h => by have := (ha _ h).2; omega) (fun h => by have := (hd _ h).2; omega)]
      exact hpow hm i hi)
    refine ⟨x, hxL, hx.1, (symCan ho x).2 hx.2, Nat.eq_of_testBit_eq fun i => ?_⟩
    by_cases hi : i < 32
    · rw [symNext ho x hi]
      by_cases h1 : (i : Int) ∈ o.add
      · have := hadd _ h1
        simp at this
        simp [h1, this]
      · by_cases h2 : (i : Int) ∈ o.del
        · have := hdel _ h2
          simp at this
          simp [h1, h2, this]
        · simp [h1, h2, hag' i h1 h2]
    · rw [hpow (symNextLt ho hxL) i (by omega), hpow hm i (by omega)]
  · rintro ⟨x, hxL, hf, hc, rfl⟩
    refine ⟨⟨⟨x, litS_iff.2 ⟨hf, (symCan ho x).1 hc⟩, fun i hi => ?_⟩, fun p hp => ?_⟩, fun p hp => ?_⟩
    · by_cases h32 : i < 32
      · rw [symNext ho x h32]
        have h1 : (i : Int) ∉ o.add := fun h => hi _ (List.mem_append.2 (.inl h)) (by omega)
        have h2 : (i : Int) ∉ o.del := fun h => hi _ (List.mem_append.2 (.inr h)) (by omega)
        simp [h1, h2]
      · rw [hpow hxL i (by omega), hpow (symNextLt ho hxL) i (by omega)]
    · have hb := ha p hp
      rw [symNext ho x (by omega), show ((p.toNat : Nat) : Int) = p from by omega]
      simp [hp]
    · have hb := hd p hp
      have hna : p ∉ o.add := fun h => hdj p h hp
      rw [symNext ho x (by omega), show ((p.toNat : Nat) : Int) = p from by omega]
      simp [hp, hna]

end Go.Proofs.YtjcgkmodmjckjaaGreat

namespace Go.Proofs.YtjcgkmodmjckjaaGreat

/-- The state m is reached with n steps, and not with fewer. -/
def Dp (ops : List Wop) (s m n : Nat) : Prop := (∃ q, runOps ops s q = some m ∧ q.length = n) ∧ ∀ q, runOps ops s q = some m → n ≤ q.length
section
variable {ops : List Wop} {s : Nat}
theorem Dp.zero : Dp ops s s 0 := ⟨⟨[], rfl, rfl⟩, fun _ _ => Nat.zero_le _⟩
theorem Dp.start {m : Nat} (h : Dp ops s m 0) : m = s := by
  obtain ⟨⟨q, h1, h2⟩, _⟩ := h
  have : q = [] := List.length_eq_zero_iff.1 h2
  subst this
  exact (Option.some.inj h1).symm
theorem Dp.unique {m a b : Nat} (h : Dp ops s m a) (g : Dp ops s m b) : a = b := by
  obtain ⟨⟨p, h1, h2⟩, h3⟩ := h
  obtain ⟨⟨q, g1, g2⟩, g3⟩ := g
  have := h3 q g1; have := g3 p h1; omega
theorem Dp.least {m : Nat} : ∀ (n : Nat) (q : List Nat), q.length ≤ n → runOps ops s q = some m → ∃ k, k ≤ q.length ∧ Dp ops s m k := by
  intro n
  induction n with
  | zero => intro q hq h; exact ⟨q.length, Nat.le_refl _, ⟨q, h, rfl⟩, fun p _ => by omega⟩
  | succ n ih =>
    intro q hq h
    by_cases hm : ∃ p, runOps ops s p = Option.some m ∧ p.length < q.length
    · obtain ⟨p, h1, h2⟩ := hm
      obtain ⟨k, h3, h4⟩ := ih p (by omega) h1
      exact ⟨k, by omega, h4⟩
    · exact ⟨q.length, Nat.le_refl _, ⟨q, h, rfl⟩, fun p hp => Nat.le_of_not_lt (fun hlt => hm ⟨p, hp, hlt⟩)⟩
theorem Dp.prev {m n : Nat} (h : Dp ops s m (n + 1)) : ∃ (x i : Nat) (op : Wop), Dp ops s x n ∧ ops[i]? = some op ∧ op.can x = true ∧ op.next x = m := by
  obtain ⟨⟨q, h1, h2⟩, h3⟩ := h
  have hne : q ≠ [] := fun e => by rw [e] at h2; cases h2
  obtain ⟨p, o, rfl⟩ : ∃ p o, q = p ++ [o] := ⟨q.dropLast, q.getLast hne, (List.dropLast_concat_getLast hne).symm⟩
  obtain ⟨y, op, g1, g2, g3, g4⟩ := runOps_snoc h1
  rw [List.length_append, List.length_singleton] at h2
  refine ⟨y, o, op, ⟨⟨p, g1, by omega⟩, fun r hr => ?_⟩, g2, g3, g4.symm⟩
  have h5 := h3 (r ++ [o]) (by rw [g4]; exact runOps_snoc' hr g2 g3)
  rw [List.length_append, List.length_singleton] at h5
  omega
theorem Dp.next {m n : Nat} : ((∃ (x i : Nat) (op : Wop), Dp ops s x n ∧ ops[i]? = some op ∧ op.can x = true ∧ op.next x = m) ∧ ∀ k, k ≤ n → ¬ Dp ops s m k) ↔ Dp ops s m (n + 1) := by
  constructor
  · rintro ⟨⟨x, i, op, ⟨⟨q, h1, h2⟩, _⟩, h3, h4, rfl⟩, h5⟩
    refine ⟨⟨q ++ [i], runOps_snoc' h1 h3 h4, by rw [List.length_append, List.length_singleton, h2]⟩, fun p hp => ?_⟩
    by_cases hlt : p.length ≤ n
    · obtain ⟨k, h6, h7⟩ := Dp.least p.length p (Nat.le_refl _) hp
      exact absurd h7 (h5 k (by omega))
    · omega
  · intro h
    exact ⟨h.prev, fun k hk hd => by have := h.unique hd; omega⟩
/-- All smaller depths occur, too: so depths are less than the number of states. -/
theorem Dp.chain : ∀ {n m : Nat}, Dp ops s m n → ∃ xs : List Nat, xs.length = n + 1 ∧ (∀ k x, xs[k]? = Option.some x → Dp ops s x k) := by
  intro n
  induction n with
  | zero => intro m h; exact ⟨[m], rfl, fun k x hx => by
      cases k with
      | zero => cases hx; exact h
      | succ k => simp at hx⟩
  | succ n ih =>
    intro m h
    obtain ⟨x, _, _, hx, _⟩ := h.prev
    obtain ⟨xs, h1, h2⟩ := ih hx
    refine ⟨xs ++ [m], by rw [List.length_append, h1]; rfl, fun k y hy => ?_⟩
    by_cases hk : k < xs.length
    · rw [List.getElem?_append_left hk] at hy; exact h2 k y hy
    · have h3 := (List.getElem?_eq_some_iff.1 hy).1
      rw [List.length_append, List.length_singleton] at h3
      have h4 : k = xs.length := by omega
      rw [h4, List.getElem?_append_right (Nat.le_refl _)] at hy
      simp at hy
      rw [← hy, h4, h1]; exact h
theorem Dp.lt {l : List Nat} (hl : ∀ q y, runOps ops s q = Option.some y → y ∈ l) {n m : Nat} (h : Dp ops s m n) : n < l.length := by
  obtain ⟨xs, h1, h2⟩ := h.chain
  have hn : xs.Nodup := by
    rw [List.nodup_iff_pairwise_ne, List.pairwise_iff_getElem]
    intro i j hi hj hij he
    have d1 := h2 i _ (List.getElem?_eq_getElem hi)
    have d2 := h2 j _ (List.getElem?_eq_getElem hj)
    rw [he] at d1
    have := d1.unique d2; omega
  have h3 := nodup_sub hn (r := l) (fun x hx => by
    obtain ⟨k, hk⟩ := List.mem_iff_getElem?.1 hx
    obtain ⟨⟨q, g1, _⟩, _⟩ := h2 k x hk
    exact hl q x g1)
  omega
/-- The states of a depth. -/
theorem Dp.list {l : List Nat} (hd : l.Nodup) (hl : ∀ q y, runOps ops s q = Option.some y → y ∈ l) (n : Nat) : ∃ S : List Nat, S.Nodup ∧ ∀ x, x ∈ S ↔ Dp ops s x n := by
  refine ⟨l.filter fun x => @decide (Dp ops s x n) (Classical.propDecidable _), hd.filter _, fun x => ?_⟩
  rw [List.mem_filter]
  constructor
  · rintro ⟨_, h⟩; exact @of_decide_eq_true _ (Classical.propDecidable _) h
  · intro h
    obtain ⟨⟨q, g1, _⟩, _⟩ := id h
    exact ⟨hl q x g1, @decide_eq_true _ (Classical.propDecidable _) h⟩
/-- f is the set of the states of the depth n; g that of the depths up to n. -/
def LayIs (L : Nat) (ops : List Wop) (s : Nat) (f : Nat → Bool) (n : Nat) : Prop := ∀ m, m < 2 ^ L → (f m = true ↔ Dp ops s m n)
def AllIs (L : Nat) (ops : List Wop) (s : Nat) (f : Nat → Bool) (n : Nat) : Prop := ∀ m, m < 2 ^ L → (f m = true ↔ ∃ k, k ≤ n ∧ Dp ops s m k)
/-- What the images of a set say, up to an operator. -/
def imgsB (os : List Opr) (f : Nat → Bool) (m : Nat) : Bool := os.any fun o => imgB o f m
theorem imgsB_snoc (os : List Opr) (o : Opr) (f : Nat → Bool) (m : Nat) : imgsB (os ++ [o]) f m = (imgsB os f m || imgB o f m) := by unfold imgsB; rw [List.any_append]; simp
end
theorem cube_iff {L s m : Nat} (hs : s < 2 ^ L) (hm : m < 2 ^ L) : cubeS L s 0 m = true ↔ m = s := by
  unfold cubeS
  rw [List.all_eq_true]
  constructor
  · intro h
    apply Nat.eq_of_testBit_eq
    intro i
    by_cases hi : i < L
    · have := h i (List.mem_range.2 hi)
      simpa using this
    · rw [Nat.testBit_lt_two_pow (Nat.lt_of_lt_of_le hm (Nat.pow_le_pow_right (by omega) (by omega))), Nat.testBit_lt_two_pow (Nat.lt_of_lt_of_le hs (Nat.pow_le_pow_right (by omega) (by omega)))]
  · rintro rfl i _
    simp
theorem LayIs.next {L : Nat} {os : List Opr} {s n : Nat} {f g : Nat → Bool} (hL : L ≤ 24) (hos : ∀ o ∈ os, o.Ok (L : Int)) (hst : ∀ q y, runOps (wordsOf os) s q = some y → y < 2 ^ L) (hf : LayIs L (wordsOf os) s f n) (hg : AllIs L (wordsOf os) s g n) :
    LayIs L (wordsOf os) s (fun m => imgsB os f m && !g m) (n + 1) := by
  intro m hm
  rw [← Dp.next, Bool.and_eq_true]
  have hw : ∀ {i : Nat} {op : Wop}, (wordsOf os)[i]? = some op → ∃ o, os[i]? = some o ∧ op = o.word := fun {i op} h => by
    unfold wordsOf at h
    rw [List.getElem?_map] at h
    cases ho : os[i]? with
    | none => rw [ho] at h; cases h
    | some o => rw [ho] at h; cases h; exact ⟨o, rfl, rfl⟩
  constructor
  · rintro ⟨h1, h2⟩
    unfold imgsB at h1
    rw [List.any_eq_true] at h1
    obtain ⟨o, ho, h3⟩ := h1
    obtain ⟨x, hx, h4, h5, h6⟩ := (img_iff hL (hos o ho) hm).1 h3
    obtain ⟨i, hi⟩ := List.mem_iff_getElem?.1 ho
    refine ⟨⟨x, i, o.word, (hf x hx).1 h4, by unfold wordsOf; rw [List.getElem?_map, hi]; rfl, h5, h6⟩, fun k hk hd => ?_⟩
    have h7 := (hg m hm).2 ⟨k, hk, hd⟩
    rw [h7] at h2; cases h2
  · rintro ⟨⟨x, i, op, hx, hi, hc, he⟩, hno⟩
    obtain ⟨o, ho, rfl⟩ := hw hi
    have hxL : x < 2 ^ L := by obtain ⟨⟨q, g1, _⟩, _⟩ := hx; exact hst q x g1
    refine ⟨?_, ?_⟩
    · unfold imgsB
      rw [List.any_eq_true]
      exact ⟨o, List.mem_of_getElem? ho, (img_iff hL (hos o (List.mem_of_getElem? ho)) hm).2 ⟨x, hxL, (hf x hxL).2 hx, hc, he⟩⟩
    · cases hgm : g m with
      | false => rfl
      | true =>
        obtain ⟨k, hk, hd⟩ := (hg m hm).1 hgm
        exact absurd hd (hno k hk)
theorem AllIs.next {L : Nat} {ops : List Wop} {s n : Nat} {f g : Nat → Bool} (hg : AllIs L ops s g n) (hf : LayIs L ops s f (n + 1)) : AllIs L ops s (fun m => g m || f m) (n + 1) := by
  intro m hm
  rw [Bool.or_eq_true, hg m hm, hf m hm]
  constructor
  · rintro (⟨k, h1, h2⟩ | h)
    · exact ⟨k, by omega, h2⟩
    · exact ⟨n + 1, Nat.le_refl _, h⟩
  · rintro ⟨k, h1, h2⟩
    by_cases hk : k = n + 1
    · subst hk; exact .inr h2
    · exact .inl ⟨k, by omega, h2⟩
/-- What Layers hands back. -/
def LayersIs (ops : List Wop) (s : Nat) (out : List Int) : Prop :=
  (∀ n c, out[n]? = some c → ∃ S : List Nat, S.Nodup ∧ S ≠ [] ∧ (∀ x, x ∈ S ↔ Dp ops s x n) ∧ c = (S.length : Int)) ∧ ∀ x n, Dp ops s x n → n < out.length

end Go.Proofs.YtjcgkmodmjckjaaGreat

namespace Go.Proofs.YtjcgkmodmjckjaaGreat
open Go.RowKit

/-- The sets, and the row of numbers that Layers hands back. -/
structure LyS (w3 wr : World) (B ss sb L : Nat) (n : Int) (vi vg vo : Value) (gk : Nat) (N : List Dn) (G : Nat → Prop) (ov : Value) (out : List Int) : Prop where
  st : StS w3 wr ss sb L N G n vi vg vo gk
  row : wr.ownsRow B 3 1 ov out.length (out.map (Value.int .i64))
  off : ∀ k, ov.ownBlock = some k → ¬ G k
  ssB : ss < B
  low : w3.heap.size ≤ B
section
variable {w3 wr w' : World} {B ss sb L : Nat} {n : Int} {vi vg vo : Value} {gk : Nat} {N N' : List Dn} {G G' : Nat → Prop} {ov ov' : Value} {out out' : List Int}
theorem LyS.opS (h : LyS w3 wr B ss sb L n vi vg vo gk N G ov out) (hs : StS w3 w' ss sb L N' G' n vi vg vo gk) (hk : Keeps G wr w') (hn : ∀ q, G' q → G q ∨ wr.heap.size ≤ q) : LyS w3 w' B ss sb L n vi vg vo gk N' G' ov out :=
  ⟨hs, heap_row h.row hk h.off, fun k hk' hg => (hn k hg).elim (h.off k hk') (fun hs => by have := (World.ownsRow.lt h.row k hk').2; omega), h.ssB, h.low⟩
theorem LyS.op (h : LyS w3 wr B ss sb L n vi vg vo gk N G ov out) (hd : Dg w' sb L N' G') (hk : Keeps G wr w') (hn : ∀ q, G' q → G q ∨ wr.heap.size ≤ q) : LyS w3 w' B ss sb L n vi vg vo gk N' G' ov out := h.opS (h.st.op hd hk hn) hk hn
theorem LyS.keeps0 (h : LyS w3 wr B ss sb L n vi vg vo gk N G ov out) (hk : Keeps (fun _ => False) wr w') : LyS w3 w' B ss sb L n vi vg vo gk N G ov out :=
  ⟨h.st.keeps0 hk, heap_row h.row hk (fun _ _ h => h), h.off, h.ssB, h.low⟩
theorem LyS.grow (h : LyS w3 wr B ss sb L n vi vg vo gk N G ov out) (hk : Keeps (fun k => ov.ownBlock = some k) wr w') (hr : w'.ownsRow B 3 1 ov' out'.length (out'.map (Value.int .i64))) (hb : ∀ k, ov'.ownBlock = some k → ov.ownBlock = some k ∨ wr.heap.size ≤ k) : LyS w3 w' B ss sb L n vi vg vo gk N G ov' out' := by
  have hlo : ∀ k, ov.ownBlock = some k → B ≤ k := fun k hk => (World.ownsRow.lt h.row k hk).1
  refine ⟨⟨hk.heap h.st.blk (fun e => by have := hlo _ e; have := h.ssB; omega), h.st.dg.keeps hk (fun k e => h.off k e), h.st.sep, h.st.k0.trans' hk (fun i hi => .inr (by have := hlo i hi; have := h.low; omega)), h.st.gb⟩, hr, fun k hk' hg => ?_, h.ssB, h.low⟩
  rcases hb k hk' with h1 | h1
  · exact h.off k h1 hg
  · have := h.st.dg.bnd k hg; omega
end
/-- What Layers hands back. -/
def LayRes (t : Tsk) (out : List Int) (fc fi : Int) : Prop :=
  (fc ≠ 0 ∧ expF t = (fc, fi) ∧ out = []) ∨ (fc = 0 ∧ fi = 0 ∧ t.Ok ∧ ∃ l, explored t = some l ∧ LayersIs (wordsOf t.ops) (wd t.init) out)
def LayPost (t : Tsk) (w : World) (e : Ending) (w' : World) : Prop := Keeps (fun _ => False) w w' ∧ ∃ v out fc fi, e = .returned (.tuple #[v, fltV fc fi]) ∧ Ints w' v out ∧ LayRes t out fc fi
/-- The layers that have been counted. -/
def LayCnt (ops : List Wop) (s : Nat) (out : List Int) : Prop := ∀ n c, out[n]? = some c → ∃ S : List Nat, S.Nodup ∧ S ≠ [] ∧ (∀ x, x ∈ S ↔ Dp ops s x n) ∧ c = (S.length : Int)
theorem LayCnt.snoc {ops : List Wop} {s : Nat} {out : List Int} {c : Int} (h : LayCnt ops s out) (hc : ∃ S : List Nat, S.Nodup ∧ S ≠ [] ∧ (∀ x, x ∈ S ↔ Dp ops s x out.length) ∧ c = (S.length : Int)) : LayCnt ops s (out ++ [c]) := by
  intro n d hd
  by_cases hn : n < out.length
  · rw [List.getElem?_append_left hn] at hd; exact h n d hd
  · have h1 := (List.getElem?_eq_some_iff.1 hd).1
    rw [List.length_append, List.length_singleton] at h1
    have h2 : n = out.length := by omega
    rw [h2, List.getElem?_append_right (Nat.le_refl _)] at hd
    simp at hd
    rw [h2, ← hd]; exact hc
theorem LayCnt.done {ops : List Wop} {s : Nat} {out : List Int} (h : LayCnt ops s out) (hz : ∀ x, ¬ Dp ops s x out.length) : LayersIs ops s out := by
  refine ⟨h, fun x n hd => Nat.lt_of_not_le (fun hle => ?_)⟩
  obtain ⟨xs, h1, h2⟩ := hd.chain
  have hlt : out.length < xs.length := by omega
  exact hz _ (h2 out.length _ (List.getElem?_eq_getElem hlt))
/-- What an operator's image costs at most. -/
theorem opr_few {o : Opr} {L : Nat} (hL : L ≤ 24) (ho : o.Ok (L : Int)) : o.pre.length ≤ 24 ∧ o.add.length ≤ 24 ∧ o.del.length ≤ 24 ∧ o.add.length + o.del.length ≤ 24 := by
  have hn : ((L : Nat) : Int) ≤ 24 := by omega
  refine ⟨isSet_few ho.pre hn, isSet_few ho.add hn, isSet_few ho.del hn, ?_⟩
  obtain ⟨a1, a2⟩ := isSet_iff.1 ho.add
  obtain ⟨d1, d2⟩ := isSet_iff.1 ho.del
  have hdj := disj_iff.1 ho.disj
  have hb : ∀ p ∈ o.add ++ o.del, 0 ≤ p ∧ p < (L : Int) := fun p hp => (List.mem_append.1 hp).elim (a1 p) (d1 p)
  have hnd : (o.add ++ o.del).Nodup := List.nodup_append.2 ⟨a2.imp (fun h => by omega), d2.imp (fun h => by omega), fun a ha b hb e => hdj a ha (by rw [e]; exact hb)⟩
  have h3 : ((o.add ++ o.del).map Int.toNat).Nodup := by
    refine List.pairwise_map.2 (hnd.imp_of_mem ?_)
    intro a b ha hb' hne he
    have := hb a ha; have := hb b hb'
    exact hne (by omega)
  have h4 := nodup_sub h3 (r := List.range 24) (fun x hx => by
    obtain ⟨y, hy, rfl⟩ := List.mem_map.1 hx
    have := hb y hy
    exact List.mem_range.2 (by omega))
  rw [List.length_map, List.length_append, List.length_range] at h4
  exact h4
theorem img_cost {p q c : Nat} (hp : p ≤ 24) (hq : q ≤ 24) (hc : c ≤ 524287) : p * (1 + c) + (q * c + q * (1 + c)) ≤ 37748736 := by
  have h1 : p * (1 + c) ≤ 24 * 524288 := Nat.mul_le_mul hp (by omega)
  have h2 : q * c ≤ 24 * 524288 := Nat.mul_le_mul hq (by omega)
  have h3 : q * (1 + c) ≤ 24 * 524288 := Nat.mul_le_mul hq (by omega)
  omega

end Go.Proofs.YtjcgkmodmjckjaaGreat

namespace Go.Proofs.YtjcgkmodmjckjaaGreat
open Go.RowKit

def costAt (t : Tsk) (x : Int) : Int := ((t.ops[x.toNat]?).map Opr.cost).getD 0
def costL (t : Tsk) : List Int → Int
  | [] => 0
  | x :: r => costAt t x + costL t r
def PlanIn (t : Tsk) (p : List Int) : Prop := ∀ x ∈ p, 0 ≤ x ∧ x < (t.ops.length : Int)

theorem costL_append (t : Tsk) : ∀ (a b : List Int), costL t (a ++ b) = costL t a + costL t b
  | [], b => by simp [costL]
  | x :: a, b => by
    show costAt t x + costL t (a ++ b) = (costAt t x + costL t a) + costL t b
    rw [costL_append t a b]; omega
theorem costAt_bound {t : Tsk} (ok : t.Ok) (x : Int) : 0 ≤ costAt t x ∧ costAt t x ≤ 100 := by
  unfold costAt
  cases h : t.ops[x.toNat]? with
  | none => simp
  | some o =>
    have := ok.ops o (List.mem_of_getElem? h)
    simp; exact ⟨this.cost0, this.cost1⟩
theorem costL_bound {t : Tsk} (ok : t.Ok) : ∀ p : List Int, 0 ≤ costL t p ∧ costL t p ≤ 100 * (p.length : Int)
  | [] => by simp [costL]
  | x :: r => by
    have h1 := costAt_bound ok x
    have h2 := costL_bound ok r
    unfold costL
    rw [List.length_cons]
    omega

end Go.Proofs.YtjcgkmodmjckjaaGreat

/- space.Result. -/
namespace Go.Proofs.YtjcgkmodmjckjaaGreat
open Go.RowKit

/-- A SearchResult. -/
def resV (found : Bool) (vp : Value) (c n : Int) : Value := .agg #[.bool found, vp, .int .i64 c, .int .i64 n]

theorem quad_set {w : World} {B : Nat} {x0 x1 x2 x3 : Value} {T : TypeId} (h : w.heap[B]? = some (.cells #[x0, x1, x2, x3] T (0, 0))) (a b c d : Value) :
    ((((w.setCell ⟨B, 0, none⟩ a).setCell ⟨B, 1, none⟩ b).setCell ⟨B, 2, none⟩ c).setCell ⟨B, 3, none⟩ d).heap[B]? = some (.cells #[a, b, c, d] T (0, 0)) := by
  rw [blk_set_same (blk_set_same (blk_set_same (blk_set_same h a) b) c) d]; rfl
theorem keeps_quad {w : World} (B : Nat) (a b c d : Value) : Keeps (fun k => k = B) w ((((w.setCell ⟨B, 0, none⟩ a).setCell ⟨B, 1, none⟩ b).setCell ⟨B, 2, none⟩ c).setCell ⟨B, 3, none⟩ d) :=
  ((((Keeps.refl (fun k => k = B) w).setCell (p := ⟨B, 0, none⟩) (.inl rfl) _).setCell (p := ⟨B, 1, none⟩) (.inl rfl) _).setCell (p := ⟨B, 2, none⟩) (.inl rfl) _).setCell (p := ⟨B, 3, none⟩) (.inl rfl) _

def ResultPost (t : Tsk) (vp : Value) (p : List Int) (found : Bool) (n : Int) (w : World) (e : Ending) (w' : World) : Prop := Keeps (fun _ => False) w w' ∧
  ((60 < p.length ∧ e = .returned (.tuple #[resV false (.slice none 0 0) 0 0, fltV 10 (-9)])) ∨
   (p.length ≤ 60 ∧ e = .returned (.tuple #[resV found vp (costL t p) n, fltV 0 0])))

set_option maxRecDepth 100000 in
set_option maxHeartbeats 2000000 in
theorem result_any (w : World) (vi vg vo vp : Value) (t : Tsk) (p : List Int) (found : Bool) (n : Int) (h : TaskAt w vi vg vo t) (ok : t.Ok) (hp : Ints w vp p) (hin : PlanIn t p) :
    Calls Tryz.prog 41 #[.agg #[.int .i64 t.n, vi, vg, vo], vp, .bool found, .int .i64 n] w (ResultPost t vp p found n w) := by
  obtain ⟨ai, ci, h1, _⟩ := h.init.form
  obtain ⟨ag, cg, h2, _⟩ := h.goal.form
  obtain ⟨ao, co, h3, hmo⟩ := h.ops.form
  obtain ⟨ap, cp, h4, _⟩ := hp.form
  have K1 := (Keeps.refl (fun _ => False) w).alloc (.cells #[.int .i64 t.n, vi, vg, vo] 25)
  have KA := (Keeps.refl (fun _ => False) (w.alloc (.cells #[.int .i64 t.n, vi, vg, vo] 25))).alloc (.cells #[.bool false, .slice none 0 0, .int .i64 0, .int .i64 0] 41)
  have KB := (Keeps.refl (fun _ => False) ((w.alloc (.cells #[.int .i64 t.n, vi, vg, vo] 25)).alloc (.cells #[.bool false, .slice none 0 0, .int .i64 0, .int .i64 0] 41))).alloc (.cells #[.int .i64 0, .int .i64 0] 29)
  have HB := Lib.hid ((Four.new w (.int .i64 t.n) vi vg vo 25).keeps0 (KA.trans KB))
  have HR := Lib.hid (KB.heap (heap_alloc_new (w.alloc (.cells #[.int .i64 t.n, vi, vg, vo] 25)) (.cells #[.bool false, .slice none 0 0, .int .i64 0, .int .i64 0] 41)) (fun h => h))
  have HF : Flt w _ _ 29 := ⟨heap_alloc_new ((w.alloc (.cells #[.int .i64 t.n, vi, vg, vo] 25)).alloc (.cells #[.bool false, .slice none 0 0, .int .i64 0, .int .i64 0] 41)) (.cells #[.int .i64 0, .int .i64 0] 29), by simp; omega, K1.trans (KA.trans KB)⟩
  replace HF := Lib.hid HF
  have HT := Lib.hid (h.keeps0 (K1.trans (KA.trans KB))); have HP := Lib.hid (show Ints _ vp p from hp.keeps0 (K1.trans (KA.trans KB)))
  have OK := Lib.hid ok; have HIN := Lib.hid hin
  rw [World.size_alloc] at HR HF
  rw [World.size_alloc] at HF
  subst h1 h2 h3 h4
  clear h hp hin ok K1 KA KB
  go_enter Tryz.func41, Tryz.ntmps41
  go_upto_region 1 with fail
  generalize ((w.alloc (.cells #[.int .i64 t.n, .slice ai t.init.length ci, .slice ag t.goal.length cg, .slice ao t.ops.length co] 25)).alloc (.cells #[.bool false, .slice none 0 0, .int .i64 0, .int .i64 0] 41)).alloc (.cells #[.int .i64 0, .int .i64 0] 29) = w1 at HB HR HF HT HP ⊢
  have r0 : w1.cell? ⟨w.heap.size + 1, 0, none⟩ = some (.bool false) := by rw [cell_of_blk HR.out]; rfl
  have r1 : w1.cell? ⟨w.heap.size + 1, 1, none⟩ = some (.slice none 0 0) := by rw [cell_of_blk HR.out]; rfl
  have r2 : w1.cell? ⟨w.heap.size + 1, 2, none⟩ = some (.int .i64 0) := by rw [cell_of_blk HR.out]; rfl
  have r3 : w1.cell? ⟨w.heap.size + 1, 3, none⟩ = some (.int .i64 0) := by rw [cell_of_blk HR.out]; rfl
  have y0 := frozen_of_blk (o := 0) HR.out
  have y1 := frozen_of_blk (o := 1) HR.out
  have y2 := frozen_of_blk (o := 2) HR.out
  have y3 := frozen_of_blk (o := 3) HR.out
  have hlR := lt_of_heap HR.out
  obtain ⟨e0, e1, z0, z1, hF⟩ := HF.out.cells
  by_cases hlen : 60 < p.length
  · have q1 : decide ((60 : Int) < (p.length : Int)) = true := by simp; omega
    have HLEN := Lib.hid hlen
    have kq := keeps_quad (w := w1) (w.heap.size + 1) (.bool false) (.slice none 0 0) (.int .i64 0) (.int .i64 0)
    have HQ := Lib.hid (quad_set HR.out (.bool false) (.slice none 0 0) (.int .i64 0) (.int .i64 0))
    have HF2 := Lib.hid (HF.out.keepsS kq (by omega) (fun i hi => by omega))
    clear hlen kq
    go_wp2_with fail
    refine bodyPost_ret (results_cell_cell _ _ (w.heap.size + 1 + 1) 29 #[.int .i64 10, .int .i64 (-9)] (0, 0) _ rfl rfl (HF2.out.set (.int .i64 10) (.int .i64 (-9))).1 Tryz.underlying29 rfl (by kernel_rfl) rfl ((keeps_pair (w.heap.size + 1 + 1) _ _).heap HQ.out (by omega)) Tryz.underlying41 rfl (by kernel_rfl)) rfl ?_
    exact ⟨(HF2.out.set _ _).2, .inl ⟨HLEN.out, rfl⟩⟩
  · have q1 : decide ((60 : Int) < (p.length : Int)) = false := by simp; omega
    have hlen2 : p.length ≤ 60 := by omega
    have HLEN := Lib.hid hlen2
    have hs1 := HF.out.keep.size
    have HOC := Lib.hid (HT.out.ops.cell rfl)
    have CP := Lib.hid (HP.out.cell rfl)
    have K3 := Lib.hid ((Keeps.refl (fun _ => False) w1).alloc (.cells #[.bool found, .slice ap p.length cp, .int .i64 0, .int .i64 n] 41))
    have HX3 := Lib.hid (heap_alloc_new w1 (.cells #[.bool found, .slice ap p.length cp, .int .i64 0, .int .i64 n] 41))
    have hbw := HB.out.lt
    clear hlen HT HP r0 r1 r2 r3 y0 y1 y2 y3 e0 e1 z0 z1
    go_upto_region 5 with fail
    generalize w1.alloc (.cells #[.bool found, .slice ap p.length cp, .int .i64 0, .int .i64 n] 41) = w3 at K3 HX3 ⊢
    obtain ⟨bx, hbx⟩ : ∃ bx, w1.heap.size = bx := ⟨_, rfl⟩
    have HBX := Lib.hid hbx
    rw [hbx] at hF hlR hs1 hbw
    rw [show w1.heap.size = bx from hbx] at HX3
    rw [hbx]
    clear hbx
    go_loopw [24] (fun v24 wr => ∃ i : Nat, i ≤ p.length ∧ v24 = .int .i64 (i : Int) ∧ wr.heap[bx]? = some (.cells #[.bool found, .slice ap p.length cp, .int .i64 (costL t (p.take i)), .int .i64 n] 41 (0, 0)) ∧ Keeps (fun _ => False) w1 wr) (fun v24 _ => p.length - (intOf v24).toNat)
    case atStart => exact ⟨0, Nat.zero_le _, rfl, HX3.out, K3.out⟩
    case round =>
      obtain ⟨i, hi, rfl, hx, hkr⟩ := hrel
      have HX := Lib.hid hx
      have HKR := Lib.hid hkr
      have HB2 := Lib.hid (HB.out.keeps0 hkr)
      have HF2 := Lib.hid (HF.out.keeps0 hkr)
      have HR2 := Lib.hid (hkr.heap HR.out (fun h => h))
      have s0 : wr.cell? ⟨bx, 0, none⟩ = some (.bool found) := by rw [cell_of_blk hx]; rfl
      have s1 : wr.cell? ⟨bx, 1, none⟩ = some (.slice ap p.length cp) := by rw [cell_of_blk hx]; rfl
      have s2 : wr.cell? ⟨bx, 2, none⟩ = some (.int .i64 (costL t (p.take i))) := by rw [cell_of_blk hx]; rfl
      have s3 : wr.cell? ⟨bx, 3, none⟩ = some (.int .i64 n) := by rw [cell_of_blk hx]; rfl
      have v2 := frozen_of_blk (o := 2) hx
      have hlx := lt_of_heap hx
      clear hkr hx
      by_cases hlt : i < p.length
      · obtain ⟨d0, d1, d2, d3⟩ := HB2.out
        have hbl2 := HB2.out.lt
        obtain ⟨bp, op, rfl, hx'⟩ := CP.out (by omega)
        obtain ⟨x, hx⟩ : ∃ x, p[i]? = some x := ⟨_, List.getElem?_eq_getElem hlt⟩
        have hu := HKR.out.cell (hx' i x hx) (fun h => h)
        have hxi := HIN.out x (List.mem_of_getElem? hx)
        obtain ⟨xn, rfl⟩ : ∃ xn : Nat, x = (xn : Int) := ⟨x.toNat, by omega⟩
        obtain ⟨bo, oo, rfl, ho'⟩ := HOC.out (by omega)
        obtain ⟨o, ho⟩ : ∃ o, t.ops[xn]? = some o := ⟨_, List.getElem?_eq_getElem (by omega)⟩
        obtain ⟨va, vb, vc, _, _, _, c3, _⟩ := ho' xn o ho
        have c3' := HKR.out.cell c3 (fun h => h)
        have HTK : Hid (costL t (p.take (i + 1)) = costL t (p.take i) + o.cost) := by
          unfold Hid
          rw [take_getS hx, costL_append]
          simp [costL, costAt, ho]
        have hbd := costL_bound OK.out (p.take i)
        have hbl : ((p.take i).length : Int) ≤ 1000000 := by rw [List.length_take]; omega
        have hoc := OK.out.ops o (List.mem_of_getElem? ho)
        have ho0 := hoc.cost0
        have ho1 := hoc.cost1
        have q1 : IntKind.i64.wrap (costL t (p.take i) + o.cost) = costL t (p.take i) + o.cost := IntWalk.i64_in _ (by omega)
        have q2 : ((xn : Int)).toNat = xn := by omega
        have q3 : (0 : Int) ≤ (xn : Int) := by omega
        have q4 : (xn : Int) < (t.ops.length : Int) := hxi.2
        clear hx' hx ho' ho c3 hxi hoc hbl hbd
        go_upto_region 7 with fail
        go_still_tail 10, (by kernel_rfl)
        change wpList _ _ _ _ _ wr.drew
        have KD := (Keeps.refl (fun _ => False) wr).drew
        have HXD := Lib.hid (KD.heap HX.out (fun h => h))
        have HKD := Lib.hid (HKR.out.trans KD)
        clear KD d0 d1 d2 d3 hbl2 hu c3' s0 s1 s2 s3 v2 hlx
        generalize wr.drew = w5 at HXD HKD ⊢
        have s2 : w5.cell? ⟨bx, 2, none⟩ = some (.int .i64 (costL t (p.take i))) := by rw [cell_of_blk HXD.out]; rfl
        have v2 := frozen_of_blk (o := 2) HXD.out
        have hlx := lt_of_heap HXD.out
        have HN := Lib.hid (blk_set_same HXD.out (o := 2) (.int .i64 (costL t (p.take i) + o.cost)))
        have HKN := Lib.hid (HKD.out.trans' ((Keeps.refl (fun k => k = bx) w5).setCell (p := ⟨bx, 2, none⟩) (.inl rfl) (.int .i64 (costL t (p.take i) + o.cost))) (fun k hk => .inr (by have := HBX.out; omega)))
        go_wp2_with fail
        go_roundw
        case rel => exact ⟨i + 1, by omega, by go_num, by rw [HTK.out]; exact HN.out, HKN.out⟩
        case measure => simp only [intOf]; omega
      · have hie : i = p.length := by omega
        subst hie
        have r0 : wr.cell? ⟨w.heap.size + 1, 0, none⟩ = some (.bool false) := by rw [cell_of_blk HR2.out]; rfl
        have r1 : wr.cell? ⟨w.heap.size + 1, 1, none⟩ = some (.slice none 0 0) := by rw [cell_of_blk HR2.out]; rfl
        have r2 : wr.cell? ⟨w.heap.size + 1, 2, none⟩ = some (.int .i64 0) := by rw [cell_of_blk HR2.out]; rfl
        have r3 : wr.cell? ⟨w.heap.size + 1, 3, none⟩ = some (.int .i64 0) := by rw [cell_of_blk HR2.out]; rfl
        have y0 := frozen_of_blk (o := 0) HR2.out
        have y1 := frozen_of_blk (o := 1) HR2.out
        have y2 := frozen_of_blk (o := 2) HR2.out
        have y3 := frozen_of_blk (o := 3) HR2.out
        have hlR2 := lt_of_heap HR2.out
        obtain ⟨e0, e1, z0, z1, hF2⟩ := HF2.out.cells
        have HCE : Hid (costL t (p.take p.length) = costL t p) := by unfold Hid; rw [List.take_length]
        have kq := keeps_quad (w := wr) (w.heap.size + 1) (.bool found) (.slice ap p.length cp) (.int .i64 (costL t p)) (.int .i64 n)
        have HQ := Lib.hid (quad_set HR2.out (.bool found) (.slice ap p.length cp) (.int .i64 (costL t p)) (.int .i64 n))
        have HF4 := Lib.hid (HF2.out.keepsS kq (by omega) (fun i hi => by omega))
        rw [HCE.out] at s2
        clear kq HX
        go_wp2_with fail
        refine bodyPost_ret (results_cell_cell _ _ (w.heap.size + 1 + 1) 29 #[.int .i64 0, .int .i64 0] (0, 0) _ rfl rfl (HF4.out.set (.int .i64 0) (.int .i64 0)).1 Tryz.underlying29 rfl (by kernel_rfl) rfl ((keeps_pair (w.heap.size + 1 + 1) _ _).heap HQ.out (by omega)) Tryz.underlying41 rfl (by kernel_rfl)) rfl ?_
        exact ⟨(HF4.out.set _ _).2, .inr ⟨HLEN.out, rfl⟩⟩

end Go.Proofs.YtjcgkmodmjckjaaGreat

namespace Go.Proofs.YtjcgkmodmjckjaaGreat
open Go.RowKit

/-! ### the plans of a search -/
theorem runOps_lt {ops : List Wop} : ∀ {p : List Nat} {x y : Nat}, runOps ops x p = some y → ∀ o ∈ p, o < ops.length
  | [], _, _, _, _, h => by cases h
  | o :: r, x, y, h, k, hk => by
    rw [runOps] at h
    cases ho : ops[o]? with
    | none => rw [ho] at h; cases h
    | some op =>
      rw [ho] at h; simp only at h
      split at h
      · rcases List.mem_cons.1 hk with rfl | hk
        · exact (List.getElem?_eq_some_iff.1 ho).1
        · exact runOps_lt h k hk
      · cases h

theorem planIn_run {t : Tsk} {p : List Nat} {x y : Nat} (h : runOps (wordsOf t.ops) x p = some y) : PlanIn t (intsP p) := by
  intro z hz
  unfold intsP at hz
  obtain ⟨o, ho, rfl⟩ := List.mem_map.1 hz
  have := runOps_lt h o ho
  unfold wordsOf at this
  rw [List.length_map] at this
  omega

/-! ### two blocks of results -/
structure RFl (w w1 : World) (R F : Nat) : Prop where
  res : w1.heap[R]? = some (.cells #[.bool false, .slice none 0 0, .int .i64 0, .int .i64 0] 41 (0, 0))
  flt : Flt w w1 F 29
  base : w.heap.size ≤ R
  ne : R ≠ F
theorem RFl.keeps0 {w w1 w2 : World} {R F : Nat} (h : RFl w w1 R F) (hk : Keeps (fun _ => False) w1 w2) : RFl w w2 R F := ⟨hk.heap h.res (fun h => h), h.flt.keeps0 hk, h.base, h.ne⟩
theorem RFl.cells {w w1 : World} {R F : Nat} (h : RFl w w1 R F) : w1.cell? ⟨R, 0, none⟩ = some (.bool false) ∧ w1.cell? ⟨R, 1, none⟩ = some (.slice none 0 0) ∧ w1.cell? ⟨R, 2, none⟩ = some (.int .i64 0) ∧ w1.cell? ⟨R, 3, none⟩ = some (.int .i64 0) ∧
    w1.frozen? ⟨R, 0, none⟩ = false ∧ w1.frozen? ⟨R, 1, none⟩ = false ∧ w1.frozen? ⟨R, 2, none⟩ = false ∧ w1.frozen? ⟨R, 3, none⟩ = false ∧ R < w1.heap.size :=
  ⟨by rw [cell_of_blk h.res]; rfl, by rw [cell_of_blk h.res]; rfl, by rw [cell_of_blk h.res]; rfl, by rw [cell_of_blk h.res]; rfl, frozen_of_blk h.res, frozen_of_blk h.res, frozen_of_blk h.res, frozen_of_blk h.res, lt_of_heap h.res⟩
theorem RFl.set {w w1 : World} {R F : Nat} (h : RFl w w1 R F) (a b c d x y : Value) :
    ((((((w1.setCell ⟨R, 0, none⟩ a).setCell ⟨R, 1, none⟩ b).setCell ⟨R, 2, none⟩ c).setCell ⟨R, 3, none⟩ d).setCell ⟨F, 0, none⟩ x).setCell ⟨F, 1, none⟩ y).heap[R]? = some (.cells #[a, b, c, d] 41 (0, 0)) ∧
    ((((((w1.setCell ⟨R, 0, none⟩ a).setCell ⟨R, 1, none⟩ b).setCell ⟨R, 2, none⟩ c).setCell ⟨R, 3, none⟩ d).setCell ⟨F, 0, none⟩ x).setCell ⟨F, 1, none⟩ y).heap[F]? = some (.cells #[x, y] 29 (0, 0)) ∧
    Keeps (fun _ => False) w ((((((w1.setCell ⟨R, 0, none⟩ a).setCell ⟨R, 1, none⟩ b).setCell ⟨R, 2, none⟩ c).setCell ⟨R, 3, none⟩ d).setCell ⟨F, 0, none⟩ x).setCell ⟨F, 1, none⟩ y) ∧
    Keeps (fun k => k = R ∨ k = F) w1 ((((((w1.setCell ⟨R, 0, none⟩ a).setCell ⟨R, 1, none⟩ b).setCell ⟨R, 2, none⟩ c).setCell ⟨R, 3, none⟩ d).setCell ⟨F, 0, none⟩ x).setCell ⟨F, 1, none⟩ y) := by
  have kq := keeps_quad (w := w1) R a b c d
  have hq := quad_set h.res a b c d
  have hf := h.flt.keepsS kq (fun e => h.ne e.symm) (fun i hi => by subst hi; exact h.base)
  have hs := hf.set x y
  exact ⟨(keeps_pair F x y).heap hq h.ne, hs.1, hs.2, (kq.mono (fun _ _ h => .inl h)).trans ((keeps_pair F x y).mono (fun _ _ h => .inr h))⟩

/-- The zero result stays as it is. -/
theorem RFl.ids {w w1 : World} {R F : Nat} (h : RFl w w1 R F) : w1.setCell ⟨R, 0, none⟩ (.bool false) = w1 ∧ w1.setCell ⟨R, 1, none⟩ (.slice none 0 0) = w1 ∧ w1.setCell ⟨R, 2, none⟩ (.int .i64 0) = w1 ∧ w1.setCell ⟨R, 3, none⟩ (.int .i64 0) = w1 :=
  ⟨setCell_id h.cells.1, setCell_id h.cells.2.1, setCell_id h.cells.2.2.1, setCell_id h.cells.2.2.2.1⟩
theorem RFl.fin {w w1 : World} {R F : Nat} (h : RFl w w1 R F) (x y : Value) : ((w1.setCell ⟨F, 0, none⟩ x).setCell ⟨F, 1, none⟩ y).drew.heap[R]? = some (.cells #[.bool false, .slice none 0 0, .int .i64 0, .int .i64 0] 41 (0, 0)) ∧
    ((w1.setCell ⟨F, 0, none⟩ x).setCell ⟨F, 1, none⟩ y).drew.heap[F]? = some (.cells #[x, y] 29 (0, 0)) ∧ Keeps (fun _ => False) w ((w1.setCell ⟨F, 0, none⟩ x).setCell ⟨F, 1, none⟩ y).drew :=
  ⟨(keeps_pair F x y).drew.heap h.res h.ne, (h.flt.set x y).1, (h.flt.set x y).2.drew⟩

theorem quad_cells {w : World} {B : Nat} {a b c d : Value} {T : TypeId} (h : w.heap[B]? = some (.cells #[a, b, c, d] T (0, 0))) : w.cell? ⟨B, 0, none⟩ = some a ∧ w.cell? ⟨B, 1, none⟩ = some b ∧ w.cell? ⟨B, 2, none⟩ = some c ∧ w.cell? ⟨B, 3, none⟩ = some d ∧ B < w.heap.size :=
  ⟨by rw [cell_of_blk h]; rfl, by rw [cell_of_blk h]; rfl, by rw [cell_of_blk h]; rfl, by rw [cell_of_blk h]; rfl, lt_of_heap h⟩

/-! ### what Plan hands back -/
end Go.Proofs.YtjcgkmodmjckjaaGreat

namespace Go.Proofs.YtjcgkmodmjckjaaGreat

/-! ### greater states -/
theorem reach_run {ops : List Wop} {s : Nat} : ∀ (q : List Nat) {x y : Nat}, Reach ops s x → runOps ops x q = some y → Reach ops s y
  | [], x, y, hx, hy => by cases hy; exact hx
  | a :: q, x, y, hx, hy => by
    rw [runOps] at hy
    cases ho : ops[a]? with
    | none => rw [ho] at hy; cases hy
    | some o =>
      rw [ho] at hy; simp only at hy
      by_cases hc : o.can x = true
      · rw [if_pos hc] at hy
        exact reach_run q (.step hx (List.mem_map.2 ⟨o, List.mem_filter.2 ⟨List.mem_of_getElem? ho, hc⟩, rfl⟩)) hy
      · rw [if_neg hc] at hy; cases hy

/-! ### the search that finds nothing -/
section
variable {acc : Nat → Bool} {cov : Nat → List Nat → Bool}
end

end Go.Proofs.YtjcgkmodmjckjaaGreat

namespace Go.Proofs.YtjcgkmodmjckjaaGreat
open Go.RowKit

def slen : Value → Nat
  | .slice _ n _ => n
  | _ => 0

set_option maxRecDepth 100000 in
set_option maxHeartbeats 8000000 in
theorem layers_any (w : World) (vi vg vo : Value) (t : Tsk) (h : TaskAt w vi vg vo t) :
    Calls Tryz.prog 8 #[.agg #[.int .i64 t.n, vi, vg, vo]] w (LayPost t w) := by
  obtain ⟨j0, hj0, jz0, jz1, jz2⟩ := info_parts Tryz.info3
  obtain ⟨ai, ci, h1, _⟩ := h.init.form
  obtain ⟨ag, cg, h2, _⟩ := h.goal.form
  obtain ⟨ao, co, h3, hmo⟩ := h.ops.form
  subst h1 h2 h3
  have K1 := (Keeps.refl (fun _ => False) w).alloc (.cells #[.int .i64 t.n, .slice ai t.init.length ci, .slice ag t.goal.length cg, .slice ao t.ops.length co] 25)
  have HT := h.keeps0 (K1.alloc (.cells #[.int .i64 0, .int .i64 0] 29))
  have HB := (Four.new w (.int .i64 t.n) (.slice ai t.init.length ci) (.slice ag t.goal.length cg) (.slice ao t.ops.length co) 25).keeps0 ((Keeps.refl _ _).alloc (.cells #[.int .i64 0, .int .i64 0] 29))
  have HF : Flt w ((w.alloc (.cells #[.int .i64 t.n, .slice ai t.init.length ci, .slice ag t.goal.length cg, .slice ao t.ops.length co] 25)).alloc (.cells #[.int .i64 0, .int .i64 0] 29)) (w.heap.size + 1) 29 :=
    ⟨by have := heap_alloc_new (w.alloc (.cells #[.int .i64 t.n, .slice ai t.init.length ci, .slice ag t.goal.length cg, .slice ao t.ops.length co] 25)) (.cells #[.int .i64 0, .int .i64 0] 29); rwa [World.size_alloc] at this, by omega, K1.alloc _⟩
  replace HT := Lib.hid HT; replace HB := Lib.hid HB; replace HF := Lib.hid HF
  clear h K1
  go_enter Tryz.func8, Tryz.ntmps8
  go_upto_region 1 with fail
  generalize ((w.alloc (.cells #[.int .i64 t.n, .slice ai t.init.length ci, .slice ag t.goal.length cg, .slice ao t.ops.length co] 25)).alloc (.cells #[.int .i64 0, .int .i64 0] 29)) = w1 at HT HB HF ⊢
  have hbx := HB.out.lt
  obtain ⟨d0, d1, d2, d3⟩ := HB.out
  go_wp2_with fail
  refine (checked_any _ _ _ _ t HT.out).mono ?_; rintro e w2 ⟨hk, hr⟩
  have HF2 := Lib.hid (HF.out.keeps0 hk); have HB2 := Lib.hid (HB.out.keeps0 hk); have HT2 := Lib.hid (HT.out.keeps0 hk)
  clear d0 d1 d2 d3 hk hbx
  have hb0 := HF2.out.keep.size
  rcases hr with ⟨hc, rfl⟩ | ⟨hok, hx, rfl⟩ | ⟨hok, l, hx, b, v, vl, ws, rfl, hw, hperm, hord, hown⟩
  · have hc2 : ((taskFault t).1 == 0) = false := by simpa using hc
    have HE := Lib.hid (show expF t = taskFault t by unfold expF; rw [if_neg hc])
    have HC := Lib.hid hc
    clear hc
    generalize hfe : taskFault t = f at hc2 HC HE ⊢
    clear hfe
    have HF3 := Lib.hid (HF2.out.keeps0 ((Keeps.refl _ _).alloc (.cells #[.int .i64 f.1, .int .i64 f.2] 29)))
    obtain ⟨e0, e1, z0, z1, hF⟩ := HF3.out.cells
    go_wp2_with fail
    go_region
    all_goals
      go_wp2
      refine bodyPost_ret (results_tmp_cell _ _ (w.heap.size + 1) 29 #[.int .i64 f.1, .int .i64 f.2] (0, 0) _ rfl rfl (((Keeps.refl (fun _ => False) _).drew).heap (HF3.out.set (.int .i64 f.1) (.int .i64 f.2)).1 (fun h => h)) Tryz.underlying29 rfl (by kernel_rfl)) rfl ?_
      exact ⟨((HF3.out.set (.int .i64 f.1) (.int .i64 f.2)).2).drew, _, [], f.1, f.2, rfl, Ints.nil _, .inl ⟨HC.out, HE.out, rfl⟩⟩
  · have HE := Lib.hid (show expF t = (10, -7) by unfold expF; rw [if_pos (taskFault_zero.2 hok), hx])
    clear hx hok
    have HF3 := Lib.hid (HF2.out.keeps0 ((Keeps.refl _ _).alloc (.cells #[.int .i64 10, .int .i64 (-7)] 29)))
    obtain ⟨e0, e1, z0, z1, hF⟩ := HF3.out.cells
    go_wp2_with fail
    go_region
    all_goals
      go_wp2
      refine bodyPost_ret (results_tmp_cell _ _ (w.heap.size + 1) 29 #[.int .i64 10, .int .i64 (-7)] (0, 0) _ rfl rfl (((Keeps.refl (fun _ => False) _).drew).heap (HF3.out.set (.int .i64 10) (.int .i64 (-7))).1 (fun h => h)) Tryz.underlying29 rfl (by kernel_rfl)) rfl ?_
      exact ⟨((HF3.out.set (.int .i64 10) (.int .i64 (-7))).2).drew, _, [], 10, -7, rfl, Ints.nil _, .inl ⟨by decide, HE.out, rfl⟩⟩
  · have HX := Lib.hid hx; have OK := Lib.hid hok
    have KA := (Keeps.refl (fun _ => False) w2).alloc (.cells #[.int .i64 0, .int .i64 0] 29)
    have HF3 := Lib.hid (HF2.out.keeps0 KA); have HB3 := Lib.hid (HB2.out.keeps0 KA); have HT3 := Lib.hid (HT2.out.keeps0 KA)
    obtain ⟨av, cv, hav⟩ := ownsRow_form1 hown
    subst hav
    clear hx hok hw KA hperm hord hown HB2 HT2 HF2 HT HB HF
    have F0 := heap_alloc_new w2 (.cells #[.int .i64 0, .int .i64 0] 29)
    go_upto_region 2 with fail
    generalize w2.alloc (.cells #[.int .i64 0, .int .i64 0] 29) = w3 at HF3 HB3 HT3 F0 ⊢
    have f0 : w3.cell? ⟨w2.heap.size, 0, none⟩ = some (.int .i64 0) := by rw [cell_of_blk F0]; rfl
    have f1 : w3.cell? ⟨w2.heap.size, 1, none⟩ = some (.int .i64 0) := by rw [cell_of_blk F0]; rfl
    have fl := lt_of_heap F0
    clear F0
    obtain ⟨L, hL⟩ : ∃ L : Nat, t.n = (L : Int) := ⟨t.n.toNat, by have := OK.out.n0; omega⟩
    have hL24 : L ≤ 24 := by have := OK.out.n1; omega
    have hns := newSets_any w3 _ _ _ t L HT3.out OK.out hL
    rw [hL] at hns
    have HNS := Lib.hid hns
    clear hns
    have hbx := HB3.out.lt
    obtain ⟨d0, d1, d2, d3⟩ := HB3.out
    go_wp2_with fail
    refine HNS.out.mono ?_; rintro e w4 ⟨ss, sb, N0, G0, gk, rfl, hst, hgk, hgv, hlow, hss⟩
    have HST := Lib.hid hst; have HLOW := Lib.hid hlow; have HSS := Lib.hid hss
    have c0 := hst.c0.1
    have c0l := hst.c0.2
    have g1 := hst.k0.cell d1 (fun h => h)
    have gl := Nat.lt_of_lt_of_le hbx hst.k0.size
    have HIN := Lib.hid (HT3.out.init.keeps0 hst.k0)
    have HIR := Lib.hid (show ∀ p ∈ t.init, 0 ≤ p ∧ p < (L : Int) from fun p hp => by have := (isSet_iff.1 OK.out.init).1 p hp; omega)
    clear hst hgk hgv hlow hss f0 f1 fl d0 d1 d2 d3 hbx
    go_upto_region 5 with fail
    have HSD := Lib.hid HST.out.drew
    have KD := (Keeps.refl (fun _ => False) w4).drew
    have HID := Lib.hid (HIN.out.keeps0 KD)
    have e0 := KD.cell c0 (fun h => h); have e1 := KD.cell g1 (fun h => h)
    clear KD
    have HC1 := Lib.hid (word_any w4.drew _ t.init HID.out (fun x hx => by have := HIR.out x hx; omega))
    have HC2 := Lib.hid (cube_any w4.drew sb L (wd t.init) N0 G0 HSD.out.dg hL24 (by have := HLOW.out; omega))
    go_region_held3 (fun w' => w'.cell? ⟨ss, 0, none⟩ = some (.pointer (some ⟨sb, 0, none⟩)) ∧ w'.cell? ⟨w.heap.size, 1, none⟩ = some (.slice ai t.init.length ci))
      (go_keep)
      (first
        | (go_at_call 26; refine HC1.out.mono ?_; rintro en w5 ⟨rfl, hw5⟩; rw [← hw5]; clear hw5 w5)
        | (go_at_call 25; refine HC2.out.mono ?_; rintro en w5 ⟨k1, N1, G1, rfl, hp1, hd1, hk1, hn1⟩; have HP1 := Lib.hid hp1; have HS1 := Lib.hid (HSD.out.op hd1 hk1 hn1); have HK1 := Lib.hid hk1; have t0 := HS1.out.c0.1; have t1 : w5.cell? ⟨w.heap.size, 1, none⟩ = some (.slice ai t.init.length ci) := HS1.out.k0.cell HB3.out.c1 (fun h => h); clear hp1 hd1 hk1 hn1))
    all_goals
      have HRS := Lib.hid (reached_some (ops := wordsOf t.ops) (s := wd t.init) (l := l) HX.out)
      have HRE := Lib.hid (show ∀ q y, runOps (wordsOf t.ops) (wd t.init) q = some y → y ∈ l from fun q y h => (HRS.out.2.2.2 y).2 (reach_run q .refl h))
      have HLT2 := Lib.hid (show ∀ q y, runOps (wordsOf t.ops) (wd t.init) q = some y → y < 2 ^ L from fun q y h => by
        obtain ⟨g1, g2⟩ := good_explored OK.out HX.out y (HRE.out q y h)
        rw [← g2]; exact wd_lt (fun x hx => by have := (isSet_iff.1 g1).1 x hx; omega))
      have hs0 : wd t.init < 2 ^ L := wd_lt HIR.out
      have HLAY0 := Lib.hid (show LayIs L (wordsOf t.ops) (wd t.init) (dv N1 k1) 0 from fun m hm => by
        rw [HP1.out.val, cube_iff hs0 hm]
        exact ⟨fun h => by rw [h]; exact Dp.zero, fun h => h.start⟩)
      have HALL0 := Lib.hid (show AllIs L (wordsOf t.ops) (wd t.init) (dv N1 k1) 0 from fun m hm => by
        rw [HLAY0.out m hm]
        exact ⟨fun h => ⟨0, Nat.le_refl _, h⟩, fun ⟨k, h1, h2⟩ => by rw [show k = 0 from by omega] at h2; exact h2⟩)
      have HLY0 := Lib.hid (show LyS w3 w5 w5.heap.size ss sb L (L : Int) (.slice ai t.init.length ci) (.slice ag t.goal.length cg) (.slice ao t.ops.length co) gk N1 G1 (.slice none 0 0) [] from ⟨HS1.out, World.ownsRow_nil _ _ _ _, fun k h => absurd h (by simp [Value.ownBlock]), HS1.out.c0.2, HS1.out.k0.size⟩)
      have HLOW1 := Lib.hid (show low N1 ≤ 13000000 from by have h1 := HP1.out.cnt; have h2 := HLOW.out; omega)
      clear t0 t1 e0 e1 c0 c0l g1 gl hs0
      have HOPS := Lib.hid HT3.out.ops
      go_wp2_with fail
      go_loopw [8, 9, 10] (fun lv ov av wr => ∃ (n ly al : Nat) (out : List Int) (N' : List Dn) (G' : Nat → Prop), lv = .int .i64 (ly : Int) ∧ av = .int .i64 (al : Int) ∧ LyS w3 wr w5.heap.size ss sb L (L : Int) (.slice ai t.init.length ci) (.slice ag t.goal.length cg) (.slice ao t.ops.length co) gk N' G' ov out ∧ out.length = n ∧ LayCnt (wordsOf t.ops) (wd t.init) out ∧ LayIs L (wordsOf t.ops) (wd t.init) (dv N' ly) n ∧ AllIs L (wordsOf t.ops) (wd t.init) (dv N' al) n ∧ ly < N'.length + 2 ∧ al < N'.length + 2 ∧ low N' ≤ 13000000 + n * 1532493824 ∧ w5.heap.size ≤ wr.heap.size) (fun _ ov _ _ => l.length + 1 - slen ov)
      case atStart => exact ⟨0, k1, k1, [], N1, G1, rfl, rfl, HLY0.out, rfl, fun n c h => by simp at h, HLAY0.out, HALL0.out, HP1.out.lt, HP1.out.lt, by have := HLOW1.out; omega, Nat.le_refl _⟩
      case round =>
        obtain ⟨n, ly, al, out, N', G', rfl, rfl, hly, hn, hcn, hla, hal, hl1, hl2, hlo, hsz⟩ := hrel
        obtain ⟨ar, cr, har⟩ := ownsRow_form1 hly.row
        subst har
        have HLY := Lib.hid hly; have HCN := Lib.hid hcn; have HLA := Lib.hid hla; have HAL := Lib.hid hal; have HL1 := Lib.hid hl1; have HL2 := Lib.hid hl2; have HLO := Lib.hid hlo; have HN := Lib.hid hn
        clear hly hcn hla hal hl1 hl2 hlo hn
        by_cases hz : ly = 0
        · subst hz
          have HF6 := Lib.hid (HF3.out.keeps0 HLY.out.st.k0)
          obtain ⟨e0, e1, z0, z1, hF⟩ := HF6.out.cells
          go_wp2_with fail
          refine bodyPost_ret (results_tmp_cell _ _ (w.heap.size + 1) 29 #[.int .i64 0, .int .i64 0] (0, 0) _ rfl rfl (HF6.out.set (.int .i64 0) (.int .i64 0)).1 Tryz.underlying29 rfl (by kernel_rfl)) rfl ?_
          refine ⟨(HF6.out.set (.int .i64 0) (.int .i64 0)).2, _, out, 0, 0, rfl, ?_, .inr ⟨rfl, rfl, OK.out, l, HX.out, LayCnt.done HCN.out (fun x hd => ?_)⟩⟩
          · have hrw := heap_row HLY.out.row (keeps_pair (w := wr) (w.heap.size + 1) (.int .i64 0) (.int .i64 0)) (fun k hk e => by
              have h1 := (World.ownsRow.lt HLY.out.row k hk).1
              have h2 := HF3.out.blk
              have h3 := lt_of_heap HF3.out.blk
              have h4 := HLY.out.low
              have h5 : k = w.heap.size + 1 := e
              omega)
            exact Sl.of_own hrw
          · rw [HN.out] at hd
            have hxl : x < 2 ^ L := by obtain ⟨⟨q, g1, _⟩, _⟩ := hd; exact HLT2.out q x g1
            have := (HLA.out x hxl).2 hd
            rw [dv_zero] at this; cases this
        · have q1 : ((ly : Int) != 0) = true := by simpa using hz
          obtain ⟨m0, hm0, _, hm1⟩ := dv_some HLY.out.st.dg.ok ly HL1.out hz
          have hdm := (HLA.out m0 hm0).1 hm1
          have hnl := hdm.lt HRE.out
          have hn2 : n < 2000 := Nat.lt_of_lt_of_le hnl HRS.out.2.1
          obtain ⟨S, hS1, hS2⟩ := Dp.list HRS.out.1 HRE.out n
          have hcnt := count_is HLY.out.st.dg.ok HL1.out hS1 (fun x => by
            rw [hS2]
            constructor
            · intro h
              have hx : x < 2 ^ L := by obtain ⟨⟨q, g1, _⟩, _⟩ := id h; exact HLT2.out q x g1
              exact ⟨hx, (HLA.out x hx).2 h⟩
            · rintro ⟨h1, h2⟩; exact (HLA.out x h1).1 h2)
          have hc3 := count_any wr sb L N' G' ly HLY.out.st.dg hL24 HL1.out
          rw [hcnt] at hc3
          have HC3 := Lib.hid hc3
          have HCS := Lib.hid (HCN.out.snoc ⟨S, hS1, fun e => by rw [e] at hS2; exact absurd ((hS2 m0).2 hdm) (by simp), by rw [HN.out]; exact hS2, rfl⟩)
          have hol : out.length ≤ 2000 := by rw [HN.out]; omega
          have hnl2 := hnl
          have c0 := HLY.out.st.c0.1
          have c0l := HLY.out.st.c0.2
          clear hc3 hcnt hdm hm1 hm0 hS1 hS2 HC1 HC2
          go_wp2_with fail
          refine HC3.out.mono ?_; rintro e w6 ⟨rfl, hk6⟩
          have HL6 := Lib.hid (HLY.out.keeps0 hk6)
          have hs6 := hk6.size
          generalize S.length = sl at HCS ⊢
          have KA := (Keeps.refl (fun _ => False) w6).alloc (.cells #[.int .i64 (sl : Int)] 3)
          clear hk6 c0 c0l q1
          go_wp2_with (at_builtin; refine wpList_append_lies _ rfl _ _ _ rfl w5.heap.size 3 j0 _ 1 8 Tryz.underlying22 hj0 jz0 jz1 jz2 rfl (by omega) _ out.length (out.map (Value.int .i64)) (by rfl) (World.ownsRow.alloc (o := .cells #[.int .i64 (sl : Int)] 3) HL6.out.row) ⟨w6.heap.size, 0, none⟩ 1 1 [.int .i64 (sl : Int)] (by rfl) (by rfl) ?hnews ?hone (by omega) (by unfold maxLen; omega) (by omega) (by simp; omega) (w6.heap.size + 1) (by simp) ?_)
          case hnews => exact World.news_of_block (cs := #[.int .i64 (sl : Int)]) (t := 3) (fr := (0, 0)) (heap_alloc_new _ _)
          case hone => simp [Value.oneCell']
          intro g cap2 w7 hown hgrow hat hlt7
          have HL7 := Lib.hid (LyS.grow (HL6.out.keeps0 KA) (steady_keeps hgrow) (ov' := .slice (some ⟨g, 0, none⟩) (out.length + 1) cap2) (out' := out ++ [(sl : Int)]) (by rw [List.length_append, List.map_append]; exact hown) (fun k hk => by cases hk; exact hat.imp (fun h => h) (fun h => by simp; omega)))
          have hs7 : w5.heap.size ≤ w7.heap.size := by have h1 := (steady_keeps hgrow).size; simp at h1; omega
          have HLY0' := Lib.hid (show DgOk L N' from HLY.out.st.dg.ok)
          clear hown hgrow hat hlt7 KA HLY HL6
          have g3 : w7.cell? ⟨w.heap.size, 3, none⟩ = some (.slice ao t.ops.length co) := HL7.out.st.k0.cell HB3.out.c3 (fun h => h)
          have gl := Nat.lt_of_lt_of_le HB3.out.lt HL7.out.st.k0.size
          have h40 := OK.out.few
          go_wp2_with fail
          go_loopw [11, 55] (fun xv iv wq => ∃ (j nx : Nat) (N2 : List Dn) (G2 : Nat → Prop), iv = .int .i64 (j : Int) ∧ j ≤ t.ops.length ∧ xv = .int .i64 (nx : Int) ∧ LyS w3 wq w5.heap.size ss sb L (L : Int) (.slice ai t.init.length ci) (.slice ag t.goal.length cg) (.slice ao t.ops.length co) gk N2 G2 (.slice (some ⟨g, 0, none⟩) (out.length + 1) cap2) (out ++ [(sl : Int)]) ∧ DgLe N' N2 ∧ nx < N2.length + 2 ∧ (∀ m, dv N2 nx m = imgsB (t.ops.take j) (dv N' ly) m) ∧ low N2 ≤ low N' + j * 38273024 ∧ w5.heap.size ≤ wq.heap.size) (fun _ iv _ => t.ops.length - (intOf iv).toNat)
          case atStart => exact ⟨0, 0, N', G', rfl, Nat.zero_le _, rfl, HL7.out, DgLe.refl _, by omega, fun m => by rw [dv_zero, List.take_zero]; rfl, by omega, hs7⟩
          case round =>
            obtain ⟨j, nx, N2, G2, rfl, hj, rfl, hlq, hle, hnx, hvx, hlow2, hszq⟩ := hrel
            have HLQ := Lib.hid hlq; have HLE := Lib.hid hle; have HNX := Lib.hid hnx; have HVX := Lib.hid hvx; have HLW := Lib.hid hlow2
            clear hlq hle hnx hvx hlow2 g3 gl
            by_cases hlt : j < t.ops.length
            · obtain ⟨o, ho⟩ : ∃ o, t.ops[j]? = some o := ⟨_, List.getElem?_eq_getElem hlt⟩
              have hok := OK.out.ops o (List.mem_of_getElem? ho)
              rw [hL] at hok
              obtain ⟨f1, f2, f3, f4⟩ := opr_few hL24 hok
              have HCO := Lib.hid (img_cost f1 f4 (opC_le ly))
              have HSD2 := Lib.hid HLQ.out.st.drew
              have HLD := Lib.hid (HLQ.out.keeps0 ((Keeps.refl (fun _ => False) wr).drew))
              have HLN := Lib.hid (show nx < N2.length + 2 ∧ ly < N2.length + 2 from ⟨HNX.out, by have h1 := HLE.out.len; have h2 := HL1.out; omega⟩)
              have HBG := Lib.hid (show low N2 + 37748736 + 600000 ≤ 5800000000000 from by have h1 := HLW.out; have h2 := HLO.out; omega)
              have HC1 := Lib.hid (image_any w3 wr.drew ss sb L N2 G2 (L : Int) _ _ _ gk ly j t.ops o HSD2.out hL24 HOPS.out ho h40 HLN.out.2 (isSet_iff.1 hok.pre).1 (isSet_iff.1 hok.add).1 (isSet_iff.1 hok.del).1 f1 f2 f3 (by have h1 := HCO.out; have h2 := HBG.out; omega))
              have c1 := HSD2.out.c0.1
              obtain ⟨c0, c0l⟩ := HLQ.out.st.c0
              have HOJ := Lib.hid ho
              have HLT3 := Lib.hid hlt
              clear ho hok f1 f2 f3 f4 hlt
              go_upto_region 15 with fail
              go_region_held3 (fun w' => w'.cell? ⟨ss, 0, none⟩ = some (.pointer (some ⟨sb, 0, none⟩)))
                (go_keep)
                (first
                  | (go_at_call 27; refine HC4.out.mono ?_; rintro en w9 ⟨k4, N4, G4, rfl, hp4, hd4, hk4, hn4⟩; have HP4 := Lib.hid hp4; have HL9 := Lib.hid (HL8.out.op hd4 hk4 hn4); have HSZ9 := Lib.hid (Nat.le_trans HSZ8.out hk4.size); have u1 := HL9.out.st.c0.1; clear hp4 hd4 hk4 hn4)
                  | (go_at_call 29; refine HC1.out.mono ?_; rintro en w8 ⟨k3, N3, G3, rfl, hp3, hz3, hs3, hk3, hn3⟩; have HP3 := Lib.hid hp3; have HL8 := Lib.hid (HLD.out.opS hs3 hk3 hn3); have HSZ8 := Lib.hid (show w5.heap.size ≤ w8.heap.size from Nat.le_trans hszq (Nat.le_trans ((Keeps.refl (fun _ => False) wr).drew).size hk3.size)); have t1 := HL8.out.st.c0.1; have HC4 := Lib.hid (or_any w8 sb L N3 G3 nx k3 hs3.dg hL24 (by have := hp3.le.len; have := HLN.out.1; omega) hp3.lt (by have h1 := hp3.cnt; have h2 := HCO.out; have h3 := HBG.out; have h4 := lowB_le L (min (lev L N3 nx) (lev L N3 k3)); omega)); clear hp3 hz3 hs3 hk3 hn3))
              all_goals
                go_wp2_with fail
                go_roundw
                case rel =>
                  have e1 : dv N2 ly = dv N' ly := funext fun m => HLE.out.dv HLY0'.out HL1.out m
                  refine ⟨j + 1, k4, N4, G4, by go_num, HLT3.out, rfl, HL9.out, (HLE.out.trans HP3.out.le).trans HP4.out.le, HP4.out.lt, fun m => ?_, ?_, HSZ9.out⟩
                  · rw [HP4.out.val, HP3.out.le.dv HSD2.out.dg.ok HLN.out.1, HP3.out.val, HVX.out, take_getS HOJ.out, imgsB_snoc, e1]; rfl
                  · have h1 := HP3.out.cnt; have h2 := HCO.out; have h3 := HP4.out.cnt; have h4 := lowB_le L (min (lev L N3 nx) (lev L N3 k3)); have h5 := HLW.out; omega
                case measure => simp [intOf]; have := HLT3.out; omega
            · have hje : j = t.ops.length := by omega
              subst hje
              have HAL2 := Lib.hid (show al < N2.length + 2 from by have h1 := HLE.out.len; have h2 := HL2.out; omega)
              have HBG := Lib.hid (show low N2 + 2000000 ≤ 5800000000000 from by have h1 := HLW.out; have h2 := HLO.out; omega)
              have HC1 := Lib.hid (without_any w3 wr ss sb L N2 G2 (L : Int) _ _ _ gk nx al HLQ.out.st hL24 HNX.out HAL2.out HBG.out)
              clear hlt
              go_wp2_with fail
              refine HC1.out.mono ?_; rintro e w8 ⟨k3, N3, G3, rfl, hp3, hz3, hs3, hk3, hn3⟩
              have HP3 := Lib.hid hp3
              have HL8 := Lib.hid (HLQ.out.opS hs3 hk3 hn3)
              have HSZ8 := Lib.hid (Nat.le_trans hszq hk3.size)
              obtain ⟨c0, c0l⟩ := HL8.out.st.c0
              have HC4 := Lib.hid (or_any w8 sb L N3 G3 al k3 hs3.dg hL24 (by have := hp3.le.len; have := HAL2.out; omega) hp3.lt (by have h1 := hp3.cnt; have h2 := opC_le nx; have h3 := HBG.out; have h4 := lowB_le L (min (lev L N3 al) (lev L N3 k3)); omega))
              clear hp3 hz3 hs3 hk3 hn3
              go_wp2_with fail
              refine HC4.out.mono ?_; rintro e w9 ⟨k4, N4, G4, rfl, hp4, hd4, hk4, hn4⟩
              have HP4 := Lib.hid hp4
              have HL9 := Lib.hid (HL8.out.op hd4 hk4 hn4)
              have HSZ9 := Lib.hid (Nat.le_trans HSZ8.out hk4.size)
              clear hp4 hd4 hk4 hn4 c0 c0l
              go_wp2_with fail
              go_roundw
              case rel =>
                have ok2 := HLQ.out.st.dg.ok
                have e1 : dv N2 al = dv N' al := funext fun m => HLE.out.dv HLY0'.out HL2.out m
                have e2 : dv N3 k3 = fun m => imgsB t.ops (dv N' ly) m && !dv N' al m := funext fun m => by
                  rw [HP3.out.val, HVX.out, List.take_of_length_le (Nat.le_refl _), e1]
                have e3 : dv N4 k3 = dv N3 k3 := funext fun m => HP4.out.le.dv HL8.out.st.dg.ok HP3.out.lt m
                have e4 : dv N3 al = dv N' al := by rw [← e1]; exact funext fun m => HP3.out.le.dv ok2 HAL2.out m
                have e5 : dv N4 k4 = fun m => dv N' al m || dv N3 k3 m := funext fun m => by rw [HP4.out.val, e4]
                have hlay : LayIs L (wordsOf t.ops) (wd t.init) (dv N3 k3) (n + 1) := by
                  rw [e2]
                  exact LayIs.next hL24 (fun o ho => by have := OK.out.ops o ho; rw [hL] at this; exact this) HLT2.out HLA.out HAL.out
                refine ⟨n + 1, k3, k4, out ++ [(sl : Int)], N4, G4, rfl, rfl, HL9.out, by rw [List.length_append, HN.out]; rfl, HCS.out, by rw [e3]; exact hlay, by rw [e5]; exact HAL.out.next hlay, by have := HP4.out.le.len; have := HP3.out.lt; omega, HP4.out.lt, ?_, HSZ9.out⟩
                have h1 := HP3.out.cnt; have h2 := opC_le nx; have h3 := HP4.out.cnt; have h4 := lowB_le L (min (lev L N3 al) (lev L N3 k3)); have h5 := HLW.out; have h6 := HLO.out
                omega
              case measure => simp only [slen]; have hno := HN.out; omega

end Go.Proofs.YtjcgkmodmjckjaaGreat
